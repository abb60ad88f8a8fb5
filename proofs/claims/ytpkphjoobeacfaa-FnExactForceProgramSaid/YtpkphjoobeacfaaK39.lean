/- The rows of the equilibrium matrix and the right side, of the reference. -/
import Derived.Test.YtpkphjoobeacfaaK38
namespace Go.Proofs.Ytpkphjoobeacfaa.Vm
open Go Go.Proofs
set_option linter.unusedSimpArgs false
set_option linter.unusedVariables false

def rowsTo (s : Str) (n : Nat) : List Int := ((frees s.js).take n).flatMap fun j => rowX s j ++ rowY s j
def rowsF (s : Str) : List Int := (frees s.js).flatMap fun j => rowX s j ++ rowY s j
theorem rowsTo_succ (s : Str) (n : Nat) (h : n < (frees s.js).length) : rowsTo s (n + 1) = rowsTo s n ++ rowX s (frees s.js)[n] ++ rowY s (frees s.js)[n] := by
  unfold rowsTo
  rw [List.take_add_one, List.getElem?_eq_getElem h, List.flatMap_append]; simp
theorem rowsTo_length (s : Str) : ∀ n, n ≤ (frees s.js).length → (rowsTo s n).length = 2 * s.ms.length * n
  | 0, _ => by simp [rowsTo]
  | n + 1, h => by
    rw [rowsTo_succ s n (by omega), List.length_append, List.length_append, rowsTo_length s n (by omega), rowX_length, rowY_length, Nat.mul_add]; omega

structure Three where
  i : Nat
  g : Int
  b : Int → Option Blk
def threeInv (bl : Int → Option Blk) (s : Str) (gs : Int) (p : Three) : Prop :=
  p.i ≤ (frees s.js).length ∧ p.g ≠ gs ∧ p.b p.g = some ⟨1, iv (rowsTo s p.i)⟩ ∧ p.b gs = some ⟨2, [[.sl (jv s.js), .sl (mv s.ms)]]⟩ ∧ bl p.g = none ∧ Sub bl p.b ∧ (p.g < 0 → rowsTo s p.i = [])

def xTo (s : Str) (j : Int) (n : Nat) : List Int := (s.ms.take n).map (eqX s j)
def yTo (s : Str) (j : Int) (n : Nat) : List Int := (s.ms.take n).map (eqY s j)
theorem xTo_succ (s : Str) (j : Int) (n : Nat) (h : n < s.ms.length) : xTo s j (n + 1) = xTo s j n ++ [eqX s j s.ms[n]] := by
  unfold xTo; rw [List.take_add_one, List.getElem?_eq_getElem h, List.map_append]; rfl
theorem yTo_succ (s : Str) (j : Int) (n : Nat) (h : n < s.ms.length) : yTo s j (n + 1) = yTo s j n ++ [eqY s j s.ms[n]] := by
  unfold yTo; rw [List.take_add_one, List.getElem?_eq_getElem h, List.map_append]; rfl
theorem xTo_all (s : Str) (j : Int) : xTo s j s.ms.length = rowX s j := by simp [xTo, rowX]
theorem yTo_all (s : Str) (j : Int) : yTo s j s.ms.length = rowY s j := by simp [yTo, rowY]
theorem xTo_length (s : Str) (j : Int) (n : Nat) (h : n ≤ s.ms.length) : (xTo s j n).length = n := by simp [xTo]; omega
theorem yTo_length (s : Str) (j : Int) (n : Nat) (h : n ≤ s.ms.length) : (yTo s j n).length = n := by simp [yTo]; omega

set_option maxHeartbeats 2000000 in
theorem l14Rows_nw (s : Str) (hs : SOk s) : NW Try.prog 134 [.agg s.c] (fl 1 (iv (rowsF s))) := by
  have h6 := hs.nj
  have h8 := hs.nm
  have hfr := freesTo_le s.js s.js.length
  change (frees s.js).length ≤ s.js.length at hfr
  refine nw_of Try.func134 rfl rfl (by rw [Try.ntmps134]; simp) fun bl => ?_
  rw [Try.ntmps134, Try.results134]
  refine AW_run ?_
  simp [Str.c]
  intro gs hgs0 hgs ga hga0 hgas hbga
  simp [Str.c, hgas, Ne.symm hgas]
  refine callP_ro (l12Free_ro s (by omega)) ?_
  simp
  refine AW_for (fun p : Three => [(1, .loc gs 2 0 0), (3, .lsl p.g 1 0 (2 * s.ms.length * p.i)), (14, .sl (iv (frees s.js))), (15, .int .i64 (frees s.js).length), (16, .int .i64 p.i)]) (fun p => p.b) (threeInv bl s gs) (fun p => (frees s.js).length - p.i) 78
    ⟨0, ga, upd (upd bl gs (some ⟨2, [[.sl (jv s.js), .sl (mv s.ms)]]⟩)) ga (some ⟨1, []⟩)⟩ ⟨Nat.zero_le _, hgas, by simp [rowsTo, iv], by simp [Ne.symm hgas], hbga, by simp [hgs, hbga], fun _ => rfl⟩ ⟨rfl, by simp, sub_eq (by simp [Str.c])⟩ ?_
  rintro ⟨i, g, b⟩ ⟨hi, hgg, hbg, hbs, hg, hsb, h0⟩
  simp only at hi hgg hbg hbs hg hsb h0
  refine AW_run ?_
  simp
  refine ⟨fun h => ?_, fun h => ?_⟩
  · have q := iv_get (frees s.js) i h
    simp [h]
    obtain ⟨j, hj⟩ : ∃ j, (frees s.js)[i] = j := ⟨_, rfl⟩
    rw [hj]
    intro gx hgx0 hbx gy hgy0 hyx hby
    have nxs : gx ≠ gs := fun e => by rw [e, hbs] at hbx; cases hbx
    have nys : gy ≠ gs := fun e => by rw [e, hbs] at hby; cases hby
    have nxg : gx ≠ g := fun e => by rw [e, hbg] at hbx; cases hbx
    have nyg : gy ≠ g := fun e => by rw [e, hbg] at hby; cases hby
    simp [nxs, Ne.symm nxs, nys, Ne.symm nys, hbs]
    refine AW_for (fun p : Two => [(1, .loc gs 2 0 0), (3, .lsl g 1 0 (2 * s.ms.length * i)), (5, .int .i64 j), (6, .lsl p.g 1 0 p.i), (7, .lsl p.h 1 0 p.i), (14, .sl (iv (frees s.js))), (15, .int .i64 (frees s.js).length), (16, .int .i64 i), (23, .sl (mv s.ms)), (24, .int .i64 s.ms.length), (25, .int .i64 p.i)])
      (fun p => p.b) (fun p => twoInv b (xTo s j) (yTo s j) s.ms.length p ∧ 0 ≤ p.g ∧ 0 ≤ p.h) (fun p => s.ms.length - p.i) 78 ⟨0, gx, gy, upd (upd b gx (some ⟨1, []⟩)) gy (some ⟨1, []⟩)⟩ ⟨⟨Nat.zero_le _, Ne.symm hyx, by simp [Ne.symm hyx, xTo, iv], by simp [yTo, iv], hbx, hby, by simp [hbx, hby], fun _ => rfl, fun _ => rfl⟩, hgx0, hgy0⟩ ⟨rfl, by simp, sub_eq (by simp)⟩ ?_
    rintro ⟨k, x, y, c⟩ ⟨⟨hk, hxy, hcx, hcy, hbx', hby', hsc, _, _⟩, hx0, hy0⟩
    simp only at hk hxy hcx hcy hbx' hby' hsc hx0 hy0
    have hcs := hsc _ _ hbs
    have hcg := hsc _ _ hbg
    have fr : ∀ x, c x = none → b x = none := fun x hx => fresh_of hsc hx
    have lx := xTo_length s j k hk
    have ly := yTo_length s j k hk
    have tkx : (iv (xTo s j k)).take k = iv (xTo s j k) := List.take_of_length_le (by simp [lx])
    have tky : (iv (yTo s j k)).take k = iv (yTo s j k) := List.take_of_length_le (by simp [ly])
    refine AW_run ?_
    simp
    refine ⟨fun hkl => ?_, fun hkl => ?_⟩
    · have hv := v_le hs (List.getElem_mem hkl)
      have hm : mat s (k : Int) = s.ms[k] := mat_nat hkl
      have hvec := l12Vector_ro s k hs (by omega) (by omega)
      rw [hm] at hvec
      have w1 : IntKind.i64.wrap ((k : Int) + 1) = k + 1 := i64_in (by omega) (by omega)
      have nx : IntKind.i64.wrap (-vx s s.ms[k]) = -vx s s.ms[k] := i64_in (by omega) (by omega)
      have ny : IntKind.i64.wrap (-vy s s.ms[k]) = -vy s s.ms[k] := i64_in (by omega) (by omega)
      have sx := xTo_succ s j k hkl
      have sy := yTo_succ s j k hkl
      simp [hkl, Mb.c]
      intro g1 hg1 hb1
      have n1s : g1 ≠ gs := fun e => by rw [e, hcs] at hb1; cases hb1
      have n1x : g1 ≠ x := fun e => by rw [e, hcx] at hb1; cases hb1
      have n1y : g1 ≠ y := fun e => by rw [e, hcy] at hb1; cases hb1
      simp [n1s, Ne.symm n1s, hcs]
      refine callP_ro hvec ?_
      simp
      refine ⟨fun e1 => ?_, fun e1 => ⟨fun e2 => ?_, fun e2 => ?_⟩⟩
      · intro g2 hg2 h21 hb2
        have n2x : g2 ≠ x := fun e => by rw [e, hcx] at hb2; cases hb2
        have n2y : g2 ≠ y := fun e => by rw [e, hcy] at hb2; cases hb2
        simp [hcx, n1x, h21, n2x, Ne.symm n1x, Ne.symm h21, Ne.symm n2x, lx, tkx, nx, ny, appV, elsV, Int.not_lt.2 hg2]
        refine ⟨by omega, fun g3 hg3 hb3 => ?_⟩
        have n31 : g3 ≠ g1 := by grind
        have n3y : g3 ≠ y := by grind
        simp [n31, Ne.symm n31, n3y, Ne.symm n3y, nx, ny]
        intro g4 hg4 h43 hb4
        have n41 : g4 ≠ g1 := by grind
        have n4y : g4 ≠ y := by grind
        simp [hxy, Ne.symm hxy, hcy, n1y, Ne.symm n1y, n2y, Ne.symm n2y, n31, Ne.symm n31, n3y, Ne.symm n3y, n41, Ne.symm n41, n4y, Ne.symm n4y, h43, Ne.symm h43, ly, tky, lx, tkx, nx, ny, appV, elsV, Int.not_lt.2 hg4]
        refine ⟨by omega, fun g5 hg5 hb5 => ?_⟩
        have n51 : g5 ≠ g1 := by grind
        have n53 : g5 ≠ g3 := by grind
        have f1 : eqX s j s.ms[k] = vx s s.ms[k] := by rw [eqX, if_pos e1]
        have f2 : eqY s j s.ms[k] = vy s s.ms[k] := by rw [eqY, if_pos e1]
        rw [f1] at sx
        rw [f2] at sy
        simp [w1, loopQ_normal]
        refine ⟨⟨k + 1, g3, g5, _⟩, ⟨⟨by simp only; omega, by simp only; grind, ?_, ?_, by simp only; grind, by simp only; grind, ?_, fun e => by simp only at e; omega, fun e => by simp only at e; omega⟩, hg3, hg5⟩, by simp only; omega, rfl, by simp, sub_eq rfl⟩
        · simp [hxy, Ne.symm hxy, n31, Ne.symm n31, n51, Ne.symm n51, n53, Ne.symm n53, n41, Ne.symm n41, h43, Ne.symm h43, n3y, Ne.symm n3y, n4y, Ne.symm n4y, sx, iv_append, iv_one, tkx, tky]
        · simp [hxy, Ne.symm hxy, n31, Ne.symm n31, n51, Ne.symm n51, n53, Ne.symm n53, n41, Ne.symm n41, h43, Ne.symm h43, n3y, Ne.symm n3y, n4y, Ne.symm n4y, sy, iv_append, iv_one, tkx, tky]
        · intro u z hx
          have hbx := hsc u z hx
          have ng : u ≠ x := fun e => by rw [e, hbx'] at hx; cases hx
          have nh : u ≠ y := fun e => by rw [e, hby'] at hx; cases hx
          simp [upd_apply, rem_apply]
          grind
      · intro g2 hg2 h21 hb2
        have n2x : g2 ≠ x := fun e => by rw [e, hcx] at hb2; cases hb2
        have n2y : g2 ≠ y := fun e => by rw [e, hcy] at hb2; cases hb2
        simp [hcx, n1x, h21, n2x, Ne.symm n1x, Ne.symm h21, Ne.symm n2x, lx, tkx, nx, ny, appV, elsV, Int.not_lt.2 hg2]
        refine ⟨by omega, fun g3 hg3 hb3 => ?_⟩
        have n31 : g3 ≠ g1 := by grind
        have n3y : g3 ≠ y := by grind
        simp [n31, Ne.symm n31, n3y, Ne.symm n3y, nx, ny]
        intro g4 hg4 h43 hb4
        have n41 : g4 ≠ g1 := by grind
        have n4y : g4 ≠ y := by grind
        simp [hxy, Ne.symm hxy, hcy, n1y, Ne.symm n1y, n2y, Ne.symm n2y, n31, Ne.symm n31, n3y, Ne.symm n3y, n41, Ne.symm n41, n4y, Ne.symm n4y, h43, Ne.symm h43, ly, tky, lx, tkx, nx, ny, appV, elsV, Int.not_lt.2 hg4]
        refine ⟨by omega, fun g5 hg5 hb5 => ?_⟩
        have n51 : g5 ≠ g1 := by grind
        have n53 : g5 ≠ g3 := by grind
        have f1 : eqX s j s.ms[k] = -vx s s.ms[k] := by rw [eqX, if_neg e1, if_pos e2]
        have f2 : eqY s j s.ms[k] = -vy s s.ms[k] := by rw [eqY, if_neg e1, if_pos e2]
        rw [f1] at sx
        rw [f2] at sy
        simp [w1, loopQ_normal]
        refine ⟨⟨k + 1, g3, g5, _⟩, ⟨⟨by simp only; omega, by simp only; grind, ?_, ?_, by simp only; grind, by simp only; grind, ?_, fun e => by simp only at e; omega, fun e => by simp only at e; omega⟩, hg3, hg5⟩, by simp only; omega, rfl, by simp, sub_eq rfl⟩
        · simp [hxy, Ne.symm hxy, n31, Ne.symm n31, n51, Ne.symm n51, n53, Ne.symm n53, n41, Ne.symm n41, h43, Ne.symm h43, n3y, Ne.symm n3y, n4y, Ne.symm n4y, sx, iv_append, iv_one, tkx, tky]
        · simp [hxy, Ne.symm hxy, n31, Ne.symm n31, n51, Ne.symm n51, n53, Ne.symm n53, n41, Ne.symm n41, h43, Ne.symm h43, n3y, Ne.symm n3y, n4y, Ne.symm n4y, sy, iv_append, iv_one, tkx, tky]
        · intro u z hx
          have hbx := hsc u z hx
          have ng : u ≠ x := fun e => by rw [e, hbx'] at hx; cases hx
          have nh : u ≠ y := fun e => by rw [e, hby'] at hx; cases hx
          simp [upd_apply, rem_apply]
          grind
      · intro g2 hg2 h21 hb2
        have n2x : g2 ≠ x := fun e => by rw [e, hcx] at hb2; cases hb2
        have n2y : g2 ≠ y := fun e => by rw [e, hcy] at hb2; cases hb2
        simp [hcx, n1x, h21, n2x, Ne.symm n1x, Ne.symm h21, Ne.symm n2x, lx, tkx, nx, ny, appV, elsV, Int.not_lt.2 hg2]
        refine ⟨by omega, fun g3 hg3 hb3 => ?_⟩
        have n31 : g3 ≠ g1 := by grind
        have n3y : g3 ≠ y := by grind
        simp [n31, Ne.symm n31, n3y, Ne.symm n3y, nx, ny]
        intro g4 hg4 h43 hb4
        have n41 : g4 ≠ g1 := by grind
        have n4y : g4 ≠ y := by grind
        simp [hxy, Ne.symm hxy, hcy, n1y, Ne.symm n1y, n2y, Ne.symm n2y, n31, Ne.symm n31, n3y, Ne.symm n3y, n41, Ne.symm n41, n4y, Ne.symm n4y, h43, Ne.symm h43, ly, tky, lx, tkx, nx, ny, appV, elsV, Int.not_lt.2 hg4]
        refine ⟨by omega, fun g5 hg5 hb5 => ?_⟩
        have n51 : g5 ≠ g1 := by grind
        have n53 : g5 ≠ g3 := by grind
        have f1 : eqX s j s.ms[k] = 0 := by rw [eqX, if_neg e1, if_neg e2]
        have f2 : eqY s j s.ms[k] = 0 := by rw [eqY, if_neg e1, if_neg e2]
        rw [f1] at sx
        rw [f2] at sy
        simp [w1, loopQ_normal]
        refine ⟨⟨k + 1, g3, g5, _⟩, ⟨⟨by simp only; omega, by simp only; grind, ?_, ?_, by simp only; grind, by simp only; grind, ?_, fun e => by simp only at e; omega, fun e => by simp only at e; omega⟩, hg3, hg5⟩, by simp only; omega, rfl, by simp, sub_eq rfl⟩
        · simp [hxy, Ne.symm hxy, n31, Ne.symm n31, n51, Ne.symm n51, n53, Ne.symm n53, n41, Ne.symm n41, h43, Ne.symm h43, n3y, Ne.symm n3y, n4y, Ne.symm n4y, sx, iv_append, iv_one, tkx, tky]
        · simp [hxy, Ne.symm hxy, n31, Ne.symm n31, n51, Ne.symm n51, n53, Ne.symm n53, n41, Ne.symm n41, h43, Ne.symm h43, n3y, Ne.symm n3y, n4y, Ne.symm n4y, sy, iv_append, iv_one, tkx, tky]
        · intro u z hx
          have hbx := hsc u z hx
          have ng : u ≠ x := fun e => by rw [e, hbx'] at hx; cases hx
          have nh : u ≠ y := fun e => by rw [e, hby'] at hx; cases hx
          simp [upd_apply, rem_apply]
          grind
    · have : k = s.ms.length := by omega
      subst this
      rw [xTo_all] at hcx
      rw [yTo_all] at hcy
      have nxs' : x ≠ gs := fun e => by rw [e, hbs] at hbx'; cases hbx'
      have nys' : y ≠ gs := fun e => by rw [e, hbs] at hby'; cases hby'
      have nxg' : x ≠ g := fun e => by rw [e, hbg] at hbx'; cases hbx'
      have nyg' : y ≠ g := fun e => by rw [e, hbg] at hby'; cases hby'
      have lr := rowsTo_length s i (by omega)
      have tkr : (iv (rowsTo s i)).take (2 * s.ms.length * i) = iv (rowsTo s i) := List.take_of_length_le (by simp [lr])
      have tkX : (iv (rowX s j)).take s.ms.length = iv (rowX s j) := List.take_of_length_le (by simp)
      have tkY : (iv (rowY s j)).take s.ms.length = iv (rowY s j) := List.take_of_length_le (by simp)
      have hi6 : 2 * s.ms.length * i ≤ 2 * 8 * 6 := Nat.mul_le_mul (by omega) (by omega)
      simp [hcg, hcx, hcy, nxg', nyg', Ne.symm nxg', Ne.symm nyg', Int.not_lt.2 hx0, Int.not_lt.2 hy0, appV, elsV, lr, tkr, tkX, tkY]
      refine ⟨by omega, fun go hgo hbo => ?_⟩
      have nos : go ≠ gs := by grind
      have nox : go ≠ x := by grind
      have noy : go ≠ y := by grind
      simp [nox, noy, Ne.symm nox, Ne.symm noy, nxg', nyg', Ne.symm nxg', Ne.symm nyg', hcx, hcy, Int.not_lt.2 hx0, Int.not_lt.2 hy0, appV, elsV, lr, tkr, tkX, tkY]
      refine ⟨by omega, fun gn hgn hbn => ?_⟩
      have nns : gn ≠ gs := by grind
      have w2 : IntKind.i64.wrap ((i : Int) + 1) = i + 1 := i64_in (by omega) (by omega)
      subst hj
      have rs := rowsTo_succ s i h
      have h1 : bl go = none := by
        by_cases e : go = g
        · rw [e]; exact hg
        · exact fresh_of hsb (fr _ (hbo e))
      have h2 : bl gn = none := by
        by_cases e : gn = go
        · rw [e]; exact h1
        · by_cases e2 : gn = g
          · rw [e2]; exact hg
          · exact fresh_of hsb (fr _ (by grind))
      simp [w2, loopQ_normal]
      refine ⟨⟨i + 1, gn, _⟩, ⟨by simp only; omega, nns, ?_, ?_, h2, ?_, ?_⟩, by simp only; omega, rfl, ?_, sub_eq rfl⟩
      · have tk2 : (iv (rowsTo s i) ++ iv (rowX s (frees s.js)[i])).take (2 * s.ms.length * i + s.ms.length) = iv (rowsTo s i) ++ iv (rowX s (frees s.js)[i]) := List.take_of_length_le (by simp [lr])
        simp [rs, iv_append, tk2]
      · simp [Ne.symm nns, Ne.symm nos, Ne.symm hgg, hcs]
      · intro u z hx
        have hbx := hsc u z (hsb u z hx)
        have n1 : u ≠ g := fun e => by rw [e, hg] at hx; cases hx
        have n2 : u ≠ go := fun e => by rw [e, h1] at hx; cases hx
        have n3 : u ≠ gn := fun e => by rw [e, h2] at hx; cases hx
        simp [n1, n2, n3, hbx]
      · intro e
        simp only at e ⊢
        have ez : s.ms = [] := by
          rcases hgn with hn | ⟨_, hn⟩
          · omega
          · have := congrArg List.length hn
            simpa using this
        have er := lr
        rw [ez] at er
        rw [rs]
        simp [rowX, rowY, ez] at er ⊢
        exact er
      · simp [Nat.mul_add]; omega
  · have : i = (frees s.js).length := by omega
    subst this
    refine retNW [.lsl g 1 0 (2 * s.ms.length * (frees s.js).length)] [g] (by simp) ?_ (by simpa using hg) hsb
    have e : rowsF s = rowsTo s (frees s.js).length := by simp [rowsF, rowsTo]
    refine own_iv.2 (.inr ⟨g, ?_, rfl, by rw [e]; exact hbg, by rw [e]; exact h0⟩)
    rw [e, rowsTo_length s _ (Nat.le_refl _)]; rfl

theorem l14Rows_ro (s : Str) (hs : SOk s) : RO Try.prog 134 [.agg s.c] (.sl (iv (rowsF s))) := by
  have := ro_of_nw 1 (l14Rows_nw s hs) (fl_dep _ _ 0)
  simpa using this

/-- AW_mixed where less is held fast than there is. -/
theorem AW_mixedB {P : Program} {id : Nat} {ops : Array Oper} {K : Ex → St → Prop} {σ : St} (hm : P.follows .mixedOrders = true) (blK : Int → Option Blk) (hs : Sub blK σ.bl) (is : List Nat) (fuel : Nat) (hn : (ops.size == fuel + is.length && is.all (fun i => decide (i < ops.size)) && hoistB ops is (Array.replicate ops.size false)) = true)
    (h : HoistF P (ops.toList.map (·.dst)) blK (is.filterMap fun i => ops[i]?) (DAny P ops blK (fun _ => false) (K .normal) fuel (setAll is (Array.replicate ops.size false))) σ) : AW P (.region id ops true) K σ := by
  simp only [Bool.and_eq_true, beq_iff_eq] at hn
  exact AW_draw_mixed hm is fuel blK hs hn.1.1 hn.2 (tl := fun _ => false) (fun _ _ _ _ h => by cases h) (Hoist_is _ is σ (filter_some is hn.1.2) h)

/-- Minus the load at the free joints. -/
def rightTo (s : Str) (l : List Int) (n : Nat) : List Int := ((frees s.js).take n).flatMap fun j => [-lat l (2 * j).toNat, -lat l (2 * j + 1).toNat]
def right (s : Str) (l : List Int) : List Int := (frees s.js).flatMap fun j => [-lat l (2 * j).toNat, -lat l (2 * j + 1).toNat]
theorem rightTo_succ (s : Str) (l : List Int) (n : Nat) (h : n < (frees s.js).length) : rightTo s l (n + 1) = rightTo s l n ++ [-lat l (2 * (frees s.js)[n]).toNat, -lat l (2 * (frees s.js)[n] + 1).toNat] := by
  unfold rightTo
  rw [List.take_add_one, List.getElem?_eq_getElem h, List.flatMap_append]; simp
theorem rightTo_length (s : Str) (l : List Int) : ∀ n, n ≤ (frees s.js).length → (rightTo s l n).length = 2 * n
  | 0, _ => by simp [rightTo]
  | n + 1, h => by
    rw [rightTo_succ s l n (by omega), List.length_append, rightTo_length s l n (by omega)]; simp; omega
theorem frees_range {s : Str} {j : Int} (h : j ∈ frees s.js) : 0 ≤ j ∧ j < s.js.length := by
  unfold frees freesTo at h
  obtain ⟨k, hk, rfl⟩ := List.mem_map.1 h
  have := List.mem_range.1 (List.mem_filter.1 hk).1
  omega

theorem l15Right_nw (s : Str) (l : List Int) (hL : LOk s l) : NW Try.prog 135 [.agg s.c, .sl (iv l)] (fl 1 (iv (right s l))) := by
  have h6 := hL.sok.nj
  have hfr := freesTo_le s.js s.js.length
  change (frees s.js).length ≤ s.js.length at hfr
  refine nw_of Try.func135 rfl rfl (by rw [Try.ntmps135]; simp) fun bl => ?_
  rw [Try.ntmps135, Try.results135]
  refine AW_run ?_
  simp [Str.c]
  intro gs hgs0 hgs ga hga0 hgas hbga
  simp [Str.c, hgas, Ne.symm hgas]
  refine callP_ro (l12Free_ro s (by omega)) ?_
  simp
  refine AW_for (fun p : Nat × Int => [(1, .sl (iv l)), (5, .lsl p.2 1 0 (2 * p.1)), (10, .sl (iv (frees s.js))), (11, .int .i64 (frees s.js).length), (12, .int .i64 p.1)]) (fun p => upd bl p.2 (some ⟨1, iv (rightTo s l p.1)⟩)) (fun p => p.1 ≤ (frees s.js).length ∧ bl p.2 = none ∧ (p.2 < 0 → rightTo s l p.1 = [])) (fun p => (frees s.js).length - p.1) 34 (0, ga) ⟨Nat.zero_le _, hbga, fun _ => rfl⟩ (by refine ⟨rfl, by simp, ?_⟩; exact sub_put (by simp [rightTo, iv]) (by simp [hgs])) ?_
  rintro ⟨i, g⟩ ⟨hi, hg, h0⟩
  simp only at hi hg h0
  refine AW_run ?_
  simp
  refine ⟨fun h => ?_, fun h => ?_⟩
  · have q := iv_get (frees s.js) i h
    obtain ⟨r1, r2⟩ := frees_range (List.getElem_mem h)
    have rs := rightTo_succ s l i h
    simp [h]
    obtain ⟨j, hj⟩ : ∃ j, (frees s.js)[i] = j := ⟨_, rfl⟩
    rw [hj] at r1 r2 rs ⊢
    have a1 : (2 * j).toNat < l.length := by rw [hL.n]; omega
    have a2 : (2 * j + 1).toNat < l.length := by rw [hL.n]; omega
    have b1 := hL.f _ a1
    have b2 := hL.f _ a2
    have q1 := iv_at a1
    have q2 := iv_at a2
    have w1 : IntKind.i64.wrap (2 * j) = 2 * j := i64_in (by omega) (by omega)
    have w2 : IntKind.i64.wrap (2 * j + 1) = 2 * j + 1 := i64_in (by omega) (by omega)
    have w3 : IntKind.i64.wrap (-lat l (2 * j).toNat) = -lat l (2 * j).toNat := i64_in (by omega) (by omega)
    have w4 : IntKind.i64.wrap (-lat l (2 * j + 1).toNat) = -lat l (2 * j + 1).toNat := i64_in (by omega) (by omega)
    have w5 : IntKind.i64.wrap ((i : Int) + 1) = i + 1 := i64_in (by omega) (by omega)
    have p1 : 0 ≤ 2 * j := by omega
    have p2 : 0 ≤ 2 * j + 1 := by omega
    refine AW_mixedB mixedO bl (by simp [hg]) [0, 1, 2, 3, 4, 5, 6, 7, 8, 9, 10, 11, 12, 13] 3 (by kernel_rfl) ?_
    simp [-iv_get, w1, w2, w3, w4, q1, q2, p1, p2]
    have er2 : List.range 2 = [0, 1] := rfl
    have lr := rightTo_length s l i (by omega)
    have tkr : (iv (rightTo s l i)).take (2 * i) = iv (rightTo s l i) := List.take_of_length_le (by simp [lr])
    refine DAny_one (i := 14) (by kernel_rfl) rfl rfl ?_
    simp
    intro gp hgp hpg hbp
    refine ⟨by simp [hbp, hg], DAny_one (i := 15) (by kernel_rfl) rfl rfl ?_⟩
    simp [er2, hpg, Ne.symm hpg, lr, tkr, appV, elsV, Int.not_lt.2 hgp]
    refine ⟨by omega, fun gn hgn hbn => ?_⟩
    have hgb : bl gn = none := by grind
    have hsb : ∀ X, Sub bl (upd (rem (upd (upd bl g (some ⟨1, iv (rightTo s l i)⟩)) gp (some ⟨1, [[.int .i64 (-lat l (2 * j).toNat)], [.int .i64 (-lat l (2 * j + 1).toNat)]]⟩)) g) gn X) := fun X => by simp [hg, hbp, hgb, hpg]
    refine ⟨hsb _, DAny_one (i := 16) (by kernel_rfl) rfl rfl ?_⟩
    simp
    refine ⟨hsb _, DAny_done (by kernel_rfl) ?_⟩
    simp [w5, loopQ_normal]
    refine ⟨i + 1, gn, ⟨by omega, ?_, by omega⟩, by omega, rfl, by simp; omega, ?_⟩
    · grind
    rw [rs, iv_append]
    exact sub_put (by rfl) (by simp [hg, hbp, hpg])
  · have : i = (frees s.js).length := by omega
    subst this
    refine retNW [.lsl g 1 0 (2 * (frees s.js).length)] [g] (by simp) ?_ (by simpa using hg) (by simp [hg])
    have e : right s l = rightTo s l (frees s.js).length := by simp [right, rightTo]
    refine own_iv.2 (.inr ⟨g, ?_, rfl, by rw [e]; simp, by rw [e]; exact h0⟩)
    rw [e, rightTo_length s l _ (Nat.le_refl _)]; rfl

theorem l15Right_ro (s : Str) (l : List Int) (hL : LOk s l) : RO Try.prog 135 [.agg s.c, .sl (iv l)] (.sl (iv (right s l))) := by
  have := ro_of_nw 1 (l15Right_nw s l hL) (fl_dep _ _ 0)
  simpa using this

end Go.Proofs.Ytpkphjoobeacfaa.Vm
