/- The rows of the equilibrium matrix and the right side, of the reference. -/


import Derived.Test.YticmgmemnpcbbaaGreatQCFnExactCanCarry6

namespace Go.Proofs.YticmgmemnpcbbaaGreat.Vm
open Go Go.Proofs
set_option linter.unusedSimpArgs false
set_option linter.unusedVariables false

def rowsTo (s : Str) (n : Nat) : List Int := ((frees s.js).take n).flatMap fun j => rowX s j ++ rowY s j
def rowsF (s : Str) : List Int := (frees s.js).flatMap fun j => rowX s j ++ rowY s j
theorem rowsTo_succ (s : Str) (n : Nat) (h : n < (frees s.js).length) : rowsTo s (n + 1) = rowsTo s n ++ rowX s (frees s.js)[n] ++ rowY s (frees s.js)[n] := by
  unfold rowsTo
  rw [List.take_add_one, List.getElem?_eq_getElem h, List.flatMap_append]; simp
theorem rowsTo_length (s : Str) : ∀ n, n ≤ (frees s.js).length → (rowsTo s n).length = 2 * s.ms.length * n
  | 0, _ => by simp [rowsTo]
  | n + 1, h => by
    rw [rowsTo_succ s n (by omega), List.length_append, List.length_append, rowsTo_length s n (by omega), rowX_length, rowY_length, Nat.mul_add]; omega

structure Three where
  i : Nat
  g : Int
  b : Int → Option Blk
def threeInv (bl : Int → Option Blk) (s : Str) (gs : Int) (p : Three) : Prop :=
  p.i ≤ (frees s.js).length ∧ p.g ≠ gs ∧ p.b p.g = some ⟨1, iv (rowsTo s p.i)⟩ ∧ p.b gs = some ⟨2, [[.sl (jv s.js), .sl (mv s.ms)]]⟩ ∧ bl p.g = none ∧ Sub bl p.b ∧ (p.g < 0 → rowsTo s p.i = [])

def xTo (s : Str) (j : Int) (n : Nat) : List Int := (s.ms.take n).map (eqX s j)
def yTo (s : Str) (j : Int) (n : Nat) : List Int := (s.ms.take n).map (eqY s j)
theorem xTo_succ (s : Str) (j : Int) (n : Nat) (h : n < s.ms.length) : xTo s j (n + 1) = xTo s j n ++ [eqX s j s.ms[n]] := by
  unfold xTo; rw [List.take_add_one, List.getElem?_eq_getElem h, List.map_append]; rfl
theorem yTo_succ (s : Str) (j : Int) (n : Nat) (h : n < s.ms.length) : yTo s j (n + 1) = yTo s j n ++ [eqY s j s.ms[n]] := by
  unfold yTo; rw [List.take_add_one, List.getElem?_eq_getElem h, List.map_append]; rfl
theorem xTo_all (s : Str) (j : Int) : xTo s j s.ms.length = rowX s j := by simp [xTo, rowX]
theorem yTo_all (s : Str) (j : Int) : yTo s j s.ms.length = rowY s j := by simp [yTo, rowY]
theorem xTo_length (s : Str) (j : Int) (n : Nat) (h : n ≤ s.ms.length) : (xTo s j n).length = n := by simp [xTo]; omega
theorem yTo_length (s : Str) (j : Int) (n : Nat) (h : n ≤ s.ms.length) : (yTo s j n).length = n := by simp [yTo]; omega

set_option maxHeartbeats 2000000 in
theorem l14Rows_nw (s : Str) (hs : SOk s) : NW Tryz.prog 193 [.agg s.c] (fl 1 (iv (rowsF s))) := by
  have h6 := hs.nj
  have h8 := hs.nm
  have hfr := freesTo_le s.js s.js.length
  change (frees s.js).length ≤ s.js.length at hfr
  refine nw_of Tryz.func193 rfl rfl (by rw [Tryz.ntmps193]; simp) fun bl => ?_
  rw [Tryz.ntmps193, Tryz.results193]
  refine AW_run ?_
  simp [Str.c]
  intro gs hgs0 hgs ga hga0 hgas hbga
  simp [Str.c, hgas, Ne.symm hgas]
  refine callP_ro (l12Free_ro s (by omega)) ?_
  simp
  refine AW_for (fun p : Three => [(1, .loc gs 2 0 0), (3, .lsl p.g 1 0 (2 * s.ms.length * p.i)), (14, .sl (iv (frees s.js))), (15, .int .i64 (frees s.js).length), (16, .int .i64 p.i)]) (fun p => p.b) (threeInv bl s gs) (fun p => (frees s.js).length - p.i) 78
    ⟨0, ga, upd (upd bl gs (some ⟨2, [[.sl (jv s.js), .sl (mv s.ms)]]⟩)) ga (some ⟨1, []⟩)⟩ ⟨Nat.zero_le _, hgas, by simp [rowsTo, iv], by simp [Ne.symm hgas], hbga, by simp [hgs, hbga], fun _ => rfl⟩ ⟨rfl, by simp, sub_eq (by simp [Str.c])⟩ ?_
  rintro ⟨i, g, b⟩ ⟨hi, hgg, hbg, hbs, hg, hsb, h0⟩
  simp only at hi hgg hbg hbs hg hsb h0
  refine AW_run ?_
  simp
  refine ⟨fun h => ?_, fun h => ?_⟩
  · have q := iv_get (frees s.js) i h
    simp [h]
    obtain ⟨j, hj⟩ : ∃ j, (frees s.js)[i] = j := ⟨_, rfl⟩
    rw [hj]
    intro gx hgx0 hbx gy hgy0 hyx hby
    have nxs : gx ≠ gs := fun e => by rw [e, hbs] at hbx; cases hbx
    have nys : gy ≠ gs := fun e => by rw [e, hbs] at hby; cases hby
    have nxg : gx ≠ g := fun e => by rw [e, hbg] at hbx; cases hbx
    have nyg : gy ≠ g := fun e => by rw [e, hbg] at hby; cases hby
    simp [nxs, Ne.symm nxs, nys, Ne.symm nys, hbs]
    refine AW_for (fun p : Two => [(1, .loc gs 2 0 0), (3, .lsl g 1 0 (2 * s.ms.length * i)), (5, .int .i64 j), (6, .lsl p.g 1 0 p.i), (7, .lsl p.h 1 0 p.i), (14, .sl (iv (frees s.js))), (15, .int .i64 (frees s.js).length), (16, .int .i64 i), (23, .sl (mv s.ms)), (24, .int .i64 s.ms.length), (25, .int .i64 p.i)])
      (fun p => p.b) (fun p => twoInv b (xTo s j) (yTo s j) s.ms.length p ∧ 0 ≤ p.g ∧ 0 ≤ p.h) (fun p => s.ms.length - p.i) 78 ⟨0, gx, gy, upd (upd b gx (some ⟨1, []⟩)) gy (some ⟨1, []⟩)⟩ ⟨⟨Nat.zero_le _, Ne.symm hyx, by simp [Ne.symm hyx, xTo, iv], by simp [yTo, iv], hbx, hby, by simp [hbx, hby], fun _ => rfl, fun _ => rfl⟩, hgx0, hgy0⟩ ⟨rfl, by simp, sub_eq (by simp)⟩ ?_
    rintro ⟨k, x, y, c⟩ ⟨⟨hk, hxy, hcx, hcy, hbx', hby', hsc, _, _⟩, hx0, hy0⟩
    simp only at hk hxy hcx hcy hbx' hby' hsc hx0 hy0
    have hcs := hsc _ _ hbs
    have hcg := hsc _ _ hbg
    have fr : ∀ x, c x = none → b x = none := fun x hx => fresh_of hsc hx
    have lx := xTo_length s j k hk
    have ly := yTo_length s j k hk
    have tkx : (iv (xTo s j k)).take k = iv (xTo s j k) := List.take_of_length_le (by simp [lx])
    have tky : (iv (yTo s j k)).take k = iv (yTo s j k) := List.take_of_length_le (by simp [ly])
    refine AW_run ?_
    simp
    refine ⟨fun hkl => ?_, fun hkl => ?_⟩
    · have hv := v_le hs (List.getElem_mem hkl)
      have hm : mat s (k : Int) = s.ms[k] := mat_nat hkl
      have hvec := l12Vector_ro s k hs (by omega) (by omega)
      rw [hm] at hvec
      have w1 : IntKind.i64.wrap ((k : Int) + 1) = k + 1 := i64_in (by omega) (by omega)
      have nx : IntKind.i64.wrap (-vx s s.ms[k]) = -vx s s.ms[k] := i64_in (by omega) (by omega)
      have ny : IntKind.i64.wrap (-vy s s.ms[k]) = -vy s s.ms[k] := i64_in (by omega) (by omega)
      have sx := xTo_succ s j k hkl
      have sy := yTo_succ s j k hkl
      simp [hkl, Mb.c]
      intro g1 hg1 hb1
      have n1s : g1 ≠ gs := fun e => by rw [e, hcs] at hb1; cases hb1
      have n1x : g1 ≠ x := fun e => by rw [e, hcx] at hb1; cases hb1
      have n1y : g1 ≠ y := fun e => by rw [e, hcy] at hb1; cases hb1
      simp [n1s, Ne.symm n1s, hcs]
      refine callP_ro hvec ?_
      simp
      refine ⟨fun e1 => ?_, fun e1 => ⟨fun e2 => ?_, fun e2 => ?_⟩⟩
      · intro g2 hg2 h21 hb2
        have n2x : g2 ≠ x := fun e => by rw [e, hcx] at hb2; cases hb2
        have n2y : g2 ≠ y := fun e => by rw [e, hcy] at hb2; cases hb2
        simp [hcx, n1x, h21, n2x, Ne.symm n1x, Ne.symm h21, Ne.symm n2x, lx, tkx, nx, ny, appV, elsV, Int.not_lt.2 hg2]
        refine ⟨by omega, fun g3 hg3 hb3 => ?_⟩
        have n31 : g3 ≠ g1 := by grind
        have n3y : g3 ≠ y := by grind
        simp [n31, Ne.symm n31, n3y, Ne.symm n3y, nx, ny]
        intro g4 hg4 h43 hb4
        have n41 : g4 ≠ g1 := by grind
        have n4y : g4 ≠ y := by grind
        simp [hxy, Ne.symm hxy, hcy, n1y, Ne.symm n1y, n2y, Ne.symm n2y, n31, Ne.symm n31, n3y, Ne.symm n3y, n41, Ne.symm n41, n4y, Ne.symm n4y, h43, Ne.symm h43, ly, tky, lx, tkx, nx, ny, appV, elsV, Int.not_lt.2 hg4]
        refine ⟨by omega, fun g5 hg5 hb5 => ?_⟩
        have n51 : g5 ≠ g1 := by grind
        have n53 : g5 ≠ g3 := by grind
        have f1 : eqX s j s.ms[k] = vx s s.ms[k] := by rw [eqX, if_pos e1]
        have f2 : eqY s j s.ms[k] = vy s s.ms[k] := by rw [eqY, if_pos e1]
        rw [f1] at sx
        rw [f2] at sy
        simp [w1, loopQ_normal]
        refine ⟨⟨k + 1, g3, g5, _⟩, ⟨⟨by simp only; omega, by simp only; grind, ?_, ?_, by simp only; grind, by simp only; grind, ?_, fun e => by simp only at e; omega, fun e => by simp only at e; omega⟩, hg3, hg5⟩, by simp only; omega, rfl, by simp, sub_eq rfl⟩
        · simp [hxy, Ne.symm hxy, n31, Ne.symm n31, n51, Ne.symm n51, n53, Ne.symm n53, n41, Ne.symm n41, h43, Ne.symm h43, n3y, Ne.symm n3y, n4y, Ne.symm n4y, sx, iv_append, iv_one, tkx, tky]
        · simp [hxy, Ne.symm hxy, n31, Ne.symm n31, n51, Ne.symm n51, n53, Ne.symm n53, n41, Ne.symm n41, h43, Ne.symm h43, n3y, Ne.symm n3y, n4y, Ne.symm n4y, sy, iv_append, iv_one, tkx, tky]
        · intro u z hx
          have hbx := hsc u z hx
          have ng : u ≠ x := fun e => by rw [e, hbx'] at hx; cases hx
          have nh : u ≠ y := fun e => by rw [e, hby'] at hx; cases hx
          simp [upd_apply, rem_apply]
          grind
      · intro g2 hg2 h21 hb2
        have n2x : g2 ≠ x := fun e => by rw [e, hcx] at hb2; cases hb2
        have n2y : g2 ≠ y := fun e => by rw [e, hcy] at hb2; cases hb2
        simp [hcx, n1x, h21, n2x, Ne.symm n1x, Ne.symm h21, Ne.symm n2x, lx, tkx, nx, ny, appV, elsV, Int.not_lt.2 hg2]
        refine ⟨by omega, fun g3 hg3 hb3 => ?_⟩
        have n31 : g3 ≠ g1 := by grind
        have n3y : g3 ≠ y := by grind
        simp [n31, Ne.symm n31, n3y, Ne.symm n3y, nx, ny]
        intro g4 hg4 h43 hb4
        have n41 : g4 ≠ g1 := by grind
        have n4y : g4 ≠ y := by grind
        simp [hxy, Ne.symm hxy, hcy, n1y, Ne.symm n1y, n2y, Ne.symm n2y, n31, Ne.symm n31, n3y, Ne.symm n3y, n41, Ne.symm n41, n4y, Ne.symm n4y, h43, Ne.symm h43, ly, tky, lx, tkx, nx, ny, appV, elsV, Int.not_lt.2 hg4]
        refine ⟨by omega, fun g5 hg5 hb5 => ?_⟩
        have n51 : g5 ≠ g1 := by grind
        have n53 : g5 ≠ g3 := by grind
        have f1 : eqX s j s.ms[k] = -vx s s.ms[k] := by rw [eqX, if_neg e1, if_pos e2]
        have f2 : eqY s j s.ms[k] = -vy s s.ms[k] := by rw [eqY, if_neg e1, if_pos e2]
        rw [f1] at sx
        rw [f2] at sy
        simp [w1, loopQ_normal]
        refine ⟨⟨k + 1, g3, g5, _⟩, ⟨⟨by simp only; omega, by simp only; grind, ?_, ?_, by simp only; grind, by simp only; grind, ?_, fun e => by simp only at e; omega, fun e => by simp only at e; omega⟩, hg3, hg5⟩, by simp only; omega, rfl, by simp, sub_eq rfl⟩
        · simp [hxy, Ne.symm hxy, n31, Ne.symm n31, n51, Ne.symm n51, n53, Ne.symm n53, n41, Ne.symm n41, h43, Ne.symm h43, n3y, Ne.symm n3y, n4y, Ne.symm n4y, sx, iv_append, iv_one, tkx, tky]
        · simp [hxy, Ne.symm hxy, n31, Ne.symm n31, n51, Ne.symm n51, n53, Ne.symm n53, n41, Ne.symm n41, h43, Ne.symm h43, n3y, Ne.symm n3y, n4y, Ne.symm n4y, sy, iv_append, iv_one, tkx, tky]
        · intro u z hx
          have hbx := hsc u z hx
          have ng : u ≠ x := fun e => by rw [e, hbx'] at hx; cases hx
          have nh : u ≠ y := fun e => by rw [e, hby'] at hx; cases hx
          simp [upd_apply, rem_apply]
          grind
      · intro g2 hg2 h21 hb2
        have n2x : g2 ≠ x := fun e => by rw [e, hcx] at hb2; cases hb2
        have n2y : g2 ≠ y := fun e => by rw [e, hcy] at hb2; cases hb2
        simp [hcx, n1x, h21, n2x, Ne.symm n1x, Ne.symm h21, Ne.symm n2x, lx, tkx, nx, ny, appV, elsV, Int.not_lt.2 hg2]
        refine ⟨by omega, fun g3 hg3 hb3 => ?_⟩
        have n31 : g3 ≠ g1 := by grind
        have n3y : g3 ≠ y := by grind
        simp [n31, Ne.symm n31, n3y, Ne.symm n3y, nx, ny]
        intro g4 hg4 h43 hb4
        have n41 : g4 ≠ g1 := by grind
        have n4y : g4 ≠ y := by grind
        simp [hxy, Ne.symm hxy, hcy, n1y, Ne.symm n1y, n2y, Ne.symm n2y, n31, Ne.symm n31, n3y, Ne.symm n3y, n41, Ne.symm n41, n4y, Ne.symm n4y, h43, Ne.symm h43, ly, tky, lx, tkx, nx, ny, appV, elsV, Int.not_lt.2 hg4]
        refine ⟨by omega, fun g5 hg5 hb5 => ?_⟩
        have n51 : g5 ≠ g1 := by grind
        have n53 : g5 ≠ g3 := by grind
        have f1 : eqX s j s.ms[k] = 0 := by rw [eqX, if_neg e1, if_neg e2]
        have f2 : eqY s j s.ms[k] = 0 := by rw [eqY, if_neg e1, if_neg e2]
        rw [f1] at sx
        rw [f2] at sy
        simp [w1, loopQ_normal]
        refine ⟨⟨k + 1, g3, g5, _⟩, ⟨⟨by simp only; omega, by simp only; grind, ?_, ?_, by simp only; grind, by simp only; grind, ?_, fun e => by simp only at e; omega, fun e => by simp only at e; omega⟩, hg3, hg5⟩, by simp only; omega, rfl, by simp, sub_eq rfl⟩
        · simp [hxy, Ne.symm hxy, n31, Ne.symm n31, n51, Ne.symm n51, n53, Ne.symm n53, n41, Ne.symm n41, h43, Ne.symm h43, n3y, Ne.symm n3y, n4y, Ne.symm n4y, sx, iv_append, iv_one, tkx, tky]
        · simp [hxy, Ne.symm hxy, n31, Ne.symm n31, n51, Ne.symm n51, n53, Ne.symm n53, n41, Ne.symm n41, h43, Ne.symm h43, n3y, Ne.symm n3y, n4y, Ne.symm n4y, sy, iv_append, iv_one, tkx, tky]
        · intro u z hx
          have hbx := hsc u z hx
          have ng : u ≠ x := fun e => by rw [e, hbx'] at hx; cases hx
          have nh : u ≠ y := fun e => by rw [e, hby'] at hx; cases hx
          simp [upd_apply, rem_apply]
          grind
    · have : k = s.ms.length := by omega
      subst this
      rw [xTo_all] at hcx
      rw [yTo_all] at hcy
      have nxs' : x ≠ gs := fun e => by rw [e, hbs] at hbx'; cases hbx'
      have nys' : y ≠ gs := fun e => by rw [e, hbs] at hby'; cases hby'
      have nxg' : x ≠ g := fun e => by rw [e, hbg] at hbx'; cases hbx'
      have nyg' : y ≠ g := fun e => by rw [e, hbg] at hby'; cases hby'
      have lr := rowsTo_length s i (by omega)
      have tkr : (iv (rowsTo s i)).take (2 * s.ms.length * i) = iv (rowsTo s i) := List.take_of_length_le (by simp [lr])
      have tkX : (iv (rowX s j)).take s.ms.length = iv (rowX s j) := List.take_of_length_le (by simp)
      have tkY : (iv (rowY s j)).take s.ms.length = iv (rowY s j) := List.take_of_length_le (by simp)
      have hi6 : 2 * s.ms.length * i ≤ 2 * 8 * 6 := Nat.mul_le_mul (by omega) (by omega)
      simp [hcg, hcx, hcy, nxg', nyg', Ne.symm nxg', Ne.symm nyg', Int.not_lt.2 hx0, Int.not_lt.2 hy0, appV, elsV, lr, tkr, tkX, tkY]
      refine ⟨by omega, fun go hgo hbo => ?_⟩
      have nos : go ≠ gs := by grind
      have nox : go ≠ x := by grind
      have noy : go ≠ y := by grind
      simp [nox, noy, Ne.symm nox, Ne.symm noy, nxg', nyg', Ne.symm nxg', Ne.symm nyg', hcx, hcy, Int.not_lt.2 hx0, Int.not_lt.2 hy0, appV, elsV, lr, tkr, tkX, tkY]
      refine ⟨by omega, fun gn hgn hbn => ?_⟩
      have nns : gn ≠ gs := by grind
      have w2 : IntKind.i64.wrap ((i : Int) + 1) = i + 1 := i64_in (by omega) (by omega)
      subst hj
      have rs := rowsTo_succ s i h
      have h1 : bl go = none := by
        by_cases e : go = g
        · rw [e]; exact hg
        · exact fresh_of hsb (fr _ (hbo e))
      have h2 : bl gn = none := by
        by_cases e : gn = go
        · rw [e]; exact h1
        · by_cases e2 : gn = g
          · rw [e2]; exact hg
          · exact fresh_of hsb (fr _ (by grind))
      simp [w2, loopQ_normal]
      refine ⟨⟨i + 1, gn, _⟩, ⟨by simp only; omega, nns, ?_, ?_, h2, ?_, ?_⟩, by simp only; omega, rfl, ?_, sub_eq rfl⟩
      · have tk2 : (iv (rowsTo s i) ++ iv (rowX s (frees s.js)[i])).take (2 * s.ms.length * i + s.ms.length) = iv (rowsTo s i) ++ iv (rowX s (frees s.js)[i]) := List.take_of_length_le (by simp [lr])
        simp [rs, iv_append, tk2]
      · simp [Ne.symm nns, Ne.symm nos, Ne.symm hgg, hcs]
      · intro u z hx
        have hbx := hsc u z (hsb u z hx)
        have n1 : u ≠ g := fun e => by rw [e, hg] at hx; cases hx
        have n2 : u ≠ go := fun e => by rw [e, h1] at hx; cases hx
        have n3 : u ≠ gn := fun e => by rw [e, h2] at hx; cases hx
        simp [n1, n2, n3, hbx]
      · intro e
        simp only at e ⊢
        have ez : s.ms = [] := by
          rcases hgn with hn | ⟨_, hn⟩
          · omega
          · have := congrArg List.length hn
            simpa using this
        have er := lr
        rw [ez] at er
        rw [rs]
        simp [rowX, rowY, ez] at er ⊢
        exact er
      · simp [Nat.mul_add]; omega
  · have : i = (frees s.js).length := by omega
    subst this
    refine retNW [.lsl g 1 0 (2 * s.ms.length * (frees s.js).length)] [g] (by simp) ?_ (by simpa using hg) hsb
    have e : rowsF s = rowsTo s (frees s.js).length := by simp [rowsF, rowsTo]
    refine own_iv.2 (.inr ⟨g, ?_, rfl, by rw [e]; exact hbg, by rw [e]; exact h0⟩)
    rw [e, rowsTo_length s _ (Nat.le_refl _)]; rfl

theorem l14Rows_ro (s : Str) (hs : SOk s) : RO Tryz.prog 193 [.agg s.c] (.sl (iv (rowsF s))) := by
  have := ro_of_nw 1 (l14Rows_nw s hs) (fl_dep _ _ 0)
  simpa using this

/-- Minus the load at the free joints. -/
def rightTo (s : Str) (l : List Int) (n : Nat) : List Int := ((frees s.js).take n).flatMap fun j => [-lat l (2 * j).toNat, -lat l (2 * j + 1).toNat]
def right (s : Str) (l : List Int) : List Int := (frees s.js).flatMap fun j => [-lat l (2 * j).toNat, -lat l (2 * j + 1).toNat]
theorem rightTo_succ (s : Str) (l : List Int) (n : Nat) (h : n < (frees s.js).length) : rightTo s l (n + 1) = rightTo s l n ++ [-lat l (2 * (frees s.js)[n]).toNat, -lat l (2 * (frees s.js)[n] + 1).toNat] := by
  unfold rightTo
  rw [List.take_add_one, List.getElem?_eq_getElem h, List.flatMap_append]; simp
theorem rightTo_length (s : Str) (l : List Int) : ∀ n, n ≤ (frees s.js).length → (rightTo s l n).length = 2 * n
  | 0, _ => by simp [rightTo]
  | n + 1, h => by
    rw [rightTo_succ s l n (by omega), List.length_append, rightTo_length s l n (by omega)]; simp; omega
theorem frees_range {s : Str} {j : Int} (h : j ∈ frees s.js) : 0 ≤ j ∧ j < s.js.length := by
  unfold frees freesTo at h
  obtain ⟨k, hk, rfl⟩ := List.mem_map.1 h
  have := List.mem_range.1 (List.mem_filter.1 hk).1
  omega

theorem l15Right_nw (s : Str) (l : List Int) (hL : LOk s l) : NW Tryz.prog 194 [.agg s.c, .sl (iv l)] (fl 1 (iv (right s l))) := by
  have h6 := hL.sok.nj
  have hfr := freesTo_le s.js s.js.length
  change (frees s.js).length ≤ s.js.length at hfr
  refine nw_of Tryz.func194 rfl rfl (by rw [Tryz.ntmps194]; simp) fun bl => ?_
  rw [Tryz.ntmps194, Tryz.results194]
  refine AW_run ?_
  simp [Str.c]
  intro gs hgs0 hgs ga hga0 hgas hbga
  simp [Str.c, hgas, Ne.symm hgas]
  refine callP_ro (l12Free_ro s (by omega)) ?_
  simp
  refine AW_for (fun p : Nat × Int => [(1, .sl (iv l)), (5, .lsl p.2 1 0 (2 * p.1)), (10, .sl (iv (frees s.js))), (11, .int .i64 (frees s.js).length), (12, .int .i64 p.1)]) (fun p => upd bl p.2 (some ⟨1, iv (rightTo s l p.1)⟩)) (fun p => p.1 ≤ (frees s.js).length ∧ bl p.2 = none ∧ (p.2 < 0 → rightTo s l p.1 = [])) (fun p => (frees s.js).length - p.1) 34 (0, ga) ⟨Nat.zero_le _, hbga, fun _ => rfl⟩ (by refine ⟨rfl, by simp, ?_⟩; exact sub_put (by simp [rightTo, iv]) (by simp [hgs])) ?_
  rintro ⟨i, g⟩ ⟨hi, hg, h0⟩
  simp only at hi hg h0
  refine AW_run ?_
  simp
  refine ⟨fun h => ?_, fun h => ?_⟩
  · have q := iv_get (frees s.js) i h
    obtain ⟨r1, r2⟩ := frees_range (List.getElem_mem h)
    have rs := rightTo_succ s l i h
    simp [h]
    obtain ⟨j, hj⟩ : ∃ j, (frees s.js)[i] = j := ⟨_, rfl⟩
    rw [hj] at r1 r2 rs ⊢
    have a1 : (2 * j).toNat < l.length := by rw [hL.n]; omega
    have a2 : (2 * j + 1).toNat < l.length := by rw [hL.n]; omega
    have b1 := hL.f _ a1
    have b2 := hL.f _ a2
    have q1 := iv_at a1
    have q2 := iv_at a2
    have w1 : IntKind.i64.wrap (2 * j) = 2 * j := i64_in (by omega) (by omega)
    have w2 : IntKind.i64.wrap (2 * j + 1) = 2 * j + 1 := i64_in (by omega) (by omega)
    have w3 : IntKind.i64.wrap (-lat l (2 * j).toNat) = -lat l (2 * j).toNat := i64_in (by omega) (by omega)
    have w4 : IntKind.i64.wrap (-lat l (2 * j + 1).toNat) = -lat l (2 * j + 1).toNat := i64_in (by omega) (by omega)
    have w5 : IntKind.i64.wrap ((i : Int) + 1) = i + 1 := i64_in (by omega) (by omega)
    have p1 : 0 ≤ 2 * j := by omega
    have p2 : 0 ≤ 2 * j + 1 := by omega
    refine AW_mixedB mixedO bl (by simp [hg]) [0, 1, 2, 3, 4, 5, 6, 7, 8, 9, 10, 11, 12, 13] 3 (by kernel_rfl) ?_
    simp [-iv_get, w1, w2, w3, w4, q1, q2, p1, p2]
    have er2 : List.range 2 = [0, 1] := rfl
    have lr := rightTo_length s l i (by omega)
    have tkr : (iv (rightTo s l i)).take (2 * i) = iv (rightTo s l i) := List.take_of_length_le (by simp [lr])
    refine DAny_one (i := 14) (by kernel_rfl) rfl rfl ?_
    simp
    intro gp hgp hpg hbp
    refine ⟨by simp [hbp, hg], DAny_one (i := 15) (by kernel_rfl) rfl rfl ?_⟩
    simp [er2, hpg, Ne.symm hpg, lr, tkr, appV, elsV, Int.not_lt.2 hgp]
    refine ⟨by omega, fun gn hgn hbn => ?_⟩
    have hgb : bl gn = none := by grind
    have hsb : ∀ X, Sub bl (upd (rem (upd (upd bl g (some ⟨1, iv (rightTo s l i)⟩)) gp (some ⟨1, [[.int .i64 (-lat l (2 * j).toNat)], [.int .i64 (-lat l (2 * j + 1).toNat)]]⟩)) g) gn X) := fun X => by simp [hg, hbp, hgb, hpg]
    refine ⟨hsb _, DAny_one (i := 16) (by kernel_rfl) rfl rfl ?_⟩
    simp
    refine ⟨hsb _, DAny_done (by kernel_rfl) ?_⟩
    simp [w5, loopQ_normal]
    refine ⟨i + 1, gn, ⟨by omega, ?_, by omega⟩, by omega, rfl, by simp; omega, ?_⟩
    · grind
    rw [rs, iv_append]
    exact sub_put (by rfl) (by simp [hg, hbp, hpg])
  · have : i = (frees s.js).length := by omega
    subst this
    refine retNW [.lsl g 1 0 (2 * (frees s.js).length)] [g] (by simp) ?_ (by simpa using hg) (by simp [hg])
    have e : right s l = rightTo s l (frees s.js).length := by simp [right, rightTo]
    refine own_iv.2 (.inr ⟨g, ?_, rfl, by rw [e]; simp, by rw [e]; exact h0⟩)
    rw [e, rightTo_length s l _ (Nat.le_refl _)]; rfl

theorem l15Right_ro (s : Str) (l : List Int) (hL : LOk s l) : RO Tryz.prog 194 [.agg s.c, .sl (iv l)] (.sl (iv (right s l))) := by
  have := ro_of_nw 1 (l15Right_nw s l hL) (fl_dep _ _ 0)
  simpa using this

end Go.Proofs.YticmgmemnpcbbaaGreat.Vm

namespace Go.Proofs.YticmgmemnpcbbaaGreat.Vm
open Go Go.Proofs
set_option linter.unusedSimpArgs false
set_option linter.unusedVariables false

def zRow (row : List Int) : List (Option Rat) := row.map fun (n : Int) => some (n : Rat)
def zGrid (rows : List (List Int)) : List (List (Option Rat)) := rows.map zRow
def roInts (l : List Int) : List RT := l.map fun (n : Int) => ro (some (n : Rat))
/-- Small numbers. -/
def small (rows : List (List Int)) : Prop := ∀ w, w ∈ rows → ∀ n, n ∈ w → -100 ≤ n ∧ n ≤ 100
/-- The equilibrium matrix of a structure, or none. -/
def eqMx (s : Str) : MX := if sOk s = true then ⟨(eqRows s).length, s.ms.length, roInts (rowsF s)⟩ else ⟨0, 0, []⟩
end Go.Proofs.YticmgmemnpcbbaaGreat.Vm

namespace Go.Proofs.YticmgmemnpcbbaaGreat.Vm
open Go Go.Proofs
set_option linter.unusedSimpArgs false
set_option linter.unusedVariables false

def r6 (n : Int) : Rat := mkRat n 6
def q6 (n : Int) : Option Rat := some (r6 n)
/-- The sum of the products of two lists of numbers, up to n. -/
def dotTo (a u : List Int) : Nat → Int
  | 0 => 0
  | n + 1 => dotTo a u n + lN a n * lN u n
/-- The program's inner product. -/
def inTo (a b : List (Option Rat)) : Nat → Option Rat
  | 0 => some 0
  | n + 1 => op2 (· + ·) (inTo a b n) (op2 (· * ·) (a.getD n none) (b.getD n none))
end Go.Proofs.YticmgmemnpcbbaaGreat.Vm

namespace Go.Proofs.YticmgmemnpcbbaaGreat.Vm
open Go Go.Proofs
set_option linter.unusedSimpArgs false
set_option linter.unusedVariables false

/-- A linear program. -/
structure Pg where
  rows : Int
  cols : Int
  a : List Int
  b : List Int
  c : List Int
def Pg.v (p : Pg) : List V := [.int .i64 p.rows, .int .i64 p.cols, .sl (iv p.a), .sl (iv p.b), .sl (iv p.c)]
def nR (s : Str) : Nat := 2 * (frees s.js).length
def nC (s : Str) : Nat := (cols s.ms).length
def colAt (s : Str) (c : Nat) : Int × Int := (cols s.ms).getD c (0, 0)
def ent (s : Str) (i c : Nat) : Int := (colAt s c).2 * lat (rowsF s) (i * s.ms.length + (colAt s c).1.toNat)
def aTo (s : Str) (n : Nat) : List Int := (List.range n).map fun t => ent s (t / nC s) (t % nC s)
def fprog (s : Str) (l : List Int) : Pg := ⟨nR s, nC s, aTo s (nR s * nC s), right s l, List.replicate (nC s) 0⟩
@[simp] theorem aTo_length (s : Str) (n : Nat) : (aTo s n).length = n := by simp [aTo]
theorem aTo_succ (s : Str) (i c : Nat) (h : c < nC s) : aTo s (i * nC s + c + 1) = aTo s (i * nC s + c) ++ [ent s i c] := by
  unfold aTo
  rw [List.range_succ, List.map_append]
  congr 1
  simp only [List.map_cons, List.map_nil]
  rw [Nat.mul_comm i, Nat.mul_add_div (by omega), Nat.mul_add_mod, Nat.div_eq_of_lt h, Nat.mod_eq_of_lt h, Nat.add_zero]

theorem rowsF_length (s : Str) : (rowsF s).length = nR s * s.ms.length := by
  have e : rowsF s = rowsTo s (frees s.js).length := by simp [rowsF, rowsTo]
  rw [e, rowsTo_length s _ (Nat.le_refl _), nR, Nat.mul_right_comm]
theorem cols_mem {ms : List Mb} {n : Nat} {p : Int × Int} (h : p ∈ colsTo ms n) : (0 ≤ p.1 ∧ p.1 < n) ∧ (p.2 = 1 ∨ p.2 = -1) := by
  unfold colsTo at h
  obtain ⟨k, hk, hp⟩ := List.mem_flatMap.1 h
  have := List.mem_range.1 hk
  unfold colK at hp
  rcases List.mem_append.1 hp with hp | hp <;> split at hp <;> simp at hp <;> subst hp <;> simp <;> omega
theorem colAt_ok (s : Str) (c : Nat) (h : c < nC s) : (0 ≤ (colAt s c).1 ∧ (colAt s c).1 < s.ms.length) ∧ ((colAt s c).2 = 1 ∨ (colAt s c).2 = -1) := by
  unfold nC at h
  have : colAt s c = (cols s.ms)[c] := by simp [colAt, h]
  rw [this]
  exact cols_mem (List.getElem_mem h)
theorem who_at (s : Str) (c : Nat) (h : c < nC s) : (iv (who s))[c]? = some [.int .i64 (colAt s c).1] := by
  unfold nC at h
  simp [who, colAt, h, iv]
theorem sgn_at (s : Str) (c : Nat) (h : c < nC s) : (iv (sgn s))[c]? = some [.int .i64 (colAt s c).2] := by
  unfold nC at h
  simp [sgn, colAt, h, iv]
theorem rowsF_le {s : Str} (hs : SOk s) (n : Nat) : -100 ≤ lat (rowsF s) n ∧ lat (rowsF s) n ≤ 100 := by
  have key : ∀ x, x ∈ rowsF s → -100 ≤ x ∧ x ≤ 100 := by
    intro x hx
    unfold rowsF at hx
    obtain ⟨j, _, hx⟩ := List.mem_flatMap.1 hx
    rcases List.mem_append.1 hx with hx | hx
    · obtain ⟨m, hm, rfl⟩ := List.mem_map.1 hx
      have := v_le hs hm
      unfold eqX; split
      · omega
      · split <;> omega
    · obtain ⟨m, hm, rfl⟩ := List.mem_map.1 hx
      have := v_le hs hm
      unfold eqY; split
      · omega
      · split <;> omega
  unfold lat
  rw [List.getD_eq_getElem?_getD]
  cases h : (rowsF s)[n]? with
  | none => simp
  | some x => exact key x (List.mem_of_getElem? h)

structure PS where
  n : Nat
  g : Int
  b : Int → Option Blk
structure PI (bl : Int → Option Blk) (s : Str) (l : List Int) (gr gp gc : Int) (p : PS) : Prop where
  hr : p.b gr = some ⟨5, [[.int .i64 0, .int .i64 0, .nils, .nils, .nils]]⟩
  hp : p.b gp = some ⟨5, [[.int .i64 (nR s), .int .i64 (nC s), .lsl p.g 1 0 p.n, .sl (iv (right s l)), .lsl gc 1 0 (nC s)]]⟩
  hc : p.b gc = some ⟨1, iv (List.replicate (nC s) 0)⟩
  ha : p.b p.g = some ⟨1, iv (aTo s p.n)⟩
  pr : p.g ≠ gr
  pp : p.g ≠ gp
  pc : p.g ≠ gc
  f : bl p.g = none
  sub : Sub bl p.b
  neg : p.g < 0 → aTo s p.n = []

set_option maxHeartbeats 2000000 in
theorem l15Program_ro (s : Str) (l : List Int) (hL : LOk s l) : RO Tryz.prog 117 [.agg s.c, .sl (iv l)] (.agg (fprog s l).v) := by
  have hs := hL.sok
  have h6 := hs.nj
  have h8 := hs.nm
  have hfr := freesTo_le s.js s.js.length
  change (frees s.js).length ≤ s.js.length at hfr
  have hcn : nC s ≤ 2 * s.ms.length := colsTo_le s.ms s.ms.length
  have hrn : nR s ≤ 12 := by unfold nR; omega
  have ew : (who s).length = nC s := by simp [who, nC]
  have w0 : IntKind.i64.wrap (2 * ((frees s.js).length : Int)) = (nR s : Int) := by rw [i64_in (by omega) (by omega)]; unfold nR; omega
  refine ro_of2 Tryz.func117 rfl rfl (by rw [Tryz.ntmps117]; simp) fun bl => ?_
  rw [Tryz.ntmps117, Tryz.results117]
  refine AW_run ?_
  simp [Str.c]
  intro gs hgs0 hgs gr hgr0 hgrs hbr
  simp [hgrs, Ne.symm hgrs]
  refine callP_ro (l15Columns_ro s (by omega)) ?_
  simp [hgrs, Ne.symm hgrs]
  refine callP_ro (l14Rows_ro s hs) ?_
  simp [hgrs, Ne.symm hgrs]
  refine AW_mixed mixedO [0, 1, 2, 3, 4, 5, 6, 7, 8, 9, 10] 4 (by kernel_rfl) ?_
  simp [hgrs, Ne.symm hgrs]
  refine hcQ_ro (l12Free_ro s (by omega)) ?_
  simp [hgrs, Ne.symm hgrs, w0]
  refine hcQ_ro (l15Right_ro s l hL) ?_
  simp [ew]
  refine DAny_two (i := 11) (j := 13) (by kernel_rfl) rfl rfl rfl rfl ?_ ?_
  · simp
    refine ⟨by omega, by unfold maxLen; omega, fun gc hgc hcr hcs hbc => ⟨by simp [hcs, hcr, hbc], ?_⟩⟩
    refine DAny_two (i := 12) (j := 13) (by kernel_rfl) rfl rfl rfl rfl ?_ ?_
    · simp
      refine ⟨by simp [hcs, hcr, hbc], DAny_one (i := 13) (by kernel_rfl) rfl rfl ?_⟩
      simp
      intro gp hgp hpc hpr hps hbp
      refine ⟨by simp [hcs, hcr, hbc, hpc, hpr, hps, hbp], DAny_one (i := 14) (by kernel_rfl) rfl rfl ?_⟩
      simp
      refine ⟨by simp [hcs, hcr, hbc, hpc, hpr, hps, hbp], DAny_done (by kernel_rfl) ?_⟩
      simp [Str.c]
      refine AW_ghostCell (g := gp) 0 2 1 (s := 5) (els := [[.int .i64 (nR s), .int .i64 (nC s), .nils, .sl (iv (right s l)), .lsl gc 1 0 (nC s)]]) (by simp) rfl rfl fun ga hga hgap => ?_
      have hga' : bl ga = none ∧ ga ≠ gr ∧ ga ≠ gc := by simp [hgap] at hga; grind
      obtain ⟨hba, har, hac⟩ := hga'
      clear hga
      refine AW_for (fun p : Nat × PS => [(4, .loc gr 5 0 0), (5, .sl (iv (who s))), (6, .sl (iv (sgn s))), (7, .int .i64 s.ms.length), (8, .sl (iv (rowsF s))), (9, .loc gp 5 0 0), (10, .int .i64 p.1)]) (fun p => p.2.b) (fun p => p.1 ≤ nR s ∧ p.2.n = p.1 * nC s ∧ PI bl s l gr gp gc p.2) (fun p => nR s - p.1) 69 (0, ⟨0, ga, _⟩) ⟨Nat.zero_le _, by simp, ⟨?_, ?_, ?_, ?_, har, hgap, hac, hba, ?_, fun _ => rfl⟩⟩ ⟨rfl, by simp, sub_eq rfl⟩ ?_
      · simp [Ne.symm har, hpr, Ne.symm hpr, hcr, Ne.symm hcr]
      · simp [Ne.symm hgap]
      · simp [Ne.symm hac, hpc, Ne.symm hpc, iv]
      · simp [aTo, iv]
      · simp [hgs, hbr, hbc, hbp, hba]
      rintro ⟨i, n, g, b⟩ ⟨hi, hn, P⟩
      simp only at hi hn
      subst hn
      have hP := P.hp
      simp only at hP
      refine AW_run ?_
      simp [hP]
      refine ⟨fun h => ?_, fun h => ?_⟩
      · simp [ew]
        refine AW_for (fun p : Nat × PS => [(4, .loc gr 5 0 0), (5, .sl (iv (who s))), (6, .sl (iv (sgn s))), (7, .int .i64 s.ms.length), (8, .sl (iv (rowsF s))), (9, .loc gp 5 0 0), (10, .int .i64 i), (42, .sl (iv (who s))), (43, .int .i64 (nC s)), (44, .int .i64 p.1)]) (fun p => p.2.b) (fun p => p.1 ≤ nC s ∧ p.2.n = i * nC s + p.1 ∧ PI bl s l gr gp gc p.2) (fun p => nC s - p.1) 69 (0, ⟨i * nC s, g, b⟩) ⟨Nat.zero_le _, rfl, P⟩ ⟨rfl, by simp, sub_eq rfl⟩ ?_
        rintro ⟨c, n, g, b⟩ ⟨hc, hn, P⟩
        simp only at hc hn
        subst hn
        obtain ⟨hr, hp, hcc, ha, npr, npp, npc, hf, hsub, hneg⟩ := P
        simp only at hr hp hcc ha npr npp npc hf hsub hneg
        refine AW_run ?_
        simp
        refine ⟨fun hcl => ?_, fun hcl => ?_⟩
        · have qw := who_at s c hcl
          have qs := sgn_at s c hcl
          obtain ⟨⟨k0, k1⟩, k2⟩ := colAt_ok s c hcl
          simp [-iv_get, qw]
          obtain ⟨⟨k, sg⟩, hk⟩ : ∃ k, colAt s c = k := ⟨_, rfl⟩
          rw [hk] at qw qs k0 k1 k2 ⊢
          simp only at qw qs k0 k1 k2 ⊢
          have m1 : i * s.ms.length ≤ 12 * 8 := Nat.mul_le_mul (by omega) (by omega)
          have mi : ((i * s.ms.length : Nat) : Int) = (i : Int) * s.ms.length := by simp
          have w1 : IntKind.i64.wrap ((i : Int) * s.ms.length) = (i : Int) * s.ms.length := i64_in (by omega) (by omega)
          have w2 : IntKind.i64.wrap ((i : Int) * s.ms.length + k) = (i : Int) * s.ms.length + k := i64_in (by omega) (by omega)
          have e1 : ((i : Int) * s.ms.length + k).toNat = i * s.ms.length + k.toNat := by omega
          have ei : i * s.ms.length + k.toNat < (rowsF s).length := by
            rw [rowsF_length]
            have : (i + 1) * s.ms.length ≤ nR s * s.ms.length := Nat.mul_le_mul_right _ h
            rw [Nat.add_mul] at this; omega
          have qr := iv_at ei
          rw [← e1] at qr
          have bd := rowsF_le hs (i * s.ms.length + k.toNat)
          rw [← e1] at bd
          have en : ent s i c = sg * lat (rowsF s) ((i : Int) * s.ms.length + k).toNat := by unfold ent; rw [hk, e1]
          have w3 : IntKind.i64.wrap (sg * lat (rowsF s) ((i : Int) * s.ms.length + k).toNat) = ent s i c := by
            rw [en]; rcases k2 with rfl | rfl <;> exact i64_in (by omega) (by omega)
          have p1 : 0 ≤ (i : Int) * s.ms.length + k := by omega
          have hK : Sub (upd bl gp (some ⟨5, [[.int .i64 (nR s), .int .i64 (nC s), .lsl g 1 0 (i * nC s + c), .sl (iv (right s l)), .lsl gc 1 0 (nC s)]]⟩)) b := fun x y hx => by
            rw [upd_apply] at hx
            split at hx
            · rename_i e; rw [e, hp]; exact hx
            · exact hsub x y hx
          have mc : (i + 1) * nC s ≤ 12 * 16 := Nat.mul_le_mul (by omega) (by omega)
          rw [Nat.add_mul] at mc
          have tka : (iv (aTo s (i * nC s + c))).take (i * nC s + c) = iv (aTo s (i * nC s + c)) := List.take_of_length_le (by simp)
          refine AW_mixedBT mixedO _ hK [0, 1, 2, 3, 4, 5, 6, 7, 8, 9, 10, 11, 12, 13, 14] 4 18 (by kernel_rfl) ?_
          simp [-iv_get, w1, w2, w3, qs, qr, p1]
          refine DAny_one (i := 15) (by kernel_rfl) rfl rfl ?_
          simp
          intro g2 hg2 hb2
          have n2g : g2 ≠ g := fun e => by rw [e, ha] at hb2; cases hb2
          have n2p : g2 ≠ gp := fun e => by rw [e, hp] at hb2; cases hb2
          have hS : ∀ (u : Int) (B : Int → Option Blk), u ≠ gp → bl u = none → (∀ x y, x ≠ g → x ≠ g2 → x ≠ u → b x = some y → B x = some y) → Sub (upd bl gp (some ⟨5, [[.int .i64 (nR s), .int .i64 (nC s), .lsl g 1 0 (i * nC s + c), .sl (iv (right s l)), .lsl gc 1 0 (nC s)]]⟩)) B := by
            intro u B hu hbu hB x y hx
            refine hB x y ?_ ?_ ?_ (hK x y hx)
            · intro e; rw [e, upd_apply, if_neg npp, hf] at hx; cases hx
            · intro e; have := hK x y hx; rw [e, hb2] at this; cases this
            · intro e; rw [e, upd_apply, if_neg hu, hbu] at hx; cases hx
          refine ⟨hS g _ npp hf (fun x y h1 h2 h3 hx => by simp [h2, hx]), DAny_one (i := 16) (by kernel_rfl) rfl rfl ?_⟩
          simp [n2g, Ne.symm n2g, ha, tka, appV, elsV, Int.not_lt.2 hg2]
          refine ⟨by omega, fun g3 hg3 hb3 => ?_⟩
          have n3p : g3 ≠ gp := by grind
          have n3r : g3 ≠ gr := by grind
          have n3c : g3 ≠ gc := by grind
          have f3 : bl g3 = none := by
            by_cases e : g3 = g
            · rw [e]; exact hf
            · exact fresh_of hsub (hb3 e).2
          have n2r : g2 ≠ gr := fun e => by rw [e, hr] at hb2; cases hb2
          have n2c : g2 ≠ gc := fun e => by rw [e, hcc] at hb2; cases hb2
          refine ⟨hS g3 _ n3p f3 (fun x y h1 h2 h3 hx => by simp [h1, h2, h3, hx]), DAny_one (i := 17) (by kernel_rfl) rfl rfl ?_⟩
          simp
          refine ⟨hS g3 _ n3p f3 (fun x y h1 h2 h3 hx => by simp [h1, h2, h3, hx]), DAny_last (i := 18) (by kernel_rfl) rfl rfl rfl ?_⟩
          simp [n3p, Ne.symm n3p, n2p, Ne.symm n2p, npp, Ne.symm npp, hp]
          refine DAny_done (by kernel_rfl) ?_
          have w4 : IntKind.i64.wrap ((c : Int) + 1) = c + 1 := i64_in (by omega) (by omega)
          simp [w4, loopQ_normal]
          refine ⟨c + 1, ⟨i * nC s + c + 1, g3, _⟩, ⟨by omega, rfl, ⟨?_, ?_, ?_, ?_, n3r, n3p, n3c, f3, ?_, fun e => by simp only at e; omega⟩⟩, by omega, rfl, by simp, sub_eq rfl⟩
          · simp [n3r, Ne.symm n3r, n2r, Ne.symm n2r, npr, Ne.symm npr, hpr, Ne.symm hpr, hr]
          · simp
          · simp [n3c, Ne.symm n3c, n2c, Ne.symm n2c, npc, Ne.symm npc, hpc, Ne.symm hpc, hcc]
          · simp [n3p, aTo_succ s i c hcl, iv_append, iv_one]
          · intro x y hx
            have h1 : x ≠ g := fun e => by rw [e, hf] at hx; cases hx
            have h2 : x ≠ g2 := fun e => by have := hsub x y hx; rw [e, hb2] at this; cases this
            have h3 : x ≠ g3 := fun e => by rw [e, f3] at hx; cases hx
            have h4 : x ≠ gp := fun e => by rw [e, hbp] at hx; cases hx
            simp [h1, h2, h3, h4, hsub x y hx]
        · have : c = nC s := by omega
          subst this
          have w5 : IntKind.i64.wrap ((i : Int) + 1) = i + 1 := i64_in (by omega) (by omega)
          simp [w5, loopQ_normal]
          refine ⟨i + 1, ⟨i * nC s + nC s, g, b⟩, ⟨by omega, by rw [Nat.add_mul]; simp, ⟨hr, hp, hcc, ha, npr, npp, npc, hf, hsub, hneg⟩⟩, by omega, rfl, by simp, sub_eq rfl⟩
      · have : i = nR s := by omega
        subst this
        have hR := P.hr
        simp only at hR
        simp [hR]
        obtain ⟨hr, hp, hcc, ha, npr, npp, npc, hf, hsub, hneg⟩ := P
        simp only at hr hp hcc ha npr npp npc hf hsub hneg
        generalize hB : upd b gr (some ⟨5, [[.int .i64 (nR s), .int .i64 (nC s), .lsl g 1 0 (nR s * nC s), .sl (iv (right s l)), .lsl gc 1 0 (nC s)]]⟩) = B
        have oa : OwnD (dropB B bl) (fl 1 (iv (aTo s (nR s * nC s)))) (.lsl g 1 0 (nR s * nC s)) [g] := own_iv.2 (.inr ⟨g, by simp, rfl, by unfold dropB; rw [hf, ← hB]; simp [npr, ha], hneg⟩)
        have oc : OwnD (dropB B bl) (fl 1 (iv (List.replicate (nC s) 0))) (.lsl gc 1 0 (nC s)) [gc] := own_iv.2 (.inr ⟨gc, by simp, rfl, by unfold dropB; rw [hbc, ← hB]; simp [hcr, hcc], by omega⟩)
        refine retRO [.agg [.int .i64 (nR s), .int .i64 (nC s), .lsl g 1 0 (nR s * nC s), .sl (iv (right s l)), .lsl gc 1 0 (nC s)]] 2 (by simp [← hB]) ?_ ?_
        · show frz (dropB B bl) 2 (.agg [_, _, _, _, _]) = _
          rw [frz_agg, List.mapM_cons, frz_cl rfl, List.mapM_cons, frz_cl rfl, List.mapM_cons, frz_iv oa 0, List.mapM_cons, frz_cl (by simp [V.cl]), List.mapM_cons, frz_iv oc 0]
          simp [Pg.v, fprog]
        · rw [← hB]; simp [hbr, hsub]
    · simp
      intro gp hgp hpc hpr hps hbp
      refine ⟨by simp [hcs, hcr, hbc, hpc, hpr, hps, hbp], DAny_one (i := 12) (by kernel_rfl) rfl rfl ?_⟩
      simp
      refine ⟨by simp [hcs, hcr, hbc, hpc, hpr, hps, hbp], DAny_one (i := 14) (by kernel_rfl) rfl rfl ?_⟩
      simp
      refine ⟨by simp [hcs, hcr, hbc, hpc, hpr, hps, hbp], DAny_done (by kernel_rfl) ?_⟩
      simp [Str.c]
      refine AW_ghostCell (g := gp) 0 2 1 (s := 5) (els := [[.int .i64 (nR s), .int .i64 (nC s), .nils, .sl (iv (right s l)), .lsl gc 1 0 (nC s)]]) (by simp) rfl rfl fun ga hga hgap => ?_
      have hga' : bl ga = none ∧ ga ≠ gr ∧ ga ≠ gc := by simp [hgap] at hga; grind
      obtain ⟨hba, har, hac⟩ := hga'
      clear hga
      refine AW_for (fun p : Nat × PS => [(4, .loc gr 5 0 0), (5, .sl (iv (who s))), (6, .sl (iv (sgn s))), (7, .int .i64 s.ms.length), (8, .sl (iv (rowsF s))), (9, .loc gp 5 0 0), (10, .int .i64 p.1)]) (fun p => p.2.b) (fun p => p.1 ≤ nR s ∧ p.2.n = p.1 * nC s ∧ PI bl s l gr gp gc p.2) (fun p => nR s - p.1) 69 (0, ⟨0, ga, _⟩) ⟨Nat.zero_le _, by simp, ⟨?_, ?_, ?_, ?_, har, hgap, hac, hba, ?_, fun _ => rfl⟩⟩ ⟨rfl, by simp, sub_eq rfl⟩ ?_
      · simp [Ne.symm har, hpr, Ne.symm hpr, hcr, Ne.symm hcr]
      · simp [Ne.symm hgap]
      · simp [Ne.symm hac, hpc, Ne.symm hpc, iv]
      · simp [aTo, iv]
      · simp [hgs, hbr, hbc, hbp, hba]
      rintro ⟨i, n, g, b⟩ ⟨hi, hn, P⟩
      simp only at hi hn
      subst hn
      have hP := P.hp
      simp only at hP
      refine AW_run ?_
      simp [hP]
      refine ⟨fun h => ?_, fun h => ?_⟩
      · simp [ew]
        refine AW_for (fun p : Nat × PS => [(4, .loc gr 5 0 0), (5, .sl (iv (who s))), (6, .sl (iv (sgn s))), (7, .int .i64 s.ms.length), (8, .sl (iv (rowsF s))), (9, .loc gp 5 0 0), (10, .int .i64 i), (42, .sl (iv (who s))), (43, .int .i64 (nC s)), (44, .int .i64 p.1)]) (fun p => p.2.b) (fun p => p.1 ≤ nC s ∧ p.2.n = i * nC s + p.1 ∧ PI bl s l gr gp gc p.2) (fun p => nC s - p.1) 69 (0, ⟨i * nC s, g, b⟩) ⟨Nat.zero_le _, rfl, P⟩ ⟨rfl, by simp, sub_eq rfl⟩ ?_
        rintro ⟨c, n, g, b⟩ ⟨hc, hn, P⟩
        simp only at hc hn
        subst hn
        obtain ⟨hr, hp, hcc, ha, npr, npp, npc, hf, hsub, hneg⟩ := P
        simp only at hr hp hcc ha npr npp npc hf hsub hneg
        refine AW_run ?_
        simp
        refine ⟨fun hcl => ?_, fun hcl => ?_⟩
        · have qw := who_at s c hcl
          have qs := sgn_at s c hcl
          obtain ⟨⟨k0, k1⟩, k2⟩ := colAt_ok s c hcl
          simp [-iv_get, qw]
          obtain ⟨⟨k, sg⟩, hk⟩ : ∃ k, colAt s c = k := ⟨_, rfl⟩
          rw [hk] at qw qs k0 k1 k2 ⊢
          simp only at qw qs k0 k1 k2 ⊢
          have m1 : i * s.ms.length ≤ 12 * 8 := Nat.mul_le_mul (by omega) (by omega)
          have mi : ((i * s.ms.length : Nat) : Int) = (i : Int) * s.ms.length := by simp
          have w1 : IntKind.i64.wrap ((i : Int) * s.ms.length) = (i : Int) * s.ms.length := i64_in (by omega) (by omega)
          have w2 : IntKind.i64.wrap ((i : Int) * s.ms.length + k) = (i : Int) * s.ms.length + k := i64_in (by omega) (by omega)
          have e1 : ((i : Int) * s.ms.length + k).toNat = i * s.ms.length + k.toNat := by omega
          have ei : i * s.ms.length + k.toNat < (rowsF s).length := by
            rw [rowsF_length]
            have : (i + 1) * s.ms.length ≤ nR s * s.ms.length := Nat.mul_le_mul_right _ h
            rw [Nat.add_mul] at this; omega
          have qr := iv_at ei
          rw [← e1] at qr
          have bd := rowsF_le hs (i * s.ms.length + k.toNat)
          rw [← e1] at bd
          have en : ent s i c = sg * lat (rowsF s) ((i : Int) * s.ms.length + k).toNat := by unfold ent; rw [hk, e1]
          have w3 : IntKind.i64.wrap (sg * lat (rowsF s) ((i : Int) * s.ms.length + k).toNat) = ent s i c := by
            rw [en]; rcases k2 with rfl | rfl <;> exact i64_in (by omega) (by omega)
          have p1 : 0 ≤ (i : Int) * s.ms.length + k := by omega
          have hK : Sub (upd bl gp (some ⟨5, [[.int .i64 (nR s), .int .i64 (nC s), .lsl g 1 0 (i * nC s + c), .sl (iv (right s l)), .lsl gc 1 0 (nC s)]]⟩)) b := fun x y hx => by
            rw [upd_apply] at hx
            split at hx
            · rename_i e; rw [e, hp]; exact hx
            · exact hsub x y hx
          have mc : (i + 1) * nC s ≤ 12 * 16 := Nat.mul_le_mul (by omega) (by omega)
          rw [Nat.add_mul] at mc
          have tka : (iv (aTo s (i * nC s + c))).take (i * nC s + c) = iv (aTo s (i * nC s + c)) := List.take_of_length_le (by simp)
          refine AW_mixedBT mixedO _ hK [0, 1, 2, 3, 4, 5, 6, 7, 8, 9, 10, 11, 12, 13, 14] 4 18 (by kernel_rfl) ?_
          simp [-iv_get, w1, w2, w3, qs, qr, p1]
          refine DAny_one (i := 15) (by kernel_rfl) rfl rfl ?_
          simp
          intro g2 hg2 hb2
          have n2g : g2 ≠ g := fun e => by rw [e, ha] at hb2; cases hb2
          have n2p : g2 ≠ gp := fun e => by rw [e, hp] at hb2; cases hb2
          have hS : ∀ (u : Int) (B : Int → Option Blk), u ≠ gp → bl u = none → (∀ x y, x ≠ g → x ≠ g2 → x ≠ u → b x = some y → B x = some y) → Sub (upd bl gp (some ⟨5, [[.int .i64 (nR s), .int .i64 (nC s), .lsl g 1 0 (i * nC s + c), .sl (iv (right s l)), .lsl gc 1 0 (nC s)]]⟩)) B := by
            intro u B hu hbu hB x y hx
            refine hB x y ?_ ?_ ?_ (hK x y hx)
            · intro e; rw [e, upd_apply, if_neg npp, hf] at hx; cases hx
            · intro e; have := hK x y hx; rw [e, hb2] at this; cases this
            · intro e; rw [e, upd_apply, if_neg hu, hbu] at hx; cases hx
          refine ⟨hS g _ npp hf (fun x y h1 h2 h3 hx => by simp [h2, hx]), DAny_one (i := 16) (by kernel_rfl) rfl rfl ?_⟩
          simp [n2g, Ne.symm n2g, ha, tka, appV, elsV, Int.not_lt.2 hg2]
          refine ⟨by omega, fun g3 hg3 hb3 => ?_⟩
          have n3p : g3 ≠ gp := by grind
          have n3r : g3 ≠ gr := by grind
          have n3c : g3 ≠ gc := by grind
          have f3 : bl g3 = none := by
            by_cases e : g3 = g
            · rw [e]; exact hf
            · exact fresh_of hsub (hb3 e).2
          have n2r : g2 ≠ gr := fun e => by rw [e, hr] at hb2; cases hb2
          have n2c : g2 ≠ gc := fun e => by rw [e, hcc] at hb2; cases hb2
          refine ⟨hS g3 _ n3p f3 (fun x y h1 h2 h3 hx => by simp [h1, h2, h3, hx]), DAny_one (i := 17) (by kernel_rfl) rfl rfl ?_⟩
          simp
          refine ⟨hS g3 _ n3p f3 (fun x y h1 h2 h3 hx => by simp [h1, h2, h3, hx]), DAny_last (i := 18) (by kernel_rfl) rfl rfl rfl ?_⟩
          simp [n3p, Ne.symm n3p, n2p, Ne.symm n2p, npp, Ne.symm npp, hp]
          refine DAny_done (by kernel_rfl) ?_
          have w4 : IntKind.i64.wrap ((c : Int) + 1) = c + 1 := i64_in (by omega) (by omega)
          simp [w4, loopQ_normal]
          refine ⟨c + 1, ⟨i * nC s + c + 1, g3, _⟩, ⟨by omega, rfl, ⟨?_, ?_, ?_, ?_, n3r, n3p, n3c, f3, ?_, fun e => by simp only at e; omega⟩⟩, by omega, rfl, by simp, sub_eq rfl⟩
          · simp [n3r, Ne.symm n3r, n2r, Ne.symm n2r, npr, Ne.symm npr, hpr, Ne.symm hpr, hr]
          · simp
          · simp [n3c, Ne.symm n3c, n2c, Ne.symm n2c, npc, Ne.symm npc, hpc, Ne.symm hpc, hcc]
          · simp [n3p, aTo_succ s i c hcl, iv_append, iv_one]
          · intro x y hx
            have h1 : x ≠ g := fun e => by rw [e, hf] at hx; cases hx
            have h2 : x ≠ g2 := fun e => by have := hsub x y hx; rw [e, hb2] at this; cases this
            have h3 : x ≠ g3 := fun e => by rw [e, f3] at hx; cases hx
            have h4 : x ≠ gp := fun e => by rw [e, hbp] at hx; cases hx
            simp [h1, h2, h3, h4, hsub x y hx]
        · have : c = nC s := by omega
          subst this
          have w5 : IntKind.i64.wrap ((i : Int) + 1) = i + 1 := i64_in (by omega) (by omega)
          simp [w5, loopQ_normal]
          refine ⟨i + 1, ⟨i * nC s + nC s, g, b⟩, ⟨by omega, by rw [Nat.add_mul]; simp, ⟨hr, hp, hcc, ha, npr, npp, npc, hf, hsub, hneg⟩⟩, by omega, rfl, by simp, sub_eq rfl⟩
      · have : i = nR s := by omega
        subst this
        have hR := P.hr
        simp only at hR
        simp [hR]
        obtain ⟨hr, hp, hcc, ha, npr, npp, npc, hf, hsub, hneg⟩ := P
        simp only at hr hp hcc ha npr npp npc hf hsub hneg
        generalize hB : upd b gr (some ⟨5, [[.int .i64 (nR s), .int .i64 (nC s), .lsl g 1 0 (nR s * nC s), .sl (iv (right s l)), .lsl gc 1 0 (nC s)]]⟩) = B
        have oa : OwnD (dropB B bl) (fl 1 (iv (aTo s (nR s * nC s)))) (.lsl g 1 0 (nR s * nC s)) [g] := own_iv.2 (.inr ⟨g, by simp, rfl, by unfold dropB; rw [hf, ← hB]; simp [npr, ha], hneg⟩)
        have oc : OwnD (dropB B bl) (fl 1 (iv (List.replicate (nC s) 0))) (.lsl gc 1 0 (nC s)) [gc] := own_iv.2 (.inr ⟨gc, by simp, rfl, by unfold dropB; rw [hbc, ← hB]; simp [hcr, hcc], by omega⟩)
        refine retRO [.agg [.int .i64 (nR s), .int .i64 (nC s), .lsl g 1 0 (nR s * nC s), .sl (iv (right s l)), .lsl gc 1 0 (nC s)]] 2 (by simp [← hB]) ?_ ?_
        · show frz (dropB B bl) 2 (.agg [_, _, _, _, _]) = _
          rw [frz_agg, List.mapM_cons, frz_cl rfl, List.mapM_cons, frz_cl rfl, List.mapM_cons, frz_iv oa 0, List.mapM_cons, frz_cl (by simp [V.cl]), List.mapM_cons, frz_iv oc 0]
          simp [Pg.v, fprog]
        · rw [← hB]; simp [hbr, hsub]
  · simp
    intro gp hgp hpr hps hbp
    refine ⟨by simp [hpr, hps, hbp], DAny_one (i := 11) (by kernel_rfl) rfl rfl ?_⟩
    simp
    refine ⟨by omega, by unfold maxLen; omega, fun gc hgc hcp hcr hcs hbc => ⟨by simp [hcs, hcr, hcp, hpr, hps, hbp, hbc], ?_⟩⟩
    have hpc : ¬gp = gc := Ne.symm hcp
    refine DAny_one (i := 12) (by kernel_rfl) rfl rfl ?_
    simp
    refine ⟨by simp [hcs, hcr, hbc, hpc, hcp, hpr, hps, hbp], DAny_one (i := 14) (by kernel_rfl) rfl rfl ?_⟩
    simp [hpc, hcp]
    refine ⟨by simp [hcs, hcr, hbc, hpc, hcp, hpr, hps, hbp], DAny_done (by kernel_rfl) ?_⟩
    simp [Str.c]
    refine AW_ghostCell (g := gp) 0 2 1 (s := 5) (els := [[.int .i64 (nR s), .int .i64 (nC s), .nils, .sl (iv (right s l)), .lsl gc 1 0 (nC s)]]) (by simp) rfl rfl fun ga hga hgap => ?_
    have hga' : bl ga = none ∧ ga ≠ gr ∧ ga ≠ gc := by simp [hgap] at hga; grind
    obtain ⟨hba, har, hac⟩ := hga'
    clear hga
    refine AW_for (fun p : Nat × PS => [(4, .loc gr 5 0 0), (5, .sl (iv (who s))), (6, .sl (iv (sgn s))), (7, .int .i64 s.ms.length), (8, .sl (iv (rowsF s))), (9, .loc gp 5 0 0), (10, .int .i64 p.1)]) (fun p => p.2.b) (fun p => p.1 ≤ nR s ∧ p.2.n = p.1 * nC s ∧ PI bl s l gr gp gc p.2) (fun p => nR s - p.1) 69 (0, ⟨0, ga, _⟩) ⟨Nat.zero_le _, by simp, ⟨?_, ?_, ?_, ?_, har, hgap, hac, hba, ?_, fun _ => rfl⟩⟩ ⟨rfl, by simp, sub_eq rfl⟩ ?_
    · simp [Ne.symm har, hpr, Ne.symm hpr, hcr, Ne.symm hcr]
    · simp [Ne.symm hgap]
    · simp [Ne.symm hac, hpc, Ne.symm hpc, iv]
    · simp [aTo, iv]
    · simp [hgs, hbr, hbc, hbp, hba]
    rintro ⟨i, n, g, b⟩ ⟨hi, hn, P⟩
    simp only at hi hn
    subst hn
    have hP := P.hp
    simp only at hP
    refine AW_run ?_
    simp [hP]
    refine ⟨fun h => ?_, fun h => ?_⟩
    · simp [ew]
      refine AW_for (fun p : Nat × PS => [(4, .loc gr 5 0 0), (5, .sl (iv (who s))), (6, .sl (iv (sgn s))), (7, .int .i64 s.ms.length), (8, .sl (iv (rowsF s))), (9, .loc gp 5 0 0), (10, .int .i64 i), (42, .sl (iv (who s))), (43, .int .i64 (nC s)), (44, .int .i64 p.1)]) (fun p => p.2.b) (fun p => p.1 ≤ nC s ∧ p.2.n = i * nC s + p.1 ∧ PI bl s l gr gp gc p.2) (fun p => nC s - p.1) 69 (0, ⟨i * nC s, g, b⟩) ⟨Nat.zero_le _, rfl, P⟩ ⟨rfl, by simp, sub_eq rfl⟩ ?_
      rintro ⟨c, n, g, b⟩ ⟨hc, hn, P⟩
      simp only at hc hn
      subst hn
      obtain ⟨hr, hp, hcc, ha, npr, npp, npc, hf, hsub, hneg⟩ := P
      simp only at hr hp hcc ha npr npp npc hf hsub hneg
      refine AW_run ?_
      simp
      refine ⟨fun hcl => ?_, fun hcl => ?_⟩
      · have qw := who_at s c hcl
        have qs := sgn_at s c hcl
        obtain ⟨⟨k0, k1⟩, k2⟩ := colAt_ok s c hcl
        simp [-iv_get, qw]
        obtain ⟨⟨k, sg⟩, hk⟩ : ∃ k, colAt s c = k := ⟨_, rfl⟩
        rw [hk] at qw qs k0 k1 k2 ⊢
        simp only at qw qs k0 k1 k2 ⊢
        have m1 : i * s.ms.length ≤ 12 * 8 := Nat.mul_le_mul (by omega) (by omega)
        have mi : ((i * s.ms.length : Nat) : Int) = (i : Int) * s.ms.length := by simp
        have w1 : IntKind.i64.wrap ((i : Int) * s.ms.length) = (i : Int) * s.ms.length := i64_in (by omega) (by omega)
        have w2 : IntKind.i64.wrap ((i : Int) * s.ms.length + k) = (i : Int) * s.ms.length + k := i64_in (by omega) (by omega)
        have e1 : ((i : Int) * s.ms.length + k).toNat = i * s.ms.length + k.toNat := by omega
        have ei : i * s.ms.length + k.toNat < (rowsF s).length := by
          rw [rowsF_length]
          have : (i + 1) * s.ms.length ≤ nR s * s.ms.length := Nat.mul_le_mul_right _ h
          rw [Nat.add_mul] at this; omega
        have qr := iv_at ei
        rw [← e1] at qr
        have bd := rowsF_le hs (i * s.ms.length + k.toNat)
        rw [← e1] at bd
        have en : ent s i c = sg * lat (rowsF s) ((i : Int) * s.ms.length + k).toNat := by unfold ent; rw [hk, e1]
        have w3 : IntKind.i64.wrap (sg * lat (rowsF s) ((i : Int) * s.ms.length + k).toNat) = ent s i c := by
          rw [en]; rcases k2 with rfl | rfl <;> exact i64_in (by omega) (by omega)
        have p1 : 0 ≤ (i : Int) * s.ms.length + k := by omega
        have hK : Sub (upd bl gp (some ⟨5, [[.int .i64 (nR s), .int .i64 (nC s), .lsl g 1 0 (i * nC s + c), .sl (iv (right s l)), .lsl gc 1 0 (nC s)]]⟩)) b := fun x y hx => by
          rw [upd_apply] at hx
          split at hx
          · rename_i e; rw [e, hp]; exact hx
          · exact hsub x y hx
        have mc : (i + 1) * nC s ≤ 12 * 16 := Nat.mul_le_mul (by omega) (by omega)
        rw [Nat.add_mul] at mc
        have tka : (iv (aTo s (i * nC s + c))).take (i * nC s + c) = iv (aTo s (i * nC s + c)) := List.take_of_length_le (by simp)
        refine AW_mixedBT mixedO _ hK [0, 1, 2, 3, 4, 5, 6, 7, 8, 9, 10, 11, 12, 13, 14] 4 18 (by kernel_rfl) ?_
        simp [-iv_get, w1, w2, w3, qs, qr, p1]
        refine DAny_one (i := 15) (by kernel_rfl) rfl rfl ?_
        simp
        intro g2 hg2 hb2
        have n2g : g2 ≠ g := fun e => by rw [e, ha] at hb2; cases hb2
        have n2p : g2 ≠ gp := fun e => by rw [e, hp] at hb2; cases hb2
        have hS : ∀ (u : Int) (B : Int → Option Blk), u ≠ gp → bl u = none → (∀ x y, x ≠ g → x ≠ g2 → x ≠ u → b x = some y → B x = some y) → Sub (upd bl gp (some ⟨5, [[.int .i64 (nR s), .int .i64 (nC s), .lsl g 1 0 (i * nC s + c), .sl (iv (right s l)), .lsl gc 1 0 (nC s)]]⟩)) B := by
          intro u B hu hbu hB x y hx
          refine hB x y ?_ ?_ ?_ (hK x y hx)
          · intro e; rw [e, upd_apply, if_neg npp, hf] at hx; cases hx
          · intro e; have := hK x y hx; rw [e, hb2] at this; cases this
          · intro e; rw [e, upd_apply, if_neg hu, hbu] at hx; cases hx
        refine ⟨hS g _ npp hf (fun x y h1 h2 h3 hx => by simp [h2, hx]), DAny_one (i := 16) (by kernel_rfl) rfl rfl ?_⟩
        simp [n2g, Ne.symm n2g, ha, tka, appV, elsV, Int.not_lt.2 hg2]
        refine ⟨by omega, fun g3 hg3 hb3 => ?_⟩
        have n3p : g3 ≠ gp := by grind
        have n3r : g3 ≠ gr := by grind
        have n3c : g3 ≠ gc := by grind
        have f3 : bl g3 = none := by
          by_cases e : g3 = g
          · rw [e]; exact hf
          · exact fresh_of hsub (hb3 e).2
        have n2r : g2 ≠ gr := fun e => by rw [e, hr] at hb2; cases hb2
        have n2c : g2 ≠ gc := fun e => by rw [e, hcc] at hb2; cases hb2
        refine ⟨hS g3 _ n3p f3 (fun x y h1 h2 h3 hx => by simp [h1, h2, h3, hx]), DAny_one (i := 17) (by kernel_rfl) rfl rfl ?_⟩
        simp
        refine ⟨hS g3 _ n3p f3 (fun x y h1 h2 h3 hx => by simp [h1, h2, h3, hx]), DAny_last (i := 18) (by kernel_rfl) rfl rfl rfl ?_⟩
        simp [n3p, Ne.symm n3p, n2p, Ne.symm n2p, npp, Ne.symm npp, hp]
        refine DAny_done (by kernel_rfl) ?_
        have w4 : IntKind.i64.wrap ((c : Int) + 1) = c + 1 := i64_in (by omega) (by omega)
        simp [w4, loopQ_normal]
        refine ⟨c + 1, ⟨i * nC s + c + 1, g3, _⟩, ⟨by omega, rfl, ⟨?_, ?_, ?_, ?_, n3r, n3p, n3c, f3, ?_, fun e => by simp only at e; omega⟩⟩, by omega, rfl, by simp, sub_eq rfl⟩
        · simp [n3r, Ne.symm n3r, n2r, Ne.symm n2r, npr, Ne.symm npr, hpr, Ne.symm hpr, hr]
        · simp
        · simp [n3c, Ne.symm n3c, n2c, Ne.symm n2c, npc, Ne.symm npc, hpc, Ne.symm hpc, hcc]
        · simp [n3p, aTo_succ s i c hcl, iv_append, iv_one]
        · intro x y hx
          have h1 : x ≠ g := fun e => by rw [e, hf] at hx; cases hx
          have h2 : x ≠ g2 := fun e => by have := hsub x y hx; rw [e, hb2] at this; cases this
          have h3 : x ≠ g3 := fun e => by rw [e, f3] at hx; cases hx
          have h4 : x ≠ gp := fun e => by rw [e, hbp] at hx; cases hx
          simp [h1, h2, h3, h4, hsub x y hx]
      · have : c = nC s := by omega
        subst this
        have w5 : IntKind.i64.wrap ((i : Int) + 1) = i + 1 := i64_in (by omega) (by omega)
        simp [w5, loopQ_normal]
        refine ⟨i + 1, ⟨i * nC s + nC s, g, b⟩, ⟨by omega, by rw [Nat.add_mul]; simp, ⟨hr, hp, hcc, ha, npr, npp, npc, hf, hsub, hneg⟩⟩, by omega, rfl, by simp, sub_eq rfl⟩
    · have : i = nR s := by omega
      subst this
      have hR := P.hr
      simp only at hR
      simp [hR]
      obtain ⟨hr, hp, hcc, ha, npr, npp, npc, hf, hsub, hneg⟩ := P
      simp only at hr hp hcc ha npr npp npc hf hsub hneg
      generalize hB : upd b gr (some ⟨5, [[.int .i64 (nR s), .int .i64 (nC s), .lsl g 1 0 (nR s * nC s), .sl (iv (right s l)), .lsl gc 1 0 (nC s)]]⟩) = B
      have oa : OwnD (dropB B bl) (fl 1 (iv (aTo s (nR s * nC s)))) (.lsl g 1 0 (nR s * nC s)) [g] := own_iv.2 (.inr ⟨g, by simp, rfl, by unfold dropB; rw [hf, ← hB]; simp [npr, ha], hneg⟩)
      have oc : OwnD (dropB B bl) (fl 1 (iv (List.replicate (nC s) 0))) (.lsl gc 1 0 (nC s)) [gc] := own_iv.2 (.inr ⟨gc, by simp, rfl, by unfold dropB; rw [hbc, ← hB]; simp [hcr, hcc], by omega⟩)
      refine retRO [.agg [.int .i64 (nR s), .int .i64 (nC s), .lsl g 1 0 (nR s * nC s), .sl (iv (right s l)), .lsl gc 1 0 (nC s)]] 2 (by simp [← hB]) ?_ ?_
      · show frz (dropB B bl) 2 (.agg [_, _, _, _, _]) = _
        rw [frz_agg, List.mapM_cons, frz_cl rfl, List.mapM_cons, frz_cl rfl, List.mapM_cons, frz_iv oa 0, List.mapM_cons, frz_cl (by simp [V.cl]), List.mapM_cons, frz_iv oc 0]
        simp [Pg.v, fprog]
      · rw [← hB]; simp [hbr, hsub]

end Go.Proofs.YticmgmemnpcbbaaGreat.Vm
