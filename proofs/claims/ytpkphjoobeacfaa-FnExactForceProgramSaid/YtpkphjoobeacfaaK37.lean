/- The rows of the equilibrium matrix, as the program makes them. -/
import Derived.Test.YtpkphjoobeacfaaK25
import Derived.Test.YtpkphjoobeacfaaK32
namespace Go.Proofs.Ytpkphjoobeacfaa.Vm
open Go Go.Proofs
set_option linter.unusedSimpArgs false
set_option linter.unusedVariables false

/-- What a member adds to the force on joint j. -/
def eqX (s : Str) (j : Int) (m : Mb) : Int := if j = m.a then vx s m else if j = m.b then -vx s m else 0
def eqY (s : Str) (j : Int) (m : Mb) : Int := if j = m.a then vy s m else if j = m.b then -vy s m else 0
def rowX (s : Str) (j : Int) : List Int := s.ms.map (eqX s j)
def rowY (s : Str) (j : Int) : List Int := s.ms.map (eqY s j)
def eqRows (s : Str) : List (List Int) := (frees s.js).flatMap fun j => [rowX s j, rowY s j]
def eqTo (s : Str) (n : Nat) : List (List Int) := ((frees s.js).take n).flatMap fun j => [rowX s j, rowY s j]
theorem eqTo_succ (s : Str) (n : Nat) (h : n < (frees s.js).length) : eqTo s (n + 1) = eqTo s n ++ [rowX s (frees s.js)[n], rowY s (frees s.js)[n]] := by
  unfold eqTo
  rw [List.take_add_one, List.getElem?_eq_getElem h, List.flatMap_append]
  simp
theorem eqTo_length (s : Str) : ∀ n, n ≤ (frees s.js).length → (eqTo s n).length = 2 * n
  | 0, _ => by simp [eqTo]
  | n + 1, h => by
    rw [eqTo_succ s n (by omega), List.length_append, eqTo_length s n (by omega)]
    simp; omega
@[simp] theorem rowX_length (s : Str) (j : Int) : (rowX s j).length = s.ms.length := by simp [rowX]
@[simp] theorem rowY_length (s : Str) (j : Int) : (rowY s j).length = s.ms.length := by simp [rowY]
theorem mat_nat {s : Str} {k : Nat} (h : k < s.ms.length) : mat s k = s.ms[k] := by simp [mat, h]
theorem v_le {s : Str} (hs : SOk s) {m : Mb} (hm : m ∈ s.ms) : (-100 ≤ vx s m ∧ vx s m ≤ 100) ∧ (-100 ≤ vy s m ∧ vy s m ≤ 100) := by
  obtain ⟨⟨a1, a2⟩, ⟨b1, b2⟩⟩ := hs.ix _ hm
  have ca := hs.at a1 a2
  have cb := hs.at b1 b2
  unfold vx vy
  omega

structure GrowG where
  i : Nat
  g : Int
  els : List (List V)
  gs : List Int
  b : Int → Option Blk

theorem part_next (xs : List (List V)) (z : List V) (i : Nat) (h : i < xs.length) (hz : xs[i] = z) : part xs z i = part xs z (i + 1) := by
  rw [← part_set xs z i h z hz.symm]
  have := part_get xs z i h
  apply List.ext_getElem?
  intro j
  rw [List.getElem?_set]
  split
  · rename_i e; subst e; rw [if_pos (by rw [part_length]; exact h)]; exact this
  · rfl

def eqInv (bl : Int → Option Blk) (s : Str) (p : GrowG) : Prop :=
  p.i ≤ (frees s.js).length ∧ p.b p.g = some ⟨1, p.els⟩ ∧ p.els.length = 2 * p.i ∧ OwnR p.b 1 ((eqTo s p.i).map fun w => [fl 1 (iv w)]) p.els p.gs ∧ p.g ∉ p.gs ∧ bl p.g = none ∧ (∀ x, x ∈ p.gs → bl x = none) ∧ Sub bl p.b ∧ (p.g < 0 → p.els = [])

theorem eqInv_next {bl : Int → Option Blk} {s : Str} {i : Nat} {g : Int} {els : List (List V)} {gs : List Int} {b : Int → Option Blk} (H : eqInv bl s ⟨i, g, els, gs, b⟩) (h : i < (frees s.js).length)
    {ga gb gp gn : Int} (hga : 0 ≤ ga) (hba : b ga = none) (hgb : 0 ≤ gb) (hab : ¬gb = ga) (hbb : b gb = none) (hpa : ¬gp = ga) (hpb : ¬gp = gb) (hbp : b gp = none) (hgn : 0 ≤ gn)
    (hbn : ¬gn = g → ¬gn = gp ∧ ¬gn = gb ∧ ¬gn = ga ∧ b gn = none) :
    eqInv bl s ⟨i + 1, gn, els ++ [[.lsl ga 1 0 s.ms.length]] ++ [[.lsl gb 1 0 s.ms.length]], gs ++ [ga] ++ [gb],
      upd (rem (upd (upd (upd b ga (some ⟨1, iv (rowX s (frees s.js)[i])⟩)) gb (some ⟨1, iv (rowY s (frees s.js)[i])⟩)) gp (some ⟨1, [[.lsl ga 1 0 s.ms.length], [.lsl gb 1 0 s.ms.length]]⟩)) g) gn
        (some ⟨1, els.take (2 * i) ++ [[.lsl ga 1 0 s.ms.length], [.lsl gb 1 0 s.ms.length]]⟩)⟩ := by
  obtain ⟨hi, hb, hel, ho, hn, hg, hf, hsb, hneg⟩ := H
  simp only at hi hb hel ho hn hg hf hsb hneg
  have nga : ga ≠ g := fun e => by rw [e, hb] at hba; cases hba
  have ngb : gb ≠ g := fun e => by rw [e, hb] at hbb; cases hbb
  have ngp : gp ≠ g := fun e => by rw [e, hb] at hbp; cases hbp
  have fa := fresh_of hsb hba
  have fb := fresh_of hsb hbb
  have fp := fresh_of hsb hbp
  have na : gn ≠ ga := fun e => by
    by_cases c : gn = g
    · exact nga (e.symm.trans c)
    · exact (hbn c).2.2.1 e
  have nb : gn ≠ gb := fun e => by
    by_cases c : gn = g
    · exact ngb (e.symm.trans c)
    · exact (hbn c).2.1 e
  have fn : bl gn = none := by
    by_cases c : gn = g
    · rw [c]; exact hg
    · exact fresh_of hsb (hbn c).2.2.2
  have nn : gn ∉ gs := by
    by_cases c : gn = g
    · rw [c]; exact hn
    · exact ho.not (hbn c).2.2.2
  have key : ∀ (B : Int → Option Blk) (u v w z : Option Blk), B = upd (rem (upd (upd (upd b ga u) gb v) gp w) g) gn z → ∀ x y, x ≠ g → x ≠ gn → b x = some y → B x = some y := by
    intro B u v w z hB x y c1 c2 hx
    have c3 : x ≠ ga := fun e => by rw [e, hba] at hx; cases hx
    have c4 : x ≠ gb := fun e => by rw [e, hbb] at hx; cases hx
    have c5 : x ≠ gp := fun e => by rw [e, hbp] at hx; cases hx
    rw [hB]; simp [c1, c2, c3, c4, c5, hx]
  have vx1 : ∀ xs : List Int, (iv xs).all (fun r => r.all V.cl) = true := fun xs => by simp [iv, V.cl]
  have vx2 : ∀ (xs : List Int) r, r ∈ iv xs → r.length = 1 := fun xs r hr => by
    simp [iv] at hr
    obtain ⟨_, _, rfl⟩ := hr; rfl
  have et : els.take (2 * i) = els := List.take_of_length_le (by omega)
  refine ⟨by simp only; omega, by simp [et], by simp [hel]; omega, ?_, ?_, fn, ?_, ?_, fun e => by simp only at e; omega⟩
  · simp only
    rw [eqTo_succ s i h, List.map_append, show (∀ (A : List (List D)) (x y : List Int), A ++ [x, y].map (fun w => [fl 1 (iv w)]) = A ++ [[fl 1 (iv x)]] ++ [[fl 1 (iv y)]]) from fun A x y => by simp]
    generalize hB : upd (rem (upd (upd (upd b ga (some ⟨1, iv (rowX s (frees s.js)[i])⟩)) gb (some ⟨1, iv (rowY s (frees s.js)[i])⟩)) gp (some ⟨1, [[.lsl ga 1 0 s.ms.length], [.lsl gb 1 0 s.ms.length]]⟩)) g) gn
        (some ⟨1, els.take (2 * i) ++ [[.lsl ga 1 0 s.ms.length], [.lsl gb 1 0 s.ms.length]]⟩) = B
    have o0 := ho.keep fun x hx y hy => key _ _ _ _ _ hB.symm x y (fun e => hn (e ▸ hx)) (fun e => nn (e ▸ hx)) hy
    have oa : OwnD B (fl 1 (iv (rowX s (frees s.js)[i]))) (.lsl ga 1 0 s.ms.length) [ga] := (own_fl (vx1 _) (vx2 _)).2 (.inr ⟨ga, by simp, rfl, by rw [← hB]; simp [Ne.symm na, Ne.symm hpa, Ne.symm hab, nga], by omega⟩)
    have ob : OwnD B (fl 1 (iv (rowY s (frees s.js)[i]))) (.lsl gb 1 0 s.ms.length) [gb] := (own_fl (vx1 _) (vx2 _)).2 (.inr ⟨gb, by simp, rfl, by rw [← hB]; simp [Ne.symm nb, Ne.symm hpb, ngb], by omega⟩)
    refine OwnR.snoc (own_single.2 ob) rfl (by simp) (OwnR.snoc (own_single.2 oa) rfl (by simp) o0 ?_) ?_
    · intro x hx hx2
      rw [List.mem_singleton] at hx2
      exact ho.not hba (hx2 ▸ hx)
    · intro x hx hx2
      rw [List.mem_singleton] at hx2
      subst hx2
      rcases List.mem_append.1 hx with hx | hx
      · exact ho.not hbb hx
      · rw [List.mem_singleton] at hx; exact hab hx
  · simp [nn, na, nb]
  · intro x hx
    simp at hx
    rcases hx with hx | hx | hx
    · exact hf x hx
    · rw [hx]; exact fa
    · rw [hx]; exact fb
  · intro x y hx
    exact key _ _ _ _ _ rfl x y (fun e => by rw [e, hg] at hx; cases hx) (fun e => by rw [e, fn] at hx; cases hx) (hsb x y hx)

set_option maxHeartbeats 2000000 in
theorem equilibrium_nw (s : Str) (hs : SOk s) : NW Try.prog 136 [.ptr s.c] (dII (eqRows s)) := by
  have h6 := hs.nj
  have h8 := hs.nm
  have hfr := freesTo_le s.js s.js.length
  change (frees s.js).length ≤ s.js.length at hfr
  refine nw_of Try.func136 rfl rfl (by rw [Try.ntmps136]; simp) fun bl => ?_
  rw [Try.ntmps136, Try.results136]
  refine AW_run ?_
  simp
  refine callP_ro (freeJoints_ro s (by omega)) ?_
  simp
  refine AW_ghost 3 1 (by simp) fun g00 hg00 => ?_
  simp at hg00
  refine AW_for (fun p : GrowG => [(0, .ptr s.c), (3, .lsl p.g 1 0 (2 * p.i)), (13, .sl (iv (frees s.js))), (14, .int .i64 (frees s.js).length), (15, .int .i64 p.i)]) (fun p => p.b)
    (eqInv bl s)
    (fun p => (frees s.js).length - p.i) 82 ⟨0, g00, [], [], upd bl g00 (some ⟨1, []⟩)⟩ ⟨Nat.zero_le _, by simp, rfl, by simp [eqTo, OwnR], by simp, hg00, by simp, by simp [hg00], fun _ => rfl⟩ ⟨rfl, by simp, by simp⟩ ?_
  rintro ⟨i, g, els, gs, b⟩ ⟨hi, hb, hel, ho, hn, hg, hf, hsb, hneg⟩
  simp only at hi hb hel ho hn hg hf hsb hneg
  refine AW_run ?_
  simp
  refine ⟨fun h => ?_, fun h => ?_⟩
  · have q := iv_get (frees s.js) i h
    simp [h]
    obtain ⟨j, hj⟩ : ∃ j, (frees s.js)[i] = j := ⟨_, rfl⟩
    rw [hj]
    refine AW_mixed mixedO [0, 1, 2, 3, 4, 6, 7, 8, 9, 10] 4 (by kernel_rfl) ?_
    simp [Str.c]
    refine DAny_two (i := 5) (j := 11) (by kernel_rfl) rfl rfl rfl rfl ?_ ?_
    · simp
      refine ⟨by omega, by unfold maxLen; omega, fun ga hga hba => ⟨by simp [hba], ?_⟩⟩
      refine DAny_two (i := 11) (j := 12) (by kernel_rfl) rfl rfl rfl rfl ?_ ?_
      · simp
        refine ⟨by omega, by unfold maxLen; omega, fun gb hgb hab hbb => ⟨by simp [hba, hbb, hab], ?_⟩⟩
        refine DAny_one (i := 12) (by kernel_rfl) rfl rfl ?_
        simp
        refine ⟨by simp [hba, hbb, hab], DAny_one (i := 13) (by kernel_rfl) rfl rfl ?_⟩
        simp
        refine ⟨by simp [hba, hbb, hab], DAny_done (by kernel_rfl) ?_⟩
        simp [Str.c]
        -- the state behind the region
        have nga : ga ≠ g := fun e => by rw [e, hb] at hba; cases hba
        have ngb : gb ≠ g := fun e => by rw [e, hb] at hbb; cases hbb
        have fa := fresh_of hsb hba
        have fb := fresh_of hsb hbb
        have er : List.replicate s.ms.length [V.int IntKind.i64 0] = part (iv (rowX s j)) [.int .i64 0] 0 := by simp
        have er' : List.replicate s.ms.length [V.int IntKind.i64 0] = part (iv (rowY s j)) [.int .i64 0] 0 := by simp
        refine AW_for (fun k : Nat => [(0, .ptr s.c), (3, .lsl g 1 0 (2 * i)), (5, .int .i64 j), (6, .lsl ga 1 0 s.ms.length), (7, .lsl gb 1 0 s.ms.length), (13, .sl (iv (frees s.js))), (14, .int .i64 (frees s.js).length), (15, .int .i64 i), (34, .sl (mv s.ms)), (35, .int .i64 s.ms.length), (36, .int .i64 k)])
          (fun k => upd (upd b ga (some ⟨1, part (iv (rowX s j)) [.int .i64 0] k⟩)) gb (some ⟨1, part (iv (rowY s j)) [.int .i64 0] k⟩)) (fun k => k ≤ s.ms.length) (fun k => s.ms.length - k) 82 0 (Nat.zero_le _) ⟨rfl, by simp [Str.c], ?_⟩ ?_
        · intro x y hx
          simp only [upd_apply, part_zero, iv_length, rowX_length, rowY_length] at hx ⊢
          grind
        intro k hk
        refine AW_run ?_
        simp
        refine ⟨fun hkl => ?_, fun hkl => ?_⟩
        · have hv := v_le hs (List.getElem_mem hkl)
          have hm : mat s (k : Int) = s.ms[k] := mat_nat hkl
          have hvec := vector_ro s k hs (by omega) (by omega)
          rw [hm] at hvec
          have hx : k < (iv (rowX s j)).length := by simpa using hkl
          have hy : k < (iv (rowY s j)).length := by simpa using hkl
          have w1 : IntKind.i64.wrap ((k : Int) + 1) = k + 1 := i64_in (by omega) (by omega)
          have nx : IntKind.i64.wrap (-vx s s.ms[k]) = -vx s s.ms[k] := i64_in (by omega) (by omega)
          have ny : IntKind.i64.wrap (-vy s s.ms[k]) = -vy s s.ms[k] := i64_in (by omega) (by omega)
          have px := part_get (iv (rowX s j)) [.int .i64 0] k hx
          have py := part_get (iv (rowY s j)) [.int .i64 0] k hy
          simp [hkl, Mb.c]
          intro g9 hg9 h9b h9a hb9
          refine callP_ro hvec ?_
          simp
          refine ⟨fun e1 => ?_, fun e1 => ?_⟩
          · simp [hab, Ne.symm hab, h9a, h9b, Ne.symm h9a, Ne.symm h9b, hkl, px, py, w1, loopQ_normal]
            have sx := part_set (iv (rowX s j)) [.int .i64 0] k hx [.int .i64 (vx s s.ms[k])] (by simp [rowX, eqX, e1])
            have sy := part_set (iv (rowY s j)) [.int .i64 0] k hy [.int .i64 (vy s s.ms[k])] (by simp [rowY, eqY, e1])
            refine ⟨k + 1, by omega, by omega, rfl, by simp, ?_⟩
            intro x y hx'
            rw [← sx, ← sy] at hx'
            simp only [upd_apply] at hx' ⊢
            grind
          · simp [hab, Ne.symm hab, h9a, h9b, Ne.symm h9a, Ne.symm h9b, hkl, px, py, w1, nx, ny, loopQ_normal]
            refine ⟨fun e2 => ?_, fun e2 => ?_⟩
            · have fx : eqX s j s.ms[k] = -vx s s.ms[k] := by rw [eqX, if_neg e1, if_pos e2]
              have fy : eqY s j s.ms[k] = -vy s s.ms[k] := by rw [eqY, if_neg e1, if_pos e2]
              have sx := part_set (iv (rowX s j)) [.int .i64 0] k hx [.int .i64 (-vx s s.ms[k])] (by simp [rowX, fx])
              have sy := part_set (iv (rowY s j)) [.int .i64 0] k hy [.int .i64 (-vy s s.ms[k])] (by simp [rowY, fy])
              refine ⟨k + 1, by omega, by omega, rfl, by simp, ?_⟩
              intro x y hx'
              rw [← sx, ← sy] at hx'
              simp only [upd_apply] at hx' ⊢
              grind
            · have sx := part_next (iv (rowX s j)) [.int .i64 0] k hx (by simp [rowX, eqX, e1, e2])
              have sy := part_next (iv (rowY s j)) [.int .i64 0] k hy (by simp [rowY, eqY, e1, e2])
              refine ⟨k + 1, by omega, by omega, rfl, by simp, ?_⟩
              intro x y hx'
              rw [← sx, ← sy] at hx'
              simp only [upd_apply] at hx' ⊢
              grind
        · have : k = s.ms.length := by omega
          subst this
          rw [part_all _ _ _ (by simp), part_all _ _ _ (by simp)]
          intro gp hgp hpb hpa hbp
          have npg : gp ≠ g := fun e => by rw [e, hb] at hbp; cases hbp
          have er2 : List.range 2 = [0, 1] := rfl
          simp [er2, appV, elsV, Int.not_lt.2 hgp, hpb, hpa, Ne.symm hpb, Ne.symm hpa, nga, ngb, Ne.symm nga, Ne.symm ngb, npg, Ne.symm npg, hb, hel]
          refine ⟨by omega, fun gn hgn hbn => ?_⟩
          have w9 : IntKind.i64.wrap ((i : Int) + 1) = i + 1 := i64_in (by omega) (by omega)
          rw [loopQ_normal]
          subst hj
          have nx := eqInv_next ⟨hi, hb, hel, ho, hn, hg, hf, hsb, hneg⟩ h hga hba hgb hab hbb hpa hpb hbp hgn hbn
          refine ⟨_, nx, by simp only; omega, rfl, ?_, sub_eq rfl⟩
          simp [w9]; exact ⟨rfl, by omega⟩
      · simp
        refine ⟨by simp [hba], DAny_one (i := 11) (by kernel_rfl) rfl rfl ?_⟩
        simp
        refine ⟨by omega, by unfold maxLen; omega, fun gb hgb hab hbb => ⟨by simp [hba, hbb, hab], ?_⟩⟩
        refine DAny_one (i := 13) (by kernel_rfl) rfl rfl ?_
        simp
        refine ⟨by simp [hba, hbb, hab], DAny_done (by kernel_rfl) ?_⟩
        simp [Str.c]
        -- the state behind the region
        have nga : ga ≠ g := fun e => by rw [e, hb] at hba; cases hba
        have ngb : gb ≠ g := fun e => by rw [e, hb] at hbb; cases hbb
        have fa := fresh_of hsb hba
        have fb := fresh_of hsb hbb
        have er : List.replicate s.ms.length [V.int IntKind.i64 0] = part (iv (rowX s j)) [.int .i64 0] 0 := by simp
        have er' : List.replicate s.ms.length [V.int IntKind.i64 0] = part (iv (rowY s j)) [.int .i64 0] 0 := by simp
        refine AW_for (fun k : Nat => [(0, .ptr s.c), (3, .lsl g 1 0 (2 * i)), (5, .int .i64 j), (6, .lsl ga 1 0 s.ms.length), (7, .lsl gb 1 0 s.ms.length), (13, .sl (iv (frees s.js))), (14, .int .i64 (frees s.js).length), (15, .int .i64 i), (34, .sl (mv s.ms)), (35, .int .i64 s.ms.length), (36, .int .i64 k)])
          (fun k => upd (upd b ga (some ⟨1, part (iv (rowX s j)) [.int .i64 0] k⟩)) gb (some ⟨1, part (iv (rowY s j)) [.int .i64 0] k⟩)) (fun k => k ≤ s.ms.length) (fun k => s.ms.length - k) 82 0 (Nat.zero_le _) ⟨rfl, by simp [Str.c], ?_⟩ ?_
        · intro x y hx
          simp only [upd_apply, part_zero, iv_length, rowX_length, rowY_length] at hx ⊢
          grind
        intro k hk
        refine AW_run ?_
        simp
        refine ⟨fun hkl => ?_, fun hkl => ?_⟩
        · have hv := v_le hs (List.getElem_mem hkl)
          have hm : mat s (k : Int) = s.ms[k] := mat_nat hkl
          have hvec := vector_ro s k hs (by omega) (by omega)
          rw [hm] at hvec
          have hx : k < (iv (rowX s j)).length := by simpa using hkl
          have hy : k < (iv (rowY s j)).length := by simpa using hkl
          have w1 : IntKind.i64.wrap ((k : Int) + 1) = k + 1 := i64_in (by omega) (by omega)
          have nx : IntKind.i64.wrap (-vx s s.ms[k]) = -vx s s.ms[k] := i64_in (by omega) (by omega)
          have ny : IntKind.i64.wrap (-vy s s.ms[k]) = -vy s s.ms[k] := i64_in (by omega) (by omega)
          have px := part_get (iv (rowX s j)) [.int .i64 0] k hx
          have py := part_get (iv (rowY s j)) [.int .i64 0] k hy
          simp [hkl, Mb.c]
          intro g9 hg9 h9b h9a hb9
          refine callP_ro hvec ?_
          simp
          refine ⟨fun e1 => ?_, fun e1 => ?_⟩
          · simp [hab, Ne.symm hab, h9a, h9b, Ne.symm h9a, Ne.symm h9b, hkl, px, py, w1, loopQ_normal]
            have sx := part_set (iv (rowX s j)) [.int .i64 0] k hx [.int .i64 (vx s s.ms[k])] (by simp [rowX, eqX, e1])
            have sy := part_set (iv (rowY s j)) [.int .i64 0] k hy [.int .i64 (vy s s.ms[k])] (by simp [rowY, eqY, e1])
            refine ⟨k + 1, by omega, by omega, rfl, by simp, ?_⟩
            intro x y hx'
            rw [← sx, ← sy] at hx'
            simp only [upd_apply] at hx' ⊢
            grind
          · simp [hab, Ne.symm hab, h9a, h9b, Ne.symm h9a, Ne.symm h9b, hkl, px, py, w1, nx, ny, loopQ_normal]
            refine ⟨fun e2 => ?_, fun e2 => ?_⟩
            · have fx : eqX s j s.ms[k] = -vx s s.ms[k] := by rw [eqX, if_neg e1, if_pos e2]
              have fy : eqY s j s.ms[k] = -vy s s.ms[k] := by rw [eqY, if_neg e1, if_pos e2]
              have sx := part_set (iv (rowX s j)) [.int .i64 0] k hx [.int .i64 (-vx s s.ms[k])] (by simp [rowX, fx])
              have sy := part_set (iv (rowY s j)) [.int .i64 0] k hy [.int .i64 (-vy s s.ms[k])] (by simp [rowY, fy])
              refine ⟨k + 1, by omega, by omega, rfl, by simp, ?_⟩
              intro x y hx'
              rw [← sx, ← sy] at hx'
              simp only [upd_apply] at hx' ⊢
              grind
            · have sx := part_next (iv (rowX s j)) [.int .i64 0] k hx (by simp [rowX, eqX, e1, e2])
              have sy := part_next (iv (rowY s j)) [.int .i64 0] k hy (by simp [rowY, eqY, e1, e2])
              refine ⟨k + 1, by omega, by omega, rfl, by simp, ?_⟩
              intro x y hx'
              rw [← sx, ← sy] at hx'
              simp only [upd_apply] at hx' ⊢
              grind
        · have : k = s.ms.length := by omega
          subst this
          rw [part_all _ _ _ (by simp), part_all _ _ _ (by simp)]
          intro gp hgp hpb hpa hbp
          have npg : gp ≠ g := fun e => by rw [e, hb] at hbp; cases hbp
          have er2 : List.range 2 = [0, 1] := rfl
          simp [er2, appV, elsV, Int.not_lt.2 hgp, hpb, hpa, Ne.symm hpb, Ne.symm hpa, nga, ngb, Ne.symm nga, Ne.symm ngb, npg, Ne.symm npg, hb, hel]
          refine ⟨by omega, fun gn hgn hbn => ?_⟩
          have w9 : IntKind.i64.wrap ((i : Int) + 1) = i + 1 := i64_in (by omega) (by omega)
          rw [loopQ_normal]
          subst hj
          have nx := eqInv_next ⟨hi, hb, hel, ho, hn, hg, hf, hsb, hneg⟩ h hga hba hgb hab hbb hpa hpb hbp hgn hbn
          refine ⟨_, nx, by simp only; omega, rfl, ?_, sub_eq rfl⟩
          simp [w9]; exact ⟨rfl, by omega⟩
    · simp
      refine ⟨by omega, by unfold maxLen; omega, fun gb hgb hbb => ⟨by simp [hbb], ?_⟩⟩
      refine DAny_one (i := 5) (by kernel_rfl) rfl rfl ?_
      simp
      refine ⟨by omega, by unfold maxLen; omega, fun ga hga hab hba => ⟨by simp [hba, hbb, hab], ?_⟩⟩
      refine DAny_one (i := 12) (by kernel_rfl) rfl rfl ?_
      simp
      refine ⟨by simp [hba, hbb, hab], DAny_one (i := 13) (by kernel_rfl) rfl rfl ?_⟩
      simp
      refine ⟨by simp [hba, hbb, hab], DAny_done (by kernel_rfl) ?_⟩
      simp [Str.c]
      -- the state behind the region
      have nga : ga ≠ g := fun e => by rw [e, hb] at hba; cases hba
      have ngb : gb ≠ g := fun e => by rw [e, hb] at hbb; cases hbb
      have fa := fresh_of hsb hba
      have fb := fresh_of hsb hbb
      have er : List.replicate s.ms.length [V.int IntKind.i64 0] = part (iv (rowX s j)) [.int .i64 0] 0 := by simp
      have er' : List.replicate s.ms.length [V.int IntKind.i64 0] = part (iv (rowY s j)) [.int .i64 0] 0 := by simp
      refine AW_for (fun k : Nat => [(0, .ptr s.c), (3, .lsl g 1 0 (2 * i)), (5, .int .i64 j), (6, .lsl ga 1 0 s.ms.length), (7, .lsl gb 1 0 s.ms.length), (13, .sl (iv (frees s.js))), (14, .int .i64 (frees s.js).length), (15, .int .i64 i), (34, .sl (mv s.ms)), (35, .int .i64 s.ms.length), (36, .int .i64 k)])
        (fun k => upd (upd b ga (some ⟨1, part (iv (rowX s j)) [.int .i64 0] k⟩)) gb (some ⟨1, part (iv (rowY s j)) [.int .i64 0] k⟩)) (fun k => k ≤ s.ms.length) (fun k => s.ms.length - k) 82 0 (Nat.zero_le _) ⟨rfl, by simp [Str.c], ?_⟩ ?_
      · intro x y hx
        simp only [upd_apply, part_zero, iv_length, rowX_length, rowY_length] at hx ⊢
        grind
      intro k hk
      refine AW_run ?_
      simp
      refine ⟨fun hkl => ?_, fun hkl => ?_⟩
      · have hv := v_le hs (List.getElem_mem hkl)
        have hm : mat s (k : Int) = s.ms[k] := mat_nat hkl
        have hvec := vector_ro s k hs (by omega) (by omega)
        rw [hm] at hvec
        have hx : k < (iv (rowX s j)).length := by simpa using hkl
        have hy : k < (iv (rowY s j)).length := by simpa using hkl
        have w1 : IntKind.i64.wrap ((k : Int) + 1) = k + 1 := i64_in (by omega) (by omega)
        have nx : IntKind.i64.wrap (-vx s s.ms[k]) = -vx s s.ms[k] := i64_in (by omega) (by omega)
        have ny : IntKind.i64.wrap (-vy s s.ms[k]) = -vy s s.ms[k] := i64_in (by omega) (by omega)
        have px := part_get (iv (rowX s j)) [.int .i64 0] k hx
        have py := part_get (iv (rowY s j)) [.int .i64 0] k hy
        simp [hkl, Mb.c]
        intro g9 hg9 h9b h9a hb9
        refine callP_ro hvec ?_
        simp
        refine ⟨fun e1 => ?_, fun e1 => ?_⟩
        · simp [hab, Ne.symm hab, h9a, h9b, Ne.symm h9a, Ne.symm h9b, hkl, px, py, w1, loopQ_normal]
          have sx := part_set (iv (rowX s j)) [.int .i64 0] k hx [.int .i64 (vx s s.ms[k])] (by simp [rowX, eqX, e1])
          have sy := part_set (iv (rowY s j)) [.int .i64 0] k hy [.int .i64 (vy s s.ms[k])] (by simp [rowY, eqY, e1])
          refine ⟨k + 1, by omega, by omega, rfl, by simp, ?_⟩
          intro x y hx'
          rw [← sx, ← sy] at hx'
          simp only [upd_apply] at hx' ⊢
          grind
        · simp [hab, Ne.symm hab, h9a, h9b, Ne.symm h9a, Ne.symm h9b, hkl, px, py, w1, nx, ny, loopQ_normal]
          refine ⟨fun e2 => ?_, fun e2 => ?_⟩
          · have fx : eqX s j s.ms[k] = -vx s s.ms[k] := by rw [eqX, if_neg e1, if_pos e2]
            have fy : eqY s j s.ms[k] = -vy s s.ms[k] := by rw [eqY, if_neg e1, if_pos e2]
            have sx := part_set (iv (rowX s j)) [.int .i64 0] k hx [.int .i64 (-vx s s.ms[k])] (by simp [rowX, fx])
            have sy := part_set (iv (rowY s j)) [.int .i64 0] k hy [.int .i64 (-vy s s.ms[k])] (by simp [rowY, fy])
            refine ⟨k + 1, by omega, by omega, rfl, by simp, ?_⟩
            intro x y hx'
            rw [← sx, ← sy] at hx'
            simp only [upd_apply] at hx' ⊢
            grind
          · have sx := part_next (iv (rowX s j)) [.int .i64 0] k hx (by simp [rowX, eqX, e1, e2])
            have sy := part_next (iv (rowY s j)) [.int .i64 0] k hy (by simp [rowY, eqY, e1, e2])
            refine ⟨k + 1, by omega, by omega, rfl, by simp, ?_⟩
            intro x y hx'
            rw [← sx, ← sy] at hx'
            simp only [upd_apply] at hx' ⊢
            grind
      · have : k = s.ms.length := by omega
        subst this
        rw [part_all _ _ _ (by simp), part_all _ _ _ (by simp)]
        intro gp hgp hpb hpa hbp
        have npg : gp ≠ g := fun e => by rw [e, hb] at hbp; cases hbp
        have er2 : List.range 2 = [0, 1] := rfl
        simp [er2, appV, elsV, Int.not_lt.2 hgp, hpb, hpa, Ne.symm hpb, Ne.symm hpa, nga, ngb, Ne.symm nga, Ne.symm ngb, npg, Ne.symm npg, hb, hel]
        refine ⟨by omega, fun gn hgn hbn => ?_⟩
        have w9 : IntKind.i64.wrap ((i : Int) + 1) = i + 1 := i64_in (by omega) (by omega)
        rw [loopQ_normal]
        subst hj
        have nx := eqInv_next ⟨hi, hb, hel, ho, hn, hg, hf, hsb, hneg⟩ h hga hba hgb (Ne.symm hab) hbb hpa hpb hbp hgn hbn
        refine ⟨_, nx, by simp only; omega, rfl, ?_, sub_eq rfl⟩
        simp [w9]; exact ⟨rfl, by omega⟩
  · have : i = (frees s.js).length := by omega
    subst this
    refine retNW [.lsl g 1 0 (2 * (frees s.js).length)] (g :: gs) (by simp) ?_ ?_ hsb
    · unfold dII
      rw [OwnD]
      have e : eqRows s = eqTo s (frees s.js).length := by simp [eqTo, eqRows]
      refine .inr ⟨g, els, gs, by rw [e, List.length_map, eqTo_length s _ (Nat.le_refl _)]; rfl, rfl, hn, hb, hneg, ?_⟩
      rw [e]; exact ho
    · intro x hx
      rcases List.mem_cons.1 hx with rfl | hx
      · exact hg
      · exact hf x hx

end Go.Proofs.Ytpkphjoobeacfaa.Vm
