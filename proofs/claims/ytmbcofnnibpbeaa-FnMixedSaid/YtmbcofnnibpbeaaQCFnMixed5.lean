/- FnMixed: for every code the law of mixed loads returns true; no condition. -/


import Derived.Test.YtmbcofnnibpbeaaQCFnMixed4

namespace Go.Proofs.Ytmbcofnnibpbeaa.Vm
open Go Go.Proofs
set_option linter.unusedSimpArgs false
set_option linter.unusedVariables false

/-- What follows a structure drawn. -/
def StrK (bl : Int → Option Blk) (K : V → (Int → Option Blk) → Prop) (bs : List Int) (g : Int) : Prop :=
  ∀ (s : Str) (i' h' : Int) bl', sOk s = true → 3 ≤ s.js.length → CurOk bs i' → bl' g = some (cur bs i' h') → (∀ x y, x ≠ g → bl x = some y → bl' x = some y) → K (.agg s.c) bl'
theorem iv4 (a b c d : Int) : [[V.int .i64 a], [V.int .i64 b], [V.int .i64 c], [V.int .i64 d]] = iv [a, b, c, d] := rfl
theorem iv3 (a b c : Int) : [[V.int .i64 a], [V.int .i64 b], [V.int .i64 c]] = iv [a, b, c] := rfl
def nmA : ByteArray := { data := #[97] }
def nmB : ByteArray := { data := #[98] }
def nmC : ByteArray := { data := #[99] }
def nmD : ByteArray := { data := #[100] }
def js3 (x1 x2 x3 x4 x5 x6 : Int) : List J := [⟨nmA, -1 - x1, x2, true⟩, ⟨nmB, 3 + x3, x4, true⟩, ⟨nmC, x5 - 1, -1 - x6, false⟩]
def ms2 (x7 : Int) : List Mb := [⟨0, 2, 1⟩, ⟨1, 2, x7⟩]
theorem sOk_mk {js : List J} {ms : List Mb} (hj : js.length ≤ 6) (hm : ms.length ≤ 8) (h1 : ∀ j, j ∈ js → j.ok = true) (h2 : (js.map (·.name)).Nodup) (h3 : ∀ m, m ∈ ms → mOk js m = true) : sOk ⟨js, ms⟩ = true := by
  unfold sOk
  simp only [Bool.and_eq_true, decide_eq_true_eq]
  refine ⟨⟨⟨hj, hm⟩, fun i hi => ⟨h1 _ (List.getElem_mem hi), ?_⟩⟩, List.all_eq_true.2 h3⟩
  refine ixf_here hi (fun j hj hlt => ?_) (by simp)
  have := List.pairwise_iff_getElem.1 h2 j i (by simpa using hj) (by simpa using hi) hlt
  simpa using this
theorem nms : isName nmA = true ∧ isName nmB = true ∧ isName nmC = true ∧ isName nmD = true := by decide
theorem hang_ok {x1 x2 x3 x4 x5 x6 x7 : Int} (h1 : 0 ≤ x1 ∧ x1 < 4) (h2 : 0 ≤ x2 ∧ x2 < 3) (h3 : 0 ≤ x3 ∧ x3 < 4) (h4 : 0 ≤ x4 ∧ x4 < 3) (h5 : 0 ≤ x5 ∧ x5 < 4) (h6 : 0 ≤ x6 ∧ x6 < 4) (h7 : 1 ≤ x7 ∧ x7 ≤ 3) : sOk ⟨js3 x1 x2 x3 x4 x5 x6, ms2 x7⟩ = true := by
  obtain ⟨na, nb, nc, nd⟩ := nms
  refine sOk_mk (by simp [js3]) (by simp [ms2]) (fun j hj => ?_) (by show ([nmA, nmB, nmC] : List ByteArray).Nodup; decide) (fun m hm => ?_)
  · simp only [js3, List.mem_cons, List.not_mem_nil, or_false] at hj
    rcases hj with rfl | rfl | rfl <;> simp [J.ok, na, nb, nc] <;> omega
  · simp only [ms2, List.mem_cons, List.not_mem_nil, or_false] at hm
    rcases hm with rfl | rfl <;> simp [mOk, js3, jat] <;> omega
def js4 (x1 x2 x3 x4 x5 x6 x8 : Int) : List J := js3 x1 x2 x3 x4 x5 x6 ++ [⟨nmD, x8 - 1, -7, true⟩]
def ms3 (x7 x9 : Int) : List Mb := ms2 x7 ++ [⟨3, 2, x9⟩]
theorem hang_ok4 {x1 x2 x3 x4 x5 x6 x7 x8 x9 : Int} (h1 : 0 ≤ x1 ∧ x1 < 4) (h2 : 0 ≤ x2 ∧ x2 < 3) (h3 : 0 ≤ x3 ∧ x3 < 4) (h4 : 0 ≤ x4 ∧ x4 < 3) (h5 : 0 ≤ x5 ∧ x5 < 4) (h6 : 0 ≤ x6 ∧ x6 < 4) (h7 : 1 ≤ x7 ∧ x7 ≤ 3) (h8 : 0 ≤ x8 ∧ x8 < 5) (h9 : 1 ≤ x9 ∧ x9 ≤ 3) : sOk ⟨js4 x1 x2 x3 x4 x5 x6 x8, ms3 x7 x9⟩ = true := by
  obtain ⟨na, nb, nc, nd⟩ := nms
  refine sOk_mk (by simp [js4, js3]) (by simp [ms3, ms2]) (fun j hj => ?_) (by show ([nmA, nmB, nmC, nmD] : List ByteArray).Nodup; decide) (fun m hm => ?_)
  · simp only [js4, js3, List.cons_append, List.nil_append, List.mem_cons, List.not_mem_nil, or_false] at hj
    rcases hj with rfl | rfl | rfl | rfl <;> simp [J.ok, na, nb, nc, nd] <;> omega
  · simp only [ms3, ms2, List.cons_append, List.nil_append, List.mem_cons, List.not_mem_nil, or_false] at hm
    rcases hm with rfl | rfl | rfl <;> simp [mOk, js4, js3, jat] <;> omega
theorem l12Hang_cp {bl : Int → Option Blk} {K : V → (Int → Option Blk) → Prop} (bs : List Int) (i h g : Int) (hc : CurOk bs i) (hb : bl g = some (cur bs i h)) (hK : StrK bl K bs g) :
    CallP Try.prog 33 [.loc g 3 0 0] bl K := by
  refine callP_of Try.func33 rfl rfl (by rw [Try.ntmps33]; simp) ?_
  rw [Try.ntmps33, Try.results33]
  refine AW_runA ?_
  simp
  intro ga hga0 hga
  have nag : ga ≠ g := fun e => by rw [e, hb] at hga; cases hga
  refine AW_runA ?_
  simp
  intro gs hgs0 hgsa hgs
  have nsg : gs ≠ g := fun e => by rw [e, hb] at hgs; cases hgs
  refine AW_runA ?_
  simp
  refine l01Below_cp bs i h g 4 (by omega) hc (by simp [nag, nsg, Ne.symm nag, Ne.symm nsg, hgsa, Ne.symm hgsa, hb]) fun x1 i1 h1 hx1 hc1 => ?_
  have w1 : IntKind.i64.wrap (-1 - x1) = -1 - x1 := i64_in (by omega) (by omega)
  simp [nag, nsg, Ne.symm nag, Ne.symm nsg, hgsa, Ne.symm hgsa, w1]
  refine l01Below_cp bs i1 h1 g 3 (by omega) hc1 (by simp [nag, nsg, Ne.symm nag, Ne.symm nsg, hgsa, Ne.symm hgsa, hb]) fun x2 i2 h2 hx2 hc2 => ?_
  simp [nag, nsg, Ne.symm nag, Ne.symm nsg, hgsa, Ne.symm hgsa]
  refine l01Below_cp bs i2 h2 g 4 (by omega) hc2 (by simp [nag, nsg, Ne.symm nag, Ne.symm nsg, hgsa, Ne.symm hgsa, hb]) fun x3 i3 h3 hx3 hc3 => ?_
  have w3 : IntKind.i64.wrap (3 + x3) = 3 + x3 := i64_in (by omega) (by omega)
  simp [nag, nsg, Ne.symm nag, Ne.symm nsg, hgsa, Ne.symm hgsa, w3]
  refine l01Below_cp bs i3 h3 g 3 (by omega) hc3 (by simp [nag, nsg, Ne.symm nag, Ne.symm nsg, hgsa, Ne.symm hgsa, hb]) fun x4 i4 h4 hx4 hc4 => ?_
  simp [nag, nsg, Ne.symm nag, Ne.symm nsg, hgsa, Ne.symm hgsa]
  refine l01Below_cp bs i4 h4 g 4 (by omega) hc4 (by simp [nag, nsg, Ne.symm nag, Ne.symm nsg, hgsa, Ne.symm hgsa, hb]) fun x5 i5 h5 hx5 hc5 => ?_
  have w5 : IntKind.i64.wrap (x5 - 1) = x5 - 1 := i64_in (by omega) (by omega)
  simp [nag, nsg, Ne.symm nag, Ne.symm nsg, hgsa, Ne.symm hgsa, w5]
  refine l01Below_cp bs i5 h5 g 4 (by omega) hc5 (by simp [nag, nsg, Ne.symm nag, Ne.symm nsg, hgsa, Ne.symm hgsa, hb]) fun x6 i6 h6 hx6 hc6 => ?_
  have w6 : IntKind.i64.wrap (-1 - x6) = -1 - x6 := i64_in (by omega) (by omega)
  simp [nag, nsg, Ne.symm nag, Ne.symm nsg, hgsa, Ne.symm hgsa, w6]
  intro g5 hg5 n5g n5s n5a hb5
  simp [nag, nsg, Ne.symm nag, Ne.symm nsg, hgsa, Ne.symm hgsa, n5g, n5s, n5a, Ne.symm n5g, Ne.symm n5s, Ne.symm n5a, show List.range 3 = [0, 1, 2] from rfl]
  refine AW_runA ?_
  simp [nag, nsg, Ne.symm nag, Ne.symm nsg, hgsa, Ne.symm hgsa, n5g, n5s, n5a, Ne.symm n5g, Ne.symm n5s, Ne.symm n5a]
  intro g6 hg6 n6s n65 n6g _ n6a hb6
  refine l01Pick_cp bs i6 h6 g g6 [1, 1, 1, 3] (by simp) hc6 (by simp [n6g, Ne.symm n6g, nag, nsg, Ne.symm nag, Ne.symm nsg, hgsa, Ne.symm hgsa, Ne.symm n5g]) (by simp [iv, show List.range 4 = [0, 1, 2, 3] from rfl]) n6g hg6 fun x7 i7 h7 hx7 hc7 => ?_
  simp [nag, nsg, Ne.symm nag, Ne.symm nsg, hgsa, Ne.symm hgsa, n5g, n5s, n5a, Ne.symm n5g, Ne.symm n5s, Ne.symm n5a, n6s, n65, n6g, n6a, Ne.symm n6s, Ne.symm n65, Ne.symm n6g, Ne.symm n6a]
  intro g7 hg7 n7g n76 n7s n75 _ _ n7a hb7
  simp [nag, nsg, Ne.symm nag, Ne.symm nsg, hgsa, Ne.symm hgsa, n5g, n5s, n5a, Ne.symm n5g, Ne.symm n5s, Ne.symm n5a, n6s, n65, n6g, n6a, Ne.symm n6s, Ne.symm n65, Ne.symm n6g, Ne.symm n6a, n7g, n76, n7s, n75, n7a, Ne.symm n7g, Ne.symm n76, Ne.symm n7s, Ne.symm n75, Ne.symm n7a, show List.range 2 = [0, 1] from rfl]
  have hx7' : x7 = 1 ∨ x7 = 3 := by simpa using hx7
  obtain ⟨b0, hb0⟩ : ∃ b0, b0 = upd bl g none := ⟨_, rfl⟩
  have b0g : b0 g = none := by rw [hb0]; simp
  have b0k : ∀ x, x ≠ g → b0 x = bl x := fun x hx => by rw [hb0, upd_apply, if_neg hx]
  have b0a : b0 ga = none := by rw [b0k _ nag]; exact hga
  have b0s : b0 gs = none := by rw [b0k _ nsg]; exact hgs
  have b05 : b0 g5 = none := by rw [b0k _ n5g]; exact hb5
  have b07 : b0 g7 = none := by rw [b0k _ n7g]; exact hb7
  clear hb0
  refine AW_at [(0, .loc g 3 0 0), (2, .loc ga 2 0 0), (3, .loc gs 2 0 0)] 54 (upd (upd (upd (upd (upd b0 ga (some ⟨2, [[.nils, .nils]]⟩)) g5 (some ⟨4, jv (js3 x1 x2 x3 x4 x5 x6)⟩)) g7 (some ⟨3, mv (ms2 x7)⟩)) gs (some ⟨2, [[.lsl g5 4 0 3, .lsl g7 3 0 2]]⟩)) g (some (cur bs i7 h7))) ⟨rfl, by simp, by
    simp only [jv, mv, js3, ms2, List.map, J.c, Mb.c, nmA, nmB, nmC, nmD]
    intro z b hz
    have := b0k z
    simp only [upd_apply] at hz ⊢
    grind⟩ ?_
  clear hb hga hgs hb5 hb6 hb7
  refine AW_runA ?_
  simp
  refine l01Once_cp bs i7 h7 g 2 (by omega) hc7 (by simp [n5g, n5s, n5a, Ne.symm n5g, Ne.symm n5s, Ne.symm n5a, n7g, n7s, n75, n7a, Ne.symm n7g, Ne.symm n7s, Ne.symm n75, Ne.symm n7a, nag, nsg, Ne.symm nag, Ne.symm nsg, hgsa, Ne.symm hgsa]) fun x8 i8 h8 hc8 => ?_
  cases x8
  · simp
    refine AW_frzAt 2 3 (.ptr (Str.mk (js3 x1 x2 x3 x4 x5 x6) (ms2 x7)).c) (upd (upd b0 ga (some ⟨2, [[.nils, .nils]]⟩)) g (some (cur bs i8 h8))) (by intro z b hz; simp only [upd_apply] at hz ⊢; grind) (by simp [frz, dropB, jv, mv, J.c, Mb.c, js3, ms2, V.cl, Int.not_lt.2 hg5, Int.not_lt.2 hg7, Str.c, b05, b07, b0s, n5g, n5s, n5a, Ne.symm n5g, Ne.symm n5s, Ne.symm n5a, n7g, n7s, n75, n7a, Ne.symm n7g, Ne.symm n7s, Ne.symm n75, Ne.symm n7a, nag, nsg, Ne.symm nag, Ne.symm nsg, hgsa, Ne.symm hgsa]) ?_
    refine AW_run ?_
    simp [Str.c, nag, Ne.symm nag]
    rw [retK_ret]
    refine ⟨[_], by simp [nag]; rfl, ?_⟩
    exact hK ⟨js3 x1 x2 x3 x4 x5 x6, ms2 x7⟩ i8 h8 _ (hang_ok (by omega) (by omega) (by omega) (by omega) (by omega) (by omega) (by omega)) (by simp [js3]) hc8 (by simp [nag, Ne.symm nag]) (fun x y hx hy => by have := b0k x hx; simp only [upd_apply]; grind)
  · simp
    refine AW_mixedBT mixedO (upd (upd (upd b0 ga (some ⟨2, [[.nils, .nils]]⟩)) g7 (some ⟨3, mv (ms2 x7)⟩)) gs (some ⟨2, [[.lsl g5 4 0 3, .lsl g7 3 0 2]]⟩)) (by intro z b hz; simp only [upd_apply] at hz ⊢; grind) [0, 1, 2] 7 9 (by kernel_rfl) ?_
    simp [n5g, n5s, n5a, Ne.symm n5g, Ne.symm n5s, Ne.symm n5a, n7g, n7s, n75, n7a, Ne.symm n7g, Ne.symm n7s, Ne.symm n75, Ne.symm n7a, nag, nsg, Ne.symm nag, Ne.symm nsg, hgsa, Ne.symm hgsa]
    refine DAny_one (i := 3) (by kernel_rfl) rfl rfl ?_
    simp
    refine l01Below_cp bs i8 h8 g 5 (by omega) hc8 (by simp [n5g, n5s, n5a, Ne.symm n5g, Ne.symm n5s, Ne.symm n5a, n7g, n7s, n75, n7a, Ne.symm n7g, Ne.symm n7s, Ne.symm n75, Ne.symm n7a, nag, nsg, Ne.symm nag, Ne.symm nsg, hgsa, Ne.symm hgsa]) fun x9 i9 h9 hx9 hc9 => ?_
    have w9 : IntKind.i64.wrap (x9 - 1) = x9 - 1 := i64_in (by omega) (by omega)
    simp
    refine ⟨by intro z b hz; simp only [upd_apply] at hz ⊢; grind, DAny_one (i := 4) (by kernel_rfl) rfl rfl ?_⟩
    simp [w9]
    refine ⟨by intro z b hz; simp only [upd_apply] at hz ⊢; grind, DAny_one (i := 5) (by kernel_rfl) rfl rfl ?_⟩
    simp
    refine ⟨by intro z b hz; simp only [upd_apply] at hz ⊢; grind, DAny_one (i := 6) (by kernel_rfl) rfl rfl ?_⟩
    simp [n5g, n5s, n5a, Ne.symm n5g, Ne.symm n5s, Ne.symm n5a, n7g, n7s, n75, n7a, Ne.symm n7g, Ne.symm n7s, Ne.symm n75, Ne.symm n7a, nag, nsg, Ne.symm nag, Ne.symm nsg, hgsa, Ne.symm hgsa]
    intro g9 hg9 n9g n9s n97 n95 n9a b09
    try simp [n5g, n5s, n5a, Ne.symm n5g, Ne.symm n5s, Ne.symm n5a, n7g, n7s, n75, n7a, Ne.symm n7g, Ne.symm n7s, Ne.symm n75, Ne.symm n7a, nag, nsg, Ne.symm nag, Ne.symm nsg, hgsa, Ne.symm hgsa, n9g, Ne.symm n9g, n9s, Ne.symm n9s, n97, Ne.symm n97, n95, Ne.symm n95, n9a, Ne.symm n9a]
    refine ⟨by intro z b hz; simp only [upd_apply, rem_apply] at hz ⊢; grind, DAny_one (i := 7) (by kernel_rfl) rfl rfl ?_⟩
    simp [n5g, n5s, n5a, Ne.symm n5g, Ne.symm n5s, Ne.symm n5a, n7g, n7s, n75, n7a, Ne.symm n7g, Ne.symm n7s, Ne.symm n75, Ne.symm n7a, nag, nsg, Ne.symm nag, Ne.symm nsg, hgsa, Ne.symm hgsa, n9g, Ne.symm n9g, n9s, Ne.symm n9s, n97, Ne.symm n97, n95, Ne.symm n95, n9a, Ne.symm n9a, appV, elsV, Int.not_lt.2 hg5, Int.not_lt.2 hg9, js3]
    intro g0 hg0 hh
    obtain ⟨n0g, n0s, n07, n0a, b00⟩ : ¬ g0 = g ∧ ¬ g0 = gs ∧ ¬ g0 = g7 ∧ ¬ g0 = ga ∧ b0 g0 = none := by
      by_cases e : g0 = g5
      · rw [e]; exact ⟨n5g, n5s, Ne.symm n75, n5a, b05⟩
      · obtain ⟨_, q1, q2, q3, _, q4, q5⟩ := hh e; exact ⟨q1, q2, q3, q4, q5⟩
    clear hh
    refine ⟨by intro z b hz; simp only [upd_apply, rem_apply] at hz ⊢; grind, DAny_one (i := 8) (by kernel_rfl) rfl rfl ?_⟩
    simp [n5g, n5s, n5a, Ne.symm n5g, Ne.symm n5s, Ne.symm n5a, n7g, n7s, n75, n7a, Ne.symm n7g, Ne.symm n7s, Ne.symm n75, Ne.symm n7a, nag, nsg, Ne.symm nag, Ne.symm nsg, hgsa, Ne.symm hgsa, n9g, Ne.symm n9g, n9s, Ne.symm n9s, n97, Ne.symm n97, n95, Ne.symm n95, n9a, Ne.symm n9a, n0g, Ne.symm n0g, n0s, Ne.symm n0s, n07, Ne.symm n07, n0a, Ne.symm n0a]
    refine ⟨by intro z b hz; simp only [upd_apply, rem_apply] at hz ⊢; grind, DAny_last (i := 9) (by kernel_rfl) rfl rfl rfl ?_⟩
    simp [n5g, n5s, n5a, Ne.symm n5g, Ne.symm n5s, Ne.symm n5a, n7g, n7s, n75, n7a, Ne.symm n7g, Ne.symm n7s, Ne.symm n75, Ne.symm n7a, nag, nsg, Ne.symm nag, Ne.symm nsg, hgsa, Ne.symm hgsa, n9g, Ne.symm n9g, n9s, Ne.symm n9s, n97, Ne.symm n97, n95, Ne.symm n95, n9a, Ne.symm n9a, n0g, Ne.symm n0g, n0s, Ne.symm n0s, n07, Ne.symm n07, n0a, Ne.symm n0a]
    refine DAny_done (by kernel_rfl) ?_
    try simp
    refine AW_at [(0, .loc g 3 0 0), (2, .loc ga 2 0 0), (3, .loc gs 2 0 0)] 54 (upd (upd (upd (upd (upd b0 ga (some ⟨2, [[.nils, .nils]]⟩)) g0 (some ⟨4, jv (js4 x1 x2 x3 x4 x5 x6 x9)⟩)) g7 (some ⟨3, mv (ms2 x7)⟩)) gs (some ⟨2, [[.lsl g0 4 0 4, .lsl g7 3 0 2]]⟩)) g (some (cur bs i9 h9))) ⟨rfl, by simp, by
      simp only [jv, mv, js4, js3, ms2, List.map, J.c, Mb.c, nmA, nmB, nmC, nmD, List.cons_append, List.nil_append]
      intro z b hz
      simp only [upd_apply, rem_apply] at hz ⊢
      grind⟩ ?_
    refine AW_mixedBT mixedO (upd (upd (upd b0 ga (some ⟨2, [[.nils, .nils]]⟩)) g0 (some ⟨4, jv (js4 x1 x2 x3 x4 x5 x6 x9)⟩)) gs (some ⟨2, [[.lsl g0 4 0 4, .lsl g7 3 0 2]]⟩)) (by intro z b hz; simp only [upd_apply, rem_apply] at hz ⊢; grind) [0, 1, 2] 7 9 (by kernel_rfl) ?_
    simp [n7g, n7s, n7a, Ne.symm n7g, Ne.symm n7s, Ne.symm n7a, nag, nsg, Ne.symm nag, Ne.symm nsg, hgsa, Ne.symm hgsa, n0g, Ne.symm n0g, n0s, Ne.symm n0s, n07, Ne.symm n07, n0a, Ne.symm n0a]
    refine DAny_one (i := 3) (by kernel_rfl) rfl rfl ?_
    simp [n7g, n7s, n7a, Ne.symm n7g, Ne.symm n7s, Ne.symm n7a, nag, nsg, Ne.symm nag, Ne.symm nsg, hgsa, Ne.symm hgsa, n0g, Ne.symm n0g, n0s, Ne.symm n0s, n07, Ne.symm n07, n0a, Ne.symm n0a, show List.range 3 = [0, 1, 2] from rfl]
    intro gb hgb nbg nbs nb7 nb0 nba b0b
    refine ⟨by intro z b hz; simp only [upd_apply, rem_apply] at hz ⊢; grind, DAny_one (i := 4) (by kernel_rfl) rfl rfl ?_⟩
    simp [n7g, n7s, n7a, Ne.symm n7g, Ne.symm n7s, Ne.symm n7a, nag, nsg, Ne.symm nag, Ne.symm nsg, hgsa, Ne.symm hgsa, n0g, Ne.symm n0g, n0s, Ne.symm n0s, n07, Ne.symm n07, n0a, Ne.symm n0a, nbg, Ne.symm nbg, nbs, Ne.symm nbs, nb7, Ne.symm nb7, nb0, Ne.symm nb0, nba, Ne.symm nba]
    refine l01Pick_cp bs i9 h9 g gb [1, 2, 3] (by simp) hc9 (by simp [n7g, n7s, n7a, Ne.symm n7g, Ne.symm n7s, Ne.symm n7a, nag, nsg, Ne.symm nag, Ne.symm nsg, hgsa, Ne.symm hgsa, n0g, Ne.symm n0g, n0s, Ne.symm n0s, n07, Ne.symm n07, n0a, Ne.symm n0a, nbg, Ne.symm nbg, nbs, Ne.symm nbs, nb7, Ne.symm nb7, nb0, Ne.symm nb0, nba, Ne.symm nba]) (by simp [iv]) nbg hgb fun xb ib hb hxb hcb => ?_
    have hxb' : xb = 1 ∨ xb = 2 ∨ xb = 3 := by simpa using hxb
    simp
    refine ⟨by intro z b hz; simp only [upd_apply, rem_apply] at hz ⊢; grind, DAny_one (i := 5) (by kernel_rfl) rfl rfl ?_⟩
    simp
    refine ⟨by intro z b hz; simp only [upd_apply, rem_apply] at hz ⊢; grind, DAny_one (i := 6) (by kernel_rfl) rfl rfl ?_⟩
    simp [n7g, n7s, n7a, Ne.symm n7g, Ne.symm n7s, Ne.symm n7a, nag, nsg, Ne.symm nag, Ne.symm nsg, hgsa, Ne.symm hgsa, n0g, Ne.symm n0g, n0s, Ne.symm n0s, n07, Ne.symm n07, n0a, Ne.symm n0a, nbg, Ne.symm nbg, nbs, Ne.symm nbs, nb7, Ne.symm nb7, nb0, Ne.symm nb0, nba, Ne.symm nba]
    intro gc hgc _ ncb ncg ncs nc7 nc0 nca b0c
    try simp [n7g, n7s, n7a, Ne.symm n7g, Ne.symm n7s, Ne.symm n7a, nag, nsg, Ne.symm nag, Ne.symm nsg, hgsa, Ne.symm hgsa, n0g, Ne.symm n0g, n0s, Ne.symm n0s, n07, Ne.symm n07, n0a, Ne.symm n0a, nbg, Ne.symm nbg, nbs, Ne.symm nbs, nb7, Ne.symm nb7, nb0, Ne.symm nb0, nba, Ne.symm nba, ncb, Ne.symm ncb, ncg, Ne.symm ncg, ncs, Ne.symm ncs, nc7, Ne.symm nc7, nc0, Ne.symm nc0, nca, Ne.symm nca]
    refine ⟨by intro z b hz; simp only [upd_apply, rem_apply] at hz ⊢; grind, DAny_one (i := 7) (by kernel_rfl) rfl rfl ?_⟩
    simp [n7g, n7s, n7a, Ne.symm n7g, Ne.symm n7s, Ne.symm n7a, nag, nsg, Ne.symm nag, Ne.symm nsg, hgsa, Ne.symm hgsa, n0g, Ne.symm n0g, n0s, Ne.symm n0s, n07, Ne.symm n07, n0a, Ne.symm n0a, nbg, Ne.symm nbg, nbs, Ne.symm nbs, nb7, Ne.symm nb7, nb0, Ne.symm nb0, nba, Ne.symm nba, ncb, Ne.symm ncb, ncg, Ne.symm ncg, ncs, Ne.symm ncs, nc7, Ne.symm nc7, nc0, Ne.symm nc0, nca, Ne.symm nca, appV, elsV, Int.not_lt.2 hg7, Int.not_lt.2 hgc, ms2]
    intro gd hgd hh
    obtain ⟨ndg, nds, nd0, nda, b0d⟩ : ¬ gd = g ∧ ¬ gd = gs ∧ ¬ gd = g0 ∧ ¬ gd = ga ∧ b0 gd = none := by
      by_cases e : gd = g7
      · rw [e]; exact ⟨n7g, n7s, Ne.symm n07, n7a, b07⟩
      · have := hh e; grind
    clear hh
    refine ⟨by intro z b hz; simp only [upd_apply, rem_apply] at hz ⊢; grind, DAny_one (i := 8) (by kernel_rfl) rfl rfl ?_⟩
    simp [n7g, n7s, n7a, Ne.symm n7g, Ne.symm n7s, Ne.symm n7a, nag, nsg, Ne.symm nag, Ne.symm nsg, hgsa, Ne.symm hgsa, n0g, Ne.symm n0g, n0s, Ne.symm n0s, n07, Ne.symm n07, n0a, Ne.symm n0a, nbg, Ne.symm nbg, nbs, Ne.symm nbs, nb7, Ne.symm nb7, nb0, Ne.symm nb0, nba, Ne.symm nba, ncb, Ne.symm ncb, ncg, Ne.symm ncg, ncs, Ne.symm ncs, nc7, Ne.symm nc7, nc0, Ne.symm nc0, nca, Ne.symm nca, ndg, Ne.symm ndg, nds, Ne.symm nds, nd0, Ne.symm nd0, nda, Ne.symm nda]
    refine ⟨by intro z b hz; simp only [upd_apply, rem_apply] at hz ⊢; grind, DAny_last (i := 9) (by kernel_rfl) rfl rfl rfl ?_⟩
    simp [n7g, n7s, n7a, Ne.symm n7g, Ne.symm n7s, Ne.symm n7a, nag, nsg, Ne.symm nag, Ne.symm nsg, hgsa, Ne.symm hgsa, n0g, Ne.symm n0g, n0s, Ne.symm n0s, n07, Ne.symm n07, n0a, Ne.symm n0a, nbg, Ne.symm nbg, nbs, Ne.symm nbs, nb7, Ne.symm nb7, nb0, Ne.symm nb0, nba, Ne.symm nba, ncb, Ne.symm ncb, ncg, Ne.symm ncg, ncs, Ne.symm ncs, nc7, Ne.symm nc7, nc0, Ne.symm nc0, nca, Ne.symm nca, ndg, Ne.symm ndg, nds, Ne.symm nds, nd0, Ne.symm nd0, nda, Ne.symm nda]
    refine DAny_done (by kernel_rfl) ?_
    try simp
    refine AW_at [(0, .loc g 3 0 0), (2, .loc ga 2 0 0), (3, .loc gs 2 0 0)] 54 (upd (upd (upd (upd (upd b0 ga (some ⟨2, [[.nils, .nils]]⟩)) g0 (some ⟨4, jv (js4 x1 x2 x3 x4 x5 x6 x9)⟩)) gd (some ⟨3, mv (ms3 x7 xb)⟩)) gs (some ⟨2, [[.lsl g0 4 0 4, .lsl gd 3 0 3]]⟩)) g (some (cur bs ib hb))) ⟨rfl, by simp, by
      simp only [jv, mv, js4, js3, ms3, ms2, List.map, J.c, Mb.c, nmA, nmB, nmC, nmD, List.cons_append, List.nil_append]
      intro z b hz
      simp only [upd_apply, rem_apply] at hz ⊢
      grind⟩ ?_
    refine AW_frzAt 2 3 (.ptr (Str.mk (js4 x1 x2 x3 x4 x5 x6 x9) (ms3 x7 xb)).c) (upd (upd b0 ga (some ⟨2, [[.nils, .nils]]⟩)) g (some (cur bs ib hb))) (by intro z b hz; simp only [upd_apply, rem_apply] at hz ⊢; grind) (by simp [frz, dropB, jv, mv, J.c, Mb.c, js4, js3, ms3, ms2, V.cl, Int.not_lt.2 hg0, Int.not_lt.2 hgd, Str.c, b00, b0d, b0s, n7g, n7s, n7a, Ne.symm n7g, Ne.symm n7s, Ne.symm n7a, nag, nsg, Ne.symm nag, Ne.symm nsg, hgsa, Ne.symm hgsa, n0g, Ne.symm n0g, n0s, Ne.symm n0s, n07, Ne.symm n07, n0a, Ne.symm n0a, ndg, Ne.symm ndg, nds, Ne.symm nds, nd0, Ne.symm nd0, nda, Ne.symm nda]) ?_
    refine AW_run ?_
    simp [Str.c, nag, Ne.symm nag]
    rw [retK_ret]
    refine ⟨[_], by simp [nag]; rfl, ?_⟩
    have hok := hang_ok4 hx1 hx2 hx3 hx4 hx5 hx6 (x7 := x7) (by rcases hx7' with h | h <;> rw [h] <;> decide) hx9 (x9 := xb) (by rcases hxb' with h | h | h <;> rw [h] <;> decide)
    exact hK ⟨js4 x1 x2 x3 x4 x5 x6 x9, ms3 x7 xb⟩ ib hb _ hok (by simp [js4, js3]) hcb (by simp [nag, Ne.symm nag]) (fun x y hx hy => by have := b0k x hx; simp only [upd_apply]; grind)
end Go.Proofs.Ytmbcofnnibpbeaa.Vm

namespace Go.Proofs.Ytmbcofnnibpbeaa.Vm
open Go Go.Proofs
set_option linter.unusedSimpArgs false
set_option linter.unusedVariables false

/-- Reading operations next. -/
theorem DAny_more {P : Program} {ops : Array Oper} {blK : Int → Option Blk} {tl : Nat → Bool} {K : St → Prop} {l : Array Bool} {σ : St} (is : List Nat) (fuel : Nat) (hs : Sub blK σ.bl) (hn : (is.all (fun i => decide (i < ops.size)) && hoistB ops is l && tailB ops tl is) = true)
    (h : HoistF P (ops.toList.map (·.dst)) blK (is.filterMap fun i => ops[i]?) (DAny P ops blK tl K fuel (setAll is l)) σ) : DAny P ops blK tl K (fuel + is.length) l σ := by
  simp only [Bool.and_eq_true] at hn
  exact DAny_hoist fuel is l σ (tailB_spec hn.2) hn.1.2 hs (Hoist_is _ is σ (filter_some is hn.1.1) h)

def tj (x1 x2 x3 x4 x5 x6 : Int) : List J := [⟨nmA, -2, x1, true⟩, ⟨nmB, 6, x2, true⟩, ⟨nmC, x3, -1 - x4, false⟩, ⟨nmD, 3 + x5, -1 - x6, false⟩]
structure TD where
  n : Nat
  ms : List Mb
  g : Int
  i : Int
  h : Int
def mGood (m : Mb) : Prop := (m.a = 0 ∨ m.a = 1 ∨ m.a = 2 ∨ m.a = 3) ∧ (m.b = 1 ∨ m.b = 2 ∨ m.b = 3) ∧ (1 ≤ m.kind ∧ m.kind ≤ 3) ∧ ((m.a ≤ 1 ∧ 2 ≤ m.b) ∨ (m.a = 2 ∧ m.b = 3) ∨ (m.a = 3 ∧ m.b = 1))
theorem two_ok {x1 x2 x3 x4 x5 x6 : Int} {ms : List Mb} (h1 : 0 ≤ x1 ∧ x1 < 3) (h2 : 0 ≤ x2 ∧ x2 < 3) (h3 : 0 ≤ x3 ∧ x3 < 2) (h4 : 0 ≤ x4 ∧ x4 < 3) (h5 : 0 ≤ x5 ∧ x5 < 2) (h6 : 0 ≤ x6 ∧ x6 < 3) (hl : ms.length ≤ 5) (hm : ∀ m, m ∈ ms → mGood m) : sOk ⟨tj x1 x2 x3 x4 x5 x6, ms⟩ = true := by
  obtain ⟨na, nb, nc, nd⟩ := nms
  refine sOk_mk (by simp [tj]) (by omega) (fun j hj => ?_) (by show ([nmA, nmB, nmC, nmD] : List ByteArray).Nodup; decide) (fun m hmm => ?_)
  · simp only [tj, List.mem_cons, List.not_mem_nil, or_false] at hj
    rcases hj with rfl | rfl | rfl | rfl <;> simp [J.ok, na, nb, nc, nd] <;> omega
  · obtain ⟨q1, q2, q3, q4⟩ := hm m hmm
    obtain ⟨ma, mb, mk⟩ := m
    simp only at q1 q2 q3 q4
    rcases q1 with rfl | rfl | rfl | rfl <;> rcases q2 with rfl | rfl | rfl <;> simp [mOk, tj, jat] at q4 ⊢ <;> omega
theorem frz_box2 {bl : Int → Option Blk} {gs g1 g2 : Int} {js : List J} {ms : List Mb} (h0 : 0 ≤ g1) (h0' : 0 ≤ g2) (hs : bl gs = some ⟨2, [[.lsl g1 4 0 js.length, .lsl g2 3 0 ms.length]]⟩) (h1 : bl g1 = some ⟨4, jv js⟩) (h2 : bl g2 = some ⟨3, mv ms⟩) : frz bl 2 (.loc gs 2 0 0) = some (.ptr (Str.mk js ms).c) := by
  have e1 := frz_slice (bl := bl) (bl0 := fun _ => none) (n := js.length) h0 rfl h1 (by simp) (jv_cl js)
  have e2 := frz_slice (bl := bl) (bl0 := fun _ => none) (n := ms.length) h0' rfl h2 (by simp) (mv_cl ms)
  change frz bl 1 _ = _ at e1
  change frz bl 1 _ = _ at e2
  rw [frz_loc0 hs]
  simp [e1, e2, Str.c]
theorem l12Two_cp {bl : Int → Option Blk} {K : V → (Int → Option Blk) → Prop} (bs : List Int) (i h g : Int) (hc : CurOk bs i) (hb : bl g = some (cur bs i h)) (hK : StrK bl K bs g) :
    CallP Try.prog 32 [.loc g 3 0 0] bl K := by
  refine callP_of Try.func32 rfl rfl (by rw [Try.ntmps32]; simp) ?_
  rw [Try.ntmps32, Try.results32]
  refine AW_runA ?_
  simp
  intro ga hga0 hga
  have nag : ga ≠ g := fun e => by rw [e, hb] at hga; cases hga
  refine AW_runA ?_
  simp
  intro gs hgs0 hgsa hgs
  have nsg : gs ≠ g := fun e => by rw [e, hb] at hgs; cases hgs
  refine AW_runA ?_
  simp
  refine l01Below_cp bs i h g 3 (by omega) hc (by simp [nag, nsg, Ne.symm nag, Ne.symm nsg, hgsa, Ne.symm hgsa, hb]) fun x1 i1 h1 hx1 hc1 => ?_
  simp [nag, nsg, Ne.symm nag, Ne.symm nsg, hgsa, Ne.symm hgsa]
  refine l01Below_cp bs i1 h1 g 3 (by omega) hc1 (by simp [nag, nsg, Ne.symm nag, Ne.symm nsg, hgsa, Ne.symm hgsa, hb]) fun x2 i2 h2 hx2 hc2 => ?_
  simp [nag, nsg, Ne.symm nag, Ne.symm nsg, hgsa, Ne.symm hgsa]
  refine l01Below_cp bs i2 h2 g 2 (by omega) hc2 (by simp [nag, nsg, Ne.symm nag, Ne.symm nsg, hgsa, Ne.symm hgsa, hb]) fun x3 i3 h3 hx3 hc3 => ?_
  simp [nag, nsg, Ne.symm nag, Ne.symm nsg, hgsa, Ne.symm hgsa]
  refine l01Below_cp bs i3 h3 g 3 (by omega) hc3 (by simp [nag, nsg, Ne.symm nag, Ne.symm nsg, hgsa, Ne.symm hgsa, hb]) fun x4 i4 h4 hx4 hc4 => ?_
  have w4 : IntKind.i64.wrap (-1 - x4) = -1 - x4 := i64_in (by omega) (by omega)
  simp [nag, nsg, Ne.symm nag, Ne.symm nsg, hgsa, Ne.symm hgsa, w4]
  refine l01Below_cp bs i4 h4 g 2 (by omega) hc4 (by simp [nag, nsg, Ne.symm nag, Ne.symm nsg, hgsa, Ne.symm hgsa, hb]) fun x5 i5 h5 hx5 hc5 => ?_
  have w5 : IntKind.i64.wrap (3 + x5) = 3 + x5 := i64_in (by omega) (by omega)
  simp [nag, nsg, Ne.symm nag, Ne.symm nsg, hgsa, Ne.symm hgsa, w5]
  refine l01Below_cp bs i5 h5 g 3 (by omega) hc5 (by simp [nag, nsg, Ne.symm nag, Ne.symm nsg, hgsa, Ne.symm hgsa, hb]) fun x6 i6 h6 hx6 hc6 => ?_
  have w6 : IntKind.i64.wrap (-1 - x6) = -1 - x6 := i64_in (by omega) (by omega)
  simp [nag, nsg, Ne.symm nag, Ne.symm nsg, hgsa, Ne.symm hgsa, w6]
  intro g5 hg5 n5g n5s n5a hb5
  simp [nag, nsg, Ne.symm nag, Ne.symm nsg, hgsa, Ne.symm hgsa, n5g, Ne.symm n5g, n5s, Ne.symm n5s, n5a, Ne.symm n5a, show List.range 4 = [0, 1, 2, 3] from rfl]
  refine AW_runA ?_
  simp [nag, nsg, Ne.symm nag, Ne.symm nsg, hgsa, Ne.symm hgsa, n5g, Ne.symm n5g, n5s, Ne.symm n5s, n5a, Ne.symm n5a]
  intro g6 hg6 n6s n65 n6g _ n6a hb6
  refine l01Pick_cp bs i6 h6 g g6 [1, 2, 3] (by simp) hc6 (by simp [nag, nsg, Ne.symm nag, Ne.symm nsg, hgsa, Ne.symm hgsa, n5g, Ne.symm n5g, n5s, Ne.symm n5s, n5a, Ne.symm n5a, n6g, Ne.symm n6g]) (by simp [iv, show List.range 3 = [0, 1, 2] from rfl]) n6g hg6 fun x7 i7 h7 hx7 hc7 => ?_
  simp [nag, nsg, Ne.symm nag, Ne.symm nsg, hgsa, Ne.symm hgsa, n5g, Ne.symm n5g, n5s, Ne.symm n5s, n5a, Ne.symm n5a, n6s, Ne.symm n6s, n65, Ne.symm n65, n6g, Ne.symm n6g, n6a, Ne.symm n6a]
  intro g7 hg7 n7g n76 n7s n75 _ _ n7a hb7
  simp [nag, nsg, Ne.symm nag, Ne.symm nsg, hgsa, Ne.symm hgsa, n5g, Ne.symm n5g, n5s, Ne.symm n5s, n5a, Ne.symm n5a, n6s, Ne.symm n6s, n65, Ne.symm n65, n6g, Ne.symm n6g, n6a, Ne.symm n6a, n7g, Ne.symm n7g, n76, Ne.symm n76, n7s, Ne.symm n7s, n75, Ne.symm n75, n7a, Ne.symm n7a, show List.range 3 = [0, 1, 2] from rfl]
  have hx7' : x7 = 1 ∨ x7 = 2 ∨ x7 = 3 := by simpa using hx7
  obtain ⟨b0, hb0⟩ : ∃ b0, b0 = upd bl g none := ⟨_, rfl⟩
  have b0g : b0 g = none := by rw [hb0]; simp
  have b0k : ∀ x, x ≠ g → b0 x = bl x := fun x hx => by rw [hb0, upd_apply, if_neg hx]
  have b0a : b0 ga = none := by rw [b0k _ nag]; exact hga
  have b0s : b0 gs = none := by rw [b0k _ nsg]; exact hgs
  have b05 : b0 g5 = none := by rw [b0k _ n5g]; exact hb5
  have b07 : b0 g7 = none := by rw [b0k _ n7g]; exact hb7
  clear hb0
  refine AW_at [(0, .loc g 3 0 0), (2, .loc ga 2 0 0), (3, .loc gs 2 0 0)] 56 (upd (upd (upd (upd (upd b0 ga (some ⟨2, [[.nils, .nils]]⟩)) g5 (some ⟨4, jv (tj x1 x2 x3 x4 x5 x6)⟩)) g7 (some ⟨3, mv [⟨0, 2, 1⟩, ⟨2, 3, x7⟩, ⟨3, 1, 1⟩]⟩)) gs (some ⟨2, [[.lsl g5 4 0 4, .lsl g7 3 0 3]]⟩)) g (some (cur bs i7 h7))) ⟨rfl, by simp, by
    simp only [jv, mv, tj, List.map, J.c, Mb.c, nmA, nmB, nmC, nmD]
    intro z b hz
    have := b0k z
    simp only [upd_apply] at hz ⊢
    grind⟩ ?_
  clear hb hga hgs hb5 hb6 hb7
  refine AW_runA ?_
  simp
  refine l01Below_cp bs i7 h7 g 3 (by omega) hc7 (by simp [nag, nsg, Ne.symm nag, Ne.symm nsg, hgsa, Ne.symm hgsa, n5g, Ne.symm n5g, n5s, Ne.symm n5s, n5a, Ne.symm n5a, n7g, n7s, n7a, Ne.symm n7g, Ne.symm n7s, Ne.symm n7a]) fun x8 i8 h8 hx8 hc8 => ?_
  simp
  refine AW_for (fun p : TD => [(0, .loc g 3 0 0), (2, .loc ga 2 0 0), (3, .loc gs 2 0 0), (4, .int .i64 p.n)]) (fun p => upd (upd (upd (upd (upd b0 ga (some ⟨2, [[.nils, .nils]]⟩)) g5 (some ⟨4, jv (tj x1 x2 x3 x4 x5 x6)⟩)) p.g (some ⟨3, mv p.ms⟩)) gs (some ⟨2, [[.lsl g5 4 0 4, .lsl p.g 3 0 p.ms.length]]⟩)) g (some (cur bs p.i p.h)))
    (fun p => (p.n ≤ 2 ∧ p.ms.length + p.n ≤ 5) ∧ (∀ m, m ∈ p.ms → mGood m) ∧ CurOk bs p.i ∧ (0 ≤ p.g ∧ ¬ p.g = g ∧ ¬ p.g = gs ∧ ¬ p.g = g5 ∧ ¬ p.g = ga ∧ b0 p.g = none)) (fun p => p.n) 56 ⟨x8.toNat, [⟨0, 2, 1⟩, ⟨2, 3, x7⟩, ⟨3, 1, 1⟩], g7, i8, h8⟩
    ⟨⟨by simp only; omega, by simp; omega⟩, fun m hm => ?_, hc8, hg7, n7g, n7s, n75, n7a, b07⟩ ⟨rfl, by simp; omega, by intro z b hz; simp only [upd_apply] at hz ⊢; grind⟩ ?_
  · simp only [List.mem_cons, List.not_mem_nil, or_false] at hm
    rcases hm with rfl | rfl | rfl
    · unfold mGood; simp
    · unfold mGood; simp; omega
    · unfold mGood; simp
  rintro ⟨n, ms, gm, ic, hcu⟩ ⟨⟨hn, hml⟩, hms, hcc, hgm, nmg, nms', nm5, nma, b0m⟩
  simp only at hn hml hms hcc hgm nmg nms' nm5 nma b0m
  refine AW_run ?_
  simp
  refine ⟨fun hp => ?_, fun hp => ?_⟩
  · refine AW_mixedBT mixedO (upd (upd (upd b0 ga (some ⟨2, [[.nils, .nils]]⟩)) g5 (some ⟨4, jv (tj x1 x2 x3 x4 x5 x6)⟩)) gs (some ⟨2, [[.lsl g5 4 0 4, .lsl gm 3 0 ms.length]]⟩)) (by intro z b hz; simp only [upd_apply, rem_apply] at hz ⊢; grind) [0, 1, 2, 4, 7] 10 14 (by kernel_rfl) ?_
    simp [nag, nsg, Ne.symm nag, Ne.symm nsg, hgsa, Ne.symm hgsa, n5g, Ne.symm n5g, n5s, Ne.symm n5s, n5a, Ne.symm n5a, nmg, Ne.symm nmg, nms', Ne.symm nms', nm5, Ne.symm nm5, nma, Ne.symm nma]
    refine DAny_one (i := 3) (by kernel_rfl) rfl rfl ?_
    simp
    refine l01Below_cp bs ic hcu g 2 (by omega) hcc (by simp [nag, nsg, Ne.symm nag, Ne.symm nsg, hgsa, Ne.symm hgsa, n5g, Ne.symm n5g, n5s, Ne.symm n5s, n5a, Ne.symm n5a, nmg, Ne.symm nmg, nms', Ne.symm nms', nm5, Ne.symm nm5, nma, Ne.symm nma]) fun y1 j1 k1 hy1 hd1 => ?_
    simp
    refine ⟨by intro z b hz; simp only [upd_apply, rem_apply] at hz ⊢; grind, DAny_one (i := 5) (by kernel_rfl) rfl rfl ?_⟩
    simp
    refine l01Below_cp bs j1 k1 g 2 (by omega) hd1 (by simp) fun y2 j2 k2 hy2 hd2 => ?_
    have wy2 : IntKind.i64.wrap (2 + y2) = 2 + y2 := i64_in (by omega) (by omega)
    simp
    refine ⟨by intro z b hz; simp only [upd_apply, rem_apply] at hz ⊢; grind, DAny_more (fuel := 7) [6] (by intro z b hz; simp only [upd_apply, rem_apply] at hz ⊢; grind) (by kernel_rfl) ?_⟩
    simp [wy2]
    refine DAny_one (i := 8) (by kernel_rfl) rfl rfl ?_
    simp
    refine l01Below_cp bs j2 k2 g 3 (by omega) hd2 (by simp) fun y3 j3 k3 hy3 hd3 => ?_
    have wy3 : IntKind.i64.wrap (1 + y3) = 1 + y3 := i64_in (by omega) (by omega)
    simp
    refine ⟨by intro z b hz; simp only [upd_apply, rem_apply] at hz ⊢; grind, DAny_one (i := 9) (by kernel_rfl) rfl rfl ?_⟩
    simp [wy3]
    refine ⟨by intro z b hz; simp only [upd_apply, rem_apply] at hz ⊢; grind, DAny_one (i := 10) (by kernel_rfl) rfl rfl ?_⟩
    simp
    refine ⟨by intro z b hz; simp only [upd_apply, rem_apply] at hz ⊢; grind, DAny_one (i := 11) (by kernel_rfl) rfl rfl ?_⟩
    simp
    intro gc hgc ncg ncs ncm nc5 nca b0c
    refine ⟨by intro z b hz; simp only [upd_apply, rem_apply] at hz ⊢; grind, DAny_one (i := 12) (by kernel_rfl) rfl rfl ?_⟩
    simp [nag, nsg, Ne.symm nag, Ne.symm nsg, hgsa, Ne.symm hgsa, n5g, Ne.symm n5g, n5s, Ne.symm n5s, n5a, Ne.symm n5a, nmg, Ne.symm nmg, nms', Ne.symm nms', nm5, Ne.symm nm5, nma, Ne.symm nma, ncg, Ne.symm ncg, ncs, Ne.symm ncs, ncm, Ne.symm ncm, nc5, Ne.symm nc5, nca, Ne.symm nca, appV, elsV, Int.not_lt.2 hgm, Int.not_lt.2 hgc]
    refine ⟨by omega, fun gd hgd hh => ?_⟩
    obtain ⟨ndg, nds, nd5, nda, b0d⟩ : ¬ gd = g ∧ ¬ gd = gs ∧ ¬ gd = g5 ∧ ¬ gd = ga ∧ b0 gd = none := by
      by_cases e : gd = gm
      · rw [e]; exact ⟨nmg, nms', nm5, nma, b0m⟩
      · have := hh e; grind
    clear hh
    refine ⟨by intro z b hz; simp only [upd_apply, rem_apply] at hz ⊢; grind, DAny_one (i := 13) (by kernel_rfl) rfl rfl ?_⟩
    simp [nag, nsg, Ne.symm nag, Ne.symm nsg, hgsa, Ne.symm hgsa, n5g, Ne.symm n5g, n5s, Ne.symm n5s, n5a, Ne.symm n5a, nmg, Ne.symm nmg, nms', Ne.symm nms', nm5, Ne.symm nm5, nma, Ne.symm nma, ncg, Ne.symm ncg, ncs, Ne.symm ncs, ncm, Ne.symm ncm, nc5, Ne.symm nc5, nca, Ne.symm nca, ndg, Ne.symm ndg, nds, Ne.symm nds, nd5, Ne.symm nd5, nda, Ne.symm nda]
    refine ⟨by intro z b hz; simp only [upd_apply, rem_apply] at hz ⊢; grind, DAny_last (i := 14) (by kernel_rfl) rfl rfl rfl ?_⟩
    simp [nag, nsg, Ne.symm nag, Ne.symm nsg, hgsa, Ne.symm hgsa, n5g, Ne.symm n5g, n5s, Ne.symm n5s, n5a, Ne.symm n5a, nmg, Ne.symm nmg, nms', Ne.symm nms', nm5, Ne.symm nm5, nma, Ne.symm nma, ncg, Ne.symm ncg, ncs, Ne.symm ncs, ncm, Ne.symm ncm, nc5, Ne.symm nc5, nca, Ne.symm nca, ndg, Ne.symm ndg, nds, Ne.symm nds, nd5, Ne.symm nd5, nda, Ne.symm nda]
    refine DAny_done (by kernel_rfl) ?_
    have wn : IntKind.i64.wrap ((n : Int) - 1) = ((n - 1 : Nat) : Int) := by rw [i64_in (by omega) (by omega)]; omega
    simp [wn, loopQ_normal]
    have emv : List.take ms.length (mv ms) ++ [[V.int IntKind.i64 y1, V.int IntKind.i64 (2 + y2), V.int IntKind.i64 (1 + y3)]] = mv (ms ++ [⟨y1, 2 + y2, 1 + y3⟩]) := by
      rw [← mv_length ms, List.take_length]; simp [mv, Mb.c]
    refine ⟨⟨n - 1, ms ++ [⟨y1, 2 + y2, 1 + y3⟩], gd, j3, k3⟩, ⟨⟨by simp only; omega, by simp; omega⟩, fun m hm => ?_, hd3, hgd, ndg, nds, nd5, nda, b0d⟩, by simp only; omega, rfl, by simp, ?_⟩
    · rcases List.mem_append.1 hm with hm | hm
      · exact hms m hm
      · obtain rfl : m = _ := by simpa using hm
        unfold mGood; simp only; omega
    · rw [emv]
      intro z b hz
      simp only [upd_apply, rem_apply, List.length_append, List.length_singleton] at hz ⊢
      grind
  · refine AW_frzAt 2 3 (.ptr (Str.mk (tj x1 x2 x3 x4 x5 x6) ms).c) (upd (upd b0 ga (some ⟨2, [[.nils, .nils]]⟩)) g (some (cur bs ic hcu))) (by intro z b hz; simp only [upd_apply, rem_apply] at hz ⊢; grind) (frz_box2 (g1 := g5) (g2 := gm) hg5 hgm (by simp [dropB, tj, b0s, nag, nsg, Ne.symm nag, Ne.symm nsg, hgsa, Ne.symm hgsa, n5g, Ne.symm n5g, n5s, Ne.symm n5s, n5a, Ne.symm n5a, nmg, Ne.symm nmg, nms', Ne.symm nms', nm5, Ne.symm nm5, nma, Ne.symm nma]) (by simp [dropB, b05, nag, nsg, Ne.symm nag, Ne.symm nsg, hgsa, Ne.symm hgsa, n5g, Ne.symm n5g, n5s, Ne.symm n5s, n5a, Ne.symm n5a, nmg, Ne.symm nmg, nms', Ne.symm nms', nm5, Ne.symm nm5, nma, Ne.symm nma]) (by simp [dropB, b0m, nag, nsg, Ne.symm nag, Ne.symm nsg, hgsa, Ne.symm hgsa, n5g, Ne.symm n5g, n5s, Ne.symm n5s, n5a, Ne.symm n5a, nmg, Ne.symm nmg, nms', Ne.symm nms', nm5, Ne.symm nm5, nma, Ne.symm nma])) ?_
    refine AW_run ?_
    simp [Str.c, nag, Ne.symm nag]
    rw [retK_ret]
    refine ⟨[_], by simp [nag]; rfl, ?_⟩
    have hok := two_ok hx1 hx2 hx3 hx4 hx5 hx6 (ms := ms) (by omega) hms
    exact hK ⟨tj x1 x2 x3 x4 x5 x6, ms⟩ ic hcu _ hok (by simp [tj]) hcc (by simp [nag, Ne.symm nag]) (fun x y hx hy => by have := b0k x hx; simp only [upd_apply]; grind)

theorem l12Draw_cp {bl : Int → Option Blk} {K : V → (Int → Option Blk) → Prop} (bs : List Int) (i h g : Int) (hc : CurOk bs i) (hb : bl g = some (cur bs i h)) (hK : StrK bl K bs g) :
    CallP Try.prog 22 [.loc g 3 0 0] bl K := by
  refine callP_of Try.func22 rfl rfl (by rw [Try.ntmps22]; simp) ?_
  rw [Try.ntmps22, Try.results22]
  refine AW_run ?_
  simp
  intro ga hga0 hga
  have nag : ga ≠ g := fun e => by rw [e, hb] at hga; cases hga
  refine l01Once_cp bs i h g 3 (by omega) hc (by simp [nag, Ne.symm nag, hb]) fun x i1 h1 hc1 => ?_
  have hK2 : ∀ (s : Str) (i' h' : Int) bl', sOk s = true → 3 ≤ s.js.length → CurOk bs i' → bl' g = some (cur bs i' h') → (∀ x y, x ≠ g → upd (upd bl ga (some ⟨2, [[.nils, .nils]]⟩)) g (some (cur bs i1 h1)) x = some y → bl' x = some y) → K (.agg s.c) (upd bl' ga (some ⟨2, [s.c]⟩)) := fun s i' h' bl' q1 q2 q3 q4 q5 =>
    hK s i' h' _ q1 q2 q3 (by simp [Ne.symm nag, q4]) (fun x y hx hy => by
      have e1 : x ≠ ga := fun e => by rw [e, hga] at hy; cases hy
      rw [upd_apply, if_neg e1]
      exact q5 x y hx (by rw [upd_apply, if_neg hx, upd_apply, if_neg e1]; exact hy))
  have hga2 : ∀ bl' : Int → Option Blk, (∀ x y, x ≠ g → upd (upd bl ga (some ⟨2, [[.nils, .nils]]⟩)) g (some (cur bs i1 h1)) x = some y → bl' x = some y) → bl' ga = some ⟨2, [[.nils, .nils]]⟩ := fun bl' q => q ga _ nag (by simp [nag])
  cases x
  · simp
    refine l12Hang_cp bs i1 h1 g hc1 (by simp) fun s i' h' bl' q1 q2 q3 q4 q5 => ?_
    have e2 := hga2 bl' q5
    simp [Str.c, e2]
    rw [retK_ret]
    refine ⟨[_], by simp; rfl, ?_⟩
    exact hK2 s i' h' bl' q1 q2 q3 q4 q5
  · simp
    refine l12Two_cp bs i1 h1 g hc1 (by simp) fun s i' h' bl' q1 q2 q3 q4 q5 => ?_
    have e2 := hga2 bl' q5
    simp [Str.c, e2]
    rw [retK_ret]
    refine ⟨[_], by simp; rfl, ?_⟩
    exact hK2 s i' h' bl' q1 q2 q3 q4 q5
end Go.Proofs.Ytmbcofnnibpbeaa.Vm

namespace Go.Proofs.Ytmbcofnnibpbeaa.Vm
open Go Go.Proofs
set_option linter.unusedSimpArgs false
set_option linter.unusedVariables false

theorem fitsL_mk {js : List J} {ns : List Int} (hl : ns.length = 2 * js.length) (h : ∀ x, x ∈ ns → -8 ≤ x ∧ x ≤ 8) : fitsL js ns = true := by
  unfold fitsL
  rw [Bool.and_eq_true]
  refine ⟨by simpa using hl, List.all_eq_true.2 fun x hx => ?_⟩
  have := h x hx
  simp [forceOk]; omega
theorem sOk_nj {s : Str} (h : sOk s = true) : s.js.length ≤ 6 := by
  unfold sOk at h
  simp only [Bool.and_eq_true, decide_eq_true_eq] at h
  exact h.1.1.1
theorem l14Case_cp {bl : Int → Option Blk} {K : V → (Int → Option Blk) → Prop} (bs : List Int) (i h g : Int) (hc : CurOk bs i) (hb : bl g = some (cur bs i h))
    (hK : ∀ (s : Str) (ns : List Int) bl', lOk s ns = true → 3 ≤ s.js.length → (∀ x, x ∈ ns → -8 ≤ x ∧ x ≤ 8) → (∀ x y, x ≠ g → bl x = some y → bl' x = some y) → K (.tup [.agg s.c, .sl (iv ns)]) bl') :
    CallP Try.prog 12 [.loc g 3 0 0] bl K := by
  refine callP_of Try.func12 rfl rfl (by rw [Try.ntmps12]; simp) ?_
  rw [Try.ntmps12, Try.results12]
  refine AW_runA ?_
  simp
  intro ga hga0 hga
  have nag : ga ≠ g := fun e => by rw [e, hb] at hga; cases hga
  refine AW_runA ?_
  simp
  refine l12Draw_cp bs i h g hc (by simp [Ne.symm nag, hb]) fun s i1 h1 b1 q1 q2 q3 q4 q5 => ?_
  have ea : b1 ga = some ⟨2, [[.nils, .nils]]⟩ := q5 ga _ nag (by simp)
  have q6 : ∀ x y, x ≠ g → bl x = some y → b1 x = some y := fun x y hx hy => q5 x y hx (by rw [upd_apply, if_neg (fun e => by rw [e, hga] at hy; cases hy)]; exact hy)
  have hnj := sOk_nj q1
  simp [Str.c]
  intro g4 hg4 hb4
  have n4g : g4 ≠ g := fun e => by rw [e, q4] at hb4; cases hb4
  have n4a : g4 ≠ ga := fun e => by rw [e, ea] at hb4; cases hb4
  have b04 : bl g4 = none := by
    rcases e : bl g4 with _ | y
    · rfl
    · rw [q6 g4 y n4g e] at hb4; cases hb4
  refine AW_runA ?_
  refine AW_mixedB mixedO (upd (upd bl g none) g4 (some ⟨2, [s.c]⟩)) (by
    intro z b hz
    have := q6 z
    simp only [upd_apply, Str.c] at hz ⊢
    grind) [0, 1, 2] 3 (by kernel_rfl) ?_
  simp [Str.c, n4g, n4a, Ne.symm n4g, Ne.symm n4a]
  refine DAny_one (i := 3) (by kernel_rfl) rfl rfl ?_
  simp
  refine l13Draw_cp bs i1 h1 g s ⟨by omega, hnj⟩ q3 (by simp [Ne.symm n4g, q4]) fun g2 ns i2 h2 b2 hg2 hb2 hl hr hc2 hbg hbg2 hk2 => ?_
  have n2g : g2 ≠ g := fun e => by rw [e] at hb2; simp [Ne.symm n4g, q4] at hb2
  have n24 : g2 ≠ g4 := fun e => by rw [e] at hb2; simp at hb2
  have n2a : g2 ≠ ga := fun e => by rw [e] at hb2; simp [Ne.symm n4a, ea] at hb2
  have b12 : b1 g2 = none := by simpa [n24] using hb2
  have b02 : bl g2 = none := by
    rcases e : bl g2 with _ | y
    · rfl
    · rw [q6 g2 y n2g e] at b12; cases b12
  have ea2 : b2 ga = some ⟨2, [[.nils, .nils]]⟩ := hk2 ga _ nag (by simp [Ne.symm n4a, ea])
  have e42 : b2 g4 = some ⟨2, [s.c]⟩ := hk2 g4 _ n4g (by simp [Str.c])
  have hs2 : ∀ x y, x ≠ g → bl x = some y → b2 x = some y := fun x y hx hy => hk2 x y hx (by rw [upd_apply, if_neg (fun e => by rw [e, b04] at hy; cases hy)]; exact q6 x y hx hy)
  have hsub : ∀ X : Option Blk, Sub (upd (upd bl g none) g4 (some ⟨2, [s.c]⟩)) (upd b2 ga X) := fun X z b hz => by
    have := hs2 z
    simp only [upd_apply] at hz ⊢
    grind
  have hsub0 : Sub (upd (upd bl g none) g4 (some ⟨2, [s.c]⟩)) b2 := fun z b hz => by
    have := hs2 z
    simp only [upd_apply] at hz ⊢
    grind
  simp only [Str.c] at hsub hsub0
  simp
  refine ⟨hsub0, DAny_one (i := 4) (by kernel_rfl) rfl rfl ?_⟩
  simp [ea2]
  refine ⟨hsub _, DAny_one (i := 5) (by kernel_rfl) rfl rfl ?_⟩
  simp
  refine ⟨hsub _, DAny_done (by kernel_rfl) ?_⟩
  simp
  refine AW_frzAt 1 3 (.sl (iv ns)) (upd (upd bl g none) ga (some ⟨2, [s.c]⟩)) (fun z b hz => by
    have := hs2 z
    simp only [upd_apply, Str.c] at hz ⊢
    grind) (by
      have e := frz_slice (bl := upd b2 ga (some ⟨2, [s.c]⟩)) (bl0 := upd (upd bl g none) ga (some ⟨2, [s.c]⟩)) (sz := 1) (n := 2 * s.js.length) hg2 (by simp [n2a, n2g, b02]) (els := iv ns) (by simp [n2a, hbg2]) (by simpa using hl) (iv_cl ns)
      simpa [Str.c] using e) ?_
  refine AW_run ?_
  simp
  rw [retK_ret]
  refine ⟨[.agg s.c, .sl (iv ns)], by simp [Str.c], ?_⟩
  refine hK s ns _ (by unfold lOk; rw [q1, fitsL_mk hl hr]; rfl) q2 hr (fun x y hx hy => ?_)
  have e1 : x ≠ ga := fun e => by rw [e, hga] at hy; cases hy
  simp [upd_apply, hx, e1, hy]

theorem MakeCase_cp {bl : Int → Option Blk} {K : V → (Int → Option Blk) → Prop} (bs : List Int) (hn : bs.length ≤ 1048576) (hbs : ∀ x, x ∈ bs → 0 ≤ x ∧ x < 256)
    (hK : ∀ (s : Str) (ns : List Int) bl', lOk s ns = true → 3 ≤ s.js.length → (∀ x, x ∈ ns → -8 ≤ x ∧ x ≤ 8) → Sub bl bl' → K (.tup [.agg s.c, .sl (iv ns)]) bl') :
    CallP Try.prog 4 [.sl (bv bs)] bl K := by
  refine callP_of Try.func4 rfl rfl (by rw [Try.ntmps4]; simp) ?_
  rw [Try.ntmps4, Try.results4]
  refine AW_run ?_
  simp
  intro ga hga0 hga
  refine l01New_cp bs hn fun g h hg0 hg => ?_
  have nga : g ≠ ga := fun e => by rw [e] at hg; simp at hg
  have bg : bl g = none := by simpa [nga] using hg
  simp
  refine l14Case_cp bs 0 h g ⟨hn, hbs, by omega, by omega⟩ (by simp) fun s ns b1 q1 q1a q1b q2 => ?_
  have ea : b1 ga = some ⟨2, [[.nils, .nils]]⟩ := q2 ga _ (Ne.symm nga) (by simp [Ne.symm nga])
  simp [Str.c, ea]
  rw [retK_ret]
  refine ⟨[.agg s.c, .sl (iv ns)], by simp [Str.c], ?_⟩
  refine hK s ns _ q1 q1a q1b (fun x y hy => ?_)
  have e1 : x ≠ ga := fun e => by rw [e, hga] at hy; cases hy
  have e2 : x ≠ g := fun e => by rw [e, bg] at hy; cases hy
  show upd b1 ga (some ⟨2, [[.sl (jv s.js), .sl (mv s.ms)]]⟩) x = some y
  rw [upd_apply, if_neg e1]
  exact q2 x y e2 (by simp [upd_apply, e1, e2, hy])
theorem MakeLoad_cp {bl : Int → Option Blk} {K : V → (Int → Option Blk) → Prop} (bs : List Int) (n : Nat) (s : Str) (hs : sOk s = true) (h1 : 1 ≤ s.js.length) (hn : bs.length ≤ 1048576) (hbs : ∀ x, x ∈ bs → 0 ≤ x ∧ x < 256) (hn2 : n ≤ 1048576)
    (hK : ∀ (ns : List Int) bl', lOk s ns = true → (∀ x, x ∈ ns → -8 ≤ x ∧ x ≤ 8) → Sub bl bl' → K (.sl (iv ns)) bl') :
    CallP Try.prog 5 [.sl (bv bs), .int .i64 n, .agg s.c] bl K := by
  refine callP_of Try.func5 rfl rfl (by rw [Try.ntmps5]; simp) ?_
  rw [Try.ntmps5, Try.results5]
  refine AW_runA ?_
  simp [Str.c]
  intro gs hgs0 hgs
  refine AW_frzAt 1 5 (.ptr s.c) bl (by simp [hgs]) (by simp [frz, dropB, hgs, Str.c, V.cl]) ?_
  refine AW_runA ?_
  refine AW_mixedB mixedO bl (Sub.refl _) [0, 1, 3] 3 (by kernel_rfl) ?_
  simp [Str.c]
  refine DAny_one (i := 2) (by kernel_rfl) rfl rfl ?_
  simp
  refine l32New_cp bs n hn hbs hn2 fun g i h hg0 hg hc => ?_
  simp
  refine ⟨fun x y hy => by rw [upd_apply, if_neg (fun e => by rw [e, hg] at hy; cases hy)]; exact hy, DAny_one (i := 4) (by kernel_rfl) rfl rfl ?_⟩
  simp
  refine l13Draw_cp bs i h g s ⟨h1, sOk_nj hs⟩ hc (by simp) fun g2 ns i2 h2 b2 hg2 hb2 hl hr hc2 hbg hbg2 hk2 => ?_
  have n2g : g2 ≠ g := fun e => by rw [e] at hb2; simp at hb2
  have b02 : bl g2 = none := by simpa [n2g] using hb2
  have hs2 : Sub bl b2 := fun x y hy => by
    have e : x ≠ g := fun e => by rw [e, hg] at hy; cases hy
    exact hk2 x y e (by simp [upd_apply, e, hy])
  simp
  refine ⟨hs2, DAny_one (i := 5) (by kernel_rfl) rfl rfl ?_⟩
  simp
  refine ⟨hs2, DAny_done (by kernel_rfl) ?_⟩
  simp
  refine AW_frzAt 1 6 (.sl (iv ns)) bl hs2 (by
      have e := frz_slice (bl := b2) (bl0 := bl) (sz := 1) (n := 2 * s.js.length) hg2 b02 (els := iv ns) hbg2 (by simpa using hl) (iv_cl ns)
      simpa using e) ?_
  refine AW_run ?_
  simp
  rw [retK_ret]
  exact ⟨[.sl (iv ns)], by simp, hK ns _ (by unfold lOk; rw [hs, fitsL_mk hl hr]; rfl) hr (Sub.refl _)⟩
end Go.Proofs.Ytmbcofnnibpbeaa.Vm

namespace Go.Proofs.Ytmbcofnnibpbeaa.Vm
open Go Go.Proofs
set_option linter.unusedSimpArgs false
set_option linter.unusedVariables false

theorem iv_set27 (l : List Int) (k : Nat) (v : Int) : (iv l).set k [.int .i64 v] = iv (l.set k v) := by
  unfold iv; rw [List.map_set]
theorem all_set2 {p : Int → Bool} {l : List Int} {a b : Nat} {v w : Int} (h : l.all p = true) (ha : a < l.length) (hb : b < l.length) (hab : a ≠ b) : ((l.set a v).set b w).all p = (p v && p w) := by
  rw [Bool.eq_iff_iff, Bool.and_eq_true, List.all_eq_true]
  constructor
  · intro h1
    refine ⟨h1 v ?_, h1 w ?_⟩
    · refine List.mem_iff_getElem.2 ⟨a, by simpa using ha, ?_⟩
      rw [List.getElem_set_ne (Ne.symm hab), List.getElem_set_self]
    · exact List.mem_iff_getElem.2 ⟨b, by simpa using hb, List.getElem_set_self _⟩
  · rintro ⟨h1, h2⟩ x hx
    rcases List.mem_or_eq_of_mem_set hx with hx | rfl
    · rcases List.mem_or_eq_of_mem_set hx with hx | rfl
      · exact List.all_eq_true.1 h x hx
      · exact h1
    · exact h2

def putOk (s : Str) (l : List Int) (j x y : Int) : Bool := lOk s l && (decide (0 ≤ j) && decide (j < s.js.length)) && (decide (-200 ≤ x) && decide (x ≤ 200)) && (decide (-200 ≤ y) && decide (y ≤ 200)) &&
  forceOk (lat l (2 * j.toNat) + x) && forceOk (lat l (2 * j.toNat + 1) + y)
def put1 (l : List Int) (j x : Int) : List Int := l.set (2 * j.toNat) (lat l (2 * j.toNat) + x)
def put2 (l : List Int) (j x y : Int) : List Int := (put1 l j x).set (2 * j.toNat + 1) (lat l (2 * j.toNat + 1) + y)
def putL (s : Str) (l : List Int) (j x y : Int) : List Int := if putOk s l j x y = true then put2 l j x y else []
def dOpt (ns : List Int) (b : Bool) : D := .t [fl 1 (iv ns), .c (.bool b)]
theorem own_opt {bl : Int → Option Blk} {ns : List Int} {b : Bool} {v : V} {gs : List Int} : OwnD bl (dOpt ns b) v gs ↔ ∃ u, v = .tup [u, .bool b] ∧ OwnD bl (fl 1 (iv ns)) u gs := by
  unfold dOpt
  rw [OwnD]
  constructor
  · rintro ⟨vs, rfl, h⟩
    obtain ⟨u, w, g1, g2, rfl, rfl, _, h1, h2⟩ := own_pair.1 h
    rw [OwnD] at h2
    obtain ⟨rfl, _, rfl⟩ := h2
    exact ⟨u, rfl, by simpa using h1⟩
  · rintro ⟨u, rfl, h⟩
    exact ⟨_, rfl, own_pair.2 ⟨u, _, gs, [], rfl, by simp, by simp, h, by rw [OwnD]; exact ⟨rfl, rfl, rfl⟩⟩⟩
theorem dOpt_fz (ns : List Int) (b : Bool) : (dOpt ns b).fz = .tup [.sl (iv ns), .bool b] := by simp [dOpt, D.fz, D.fzL]
theorem dOpt_dep (ns : List Int) (b : Bool) : (dOpt ns b).dep 2 := by
  unfold dOpt; rw [D.dep]; refine ⟨by omega, ?_⟩; simp [D.depL, fl_dep, D.dep]
theorem dOpt_sc (ns : List Int) (b : Bool) : (dOpt ns b).sc = true := by
  simp [dOpt, D.sc, D.scL, fl_sc (iv_ow _), V.ow]

theorem impl_PutLoad_nw (s : Str) (l : List Int) (j x y : Int) (hs : s.sz) (hl : l.length ≤ 1048576) (hx : -9223372036854775808 ≤ x ∧ x ≤ 9223372036854775807) (hy : -9223372036854775808 ≤ y ∧ y ≤ 9223372036854775807) :
    NW Try.prog 10 [.agg s.c, .sl (iv l), .int .i64 j, .int .i64 x, .int .i64 y] (dOpt (putL s l j x y) (putOk s l j x y)) := by
  refine nw_of Try.func10 rfl rfl (by rw [Try.ntmps10]; simp) fun bl => ?_
  rw [Try.ntmps10, Try.results10]
  refine AW_run ?_
  simp [Str.c]
  intro g hg0 hg
  refine AW_way0 [(1, .sl (iv l)), (2, .int .i64 j), (3, .int .i64 x), (4, .int .i64 y), (5, .loc g 2 0 0)] _ _ 29 (.bool (!(lOk s l && (decide (0 ≤ j) && decide (j < s.js.length))))) ⟨rfl, by simp, Sub.refl _⟩ rfl ?_ ?_
  · simp
    refine callP_ro (impl_LoadOk_ro s l hs.js hs.ms hs.nm (by omega)) ?_
    simp
    refine ⟨fun h => by simp [h], fun h => ?_⟩
    simp [h]
    grind
  simp
  refine ⟨fun h => ?_, fun h h1 h2 => ?_⟩
  · have hn : putOk s l j x y = false := by
      unfold putOk
      cases h3 : lOk s l <;> simp
      intro h4 h5; rcases h with (h | h)
      · rw [h3] at h; cases h
      · omega
    refine retNW [.nils, .bool false] [] rfl (own_opt.2 ⟨.nils, by simp [hn], ?_⟩) (by simp) (by simp [hg])
    exact own_iv.2 (.inl ⟨by simp [putL, hn], rfl, rfl⟩)
  have h0 := lOk_of h
  have h6 := h0.sok.nj
  have hn := h0.n
  obtain ⟨k, rfl⟩ := Int.eq_ofNat_of_zero_le h1
  simp at h2
  refine callP_new (Clone_ints_nw l hl) fun v gs b1 o f fr => ?_
  have hS1 : Sub bl b1 := fun z b hz => by
    have z1 : z ≠ g := fun e => by rw [e, hg] at hz; cases hz
    exact new_keep f fr (by simp [upd_apply, z1, hz])
  rcases own_iv.1 o with ⟨rfl, _, _⟩ | ⟨gl, rfl, rfl, hbl, hneg⟩
  · simp at hn; omega
  have hge : 0 ≤ gl := by
    rcases Int.lt_or_le gl 0 with h | h
    · have := hneg h; subst this; simp at hn; omega
    · exact h
  have hgl : bl gl = none := by have := f gl (by simp); simp [upd_apply] at this; exact this.2
  simp
  intro gx hgx hbx
  have hxl : gx ≠ gl := fun e => by rw [e, hbl] at hbx; cases hbx
  have hxn := fresh_of hS1 hbx
  have e0 : (2 * (k : Int)).toNat = 2 * k := by omega
  have e1 : (2 * (k : Int) + 1).toNat = 2 * k + 1 := by omega
  have w0 : IntKind.i64.wrap (2 * (k : Int)) = 2 * k := i64_in (by omega) (by omega)
  have w1 : IntKind.i64.wrap (2 * (k : Int) + 1) = 2 * k + 1 := i64_in (by omega) (by omega)
  have c0 : (0 : Int) ≤ 2 * k := by omega
  have c1 : (0 : Int) ≤ 2 * (k : Int) + 1 := by omega
  have d0 : 2 * (k : Int) < l.length := by omega
  have d1 : 2 * (k : Int) + 1 < l.length := by omega
  have q0 := iv_at (l := l) (i := 2 * k) (by omega)
  have q1 := iv_at (l := put1 l k x) (i := 2 * k + 1) (by simp [put1]; omega)
  have q1' : lat (put1 l k x) (2 * k + 1) = lat l (2 * k + 1) := by simp [lat, put1, List.getElem?_set]
  rw [q1'] at q1
  have b0 := h0.f (2 * k) (by omega)
  have b1' := h0.f (2 * k + 1) (by omega)
  refine AW_for (fun i : Nat => [(2, .int .i64 k), (12, .lsl gl 1 0 l.length), (34, .lsl gx 1 0 2), (35, .int .i64 2), (36, .int .i64 i)])
    (fun i => upd (upd b1 gx (some ⟨1, [[.int .i64 x], [.int .i64 y]]⟩)) gl (some ⟨1, iv (if i = 0 then l else if i = 1 then put1 l k x else put2 l k x y)⟩))
    (fun i => i ≤ 2 ∧ (1 ≤ i → (-200 ≤ x ∧ x ≤ 200) ∧ forceOk (lat l (2 * k) + x) = true) ∧ (2 ≤ i → (-200 ≤ y ∧ y ≤ 200) ∧ forceOk (lat l (2 * k + 1) + y) = true)) (fun i => 2 - i) 72 0 ⟨by omega, by omega, by omega⟩ ?_ ?_
  · refine ⟨rfl, by simp, ?_⟩
    intro z b hz
    have er : List.range 2 = [0, 1] := rfl
    simp only [upd_apply] at hz ⊢
    simp [er] at hz ⊢
    grind
  have wr1 : IntKind.i64.wrap 1 = 1 := i64_in (by omega) (by omega)
  have wr2 : IntKind.i64.wrap 2 = 2 := i64_in (by omega) (by omega)
  rintro i ⟨hi, hi1, hi2⟩
  refine AW_run ?_
  have fail : ∀ σ : St, putOk s l k x y = false → σ.n = 72 → σ.sl 10 = .nils → σ.sl 11 = .bool false → Sub bl σ.bl → retK Try.prog [.tmp 10, .tmp 11] (MadeK bl (dOpt (putL s l k x y) (putOk s l k x y))) .ret σ := by
    intro σ hno h72 h10 h11 hsub
    refine retNW [.nils, .bool false] [] (by simp [h72, h10, h11]) (own_opt.2 ⟨.nils, by simp [hno], ?_⟩) (by simp) hsub
    exact own_iv.2 (.inl ⟨by simp [putL, hno], rfl, rfl⟩)
  have sub0 : ∀ X, Sub bl (upd (upd b1 gx (some ⟨1, [[.int .i64 x], [.int .i64 y]]⟩)) gl X) := fun X => by simp [hgl, hxn]; exact hS1
  obtain rfl | rfl | rfl : i = 0 ∨ i = 1 ∨ i = 2 := by omega
  · simp [hxl, Ne.symm hxl]
    refine AW_way0 [(2, .int .i64 k), (12, .lsl gl 1 0 l.length), (34, .lsl gx 1 0 2), (35, .int .i64 2), (36, .int .i64 0), (13, .int .i64 0), (14, .int .i64 x)] _ _ 59 (.bool (!((decide (-200 ≤ x) && decide (x ≤ 200)) && forceOk (lat l (2 * k) + x)))) ⟨rfl, by simp, Sub.refl _⟩ rfl ?_ ?_
    · simp [hxl, Ne.symm hxl]
      refine ⟨fun h => by grind, fun h => ⟨fun h' => by grind, fun h' => ?_⟩⟩
      have w2 : IntKind.i64.wrap (lat l (2 * k) + x) = lat l (2 * k) + x := i64_in (by omega) (by omega)
      simp [-iv_get, hxl, Ne.symm hxl, w0, e0, c0, d0, q0, w2]
      refine callP_ro (isForce_ro _) ?_
      simp
      rw [Bool.eq_iff_iff]; simp; omega
    simp
    refine ⟨fun h => ?_, fun h3 h4 h5 => ?_⟩
    · refine fail _ ?_ rfl rfl rfl (sub0 _)
      unfold putOk
      simp
      grind
    · have w2 : IntKind.i64.wrap (lat l (2 * k) + x) = lat l (2 * k) + x := i64_in (by omega) (by omega)
      simp [-iv_get, hxl, Ne.symm hxl, w0, e0, c0, d0, q0, w2, iv_set27, loopQ_normal]
      exact ⟨1, ⟨by omega, fun _ => ⟨⟨h3, h4⟩, h5⟩, by omega⟩, by omega, rfl, by simp [wr1], sub_eq (by simp [put1])⟩
  · obtain ⟨⟨h3, h4⟩, h5⟩ := hi1 (by omega)
    simp [hxl, Ne.symm hxl]
    have lp : (put1 l k x).length = l.length := by simp [put1]
    refine AW_way0 [(2, .int .i64 k), (12, .lsl gl 1 0 l.length), (34, .lsl gx 1 0 2), (35, .int .i64 2), (36, .int .i64 1), (13, .int .i64 1), (14, .int .i64 y)] _ _ 59 (.bool (!((decide (-200 ≤ y) && decide (y ≤ 200)) && forceOk (lat l (2 * k + 1) + y)))) ⟨rfl, by simp, Sub.refl _⟩ rfl ?_ ?_
    · simp [hxl, Ne.symm hxl]
      refine ⟨fun h => by grind, fun h => ⟨fun h' => by grind, fun h' => ?_⟩⟩
      have w2 : IntKind.i64.wrap (lat l (2 * k + 1) + y) = lat l (2 * k + 1) + y := i64_in (by omega) (by omega)
      simp [-iv_get, hxl, Ne.symm hxl, w0, w1, e1, c1, d1, q1, w2]
      refine callP_ro (isForce_ro _) ?_
      simp
      rw [Bool.eq_iff_iff]; simp; omega
    simp
    refine ⟨fun h => ?_, fun h6' h7 h8 => ?_⟩
    · refine fail _ ?_ rfl rfl rfl (sub0 _)
      unfold putOk
      simp
      grind
    · have w2 : IntKind.i64.wrap (lat l (2 * k + 1) + y) = lat l (2 * k + 1) + y := i64_in (by omega) (by omega)
      simp [-iv_get, hxl, Ne.symm hxl, w0, w1, e1, c1, d1, q1, w2, iv_set27, loopQ_normal]
      exact ⟨2, ⟨by omega, fun _ => ⟨⟨h3, h4⟩, h5⟩, fun _ => ⟨⟨h6', h7⟩, h8⟩⟩, by omega, rfl, by simp [wr2], sub_eq (by simp [put2])⟩
  · obtain ⟨⟨h3, h4⟩, h5⟩ := hi1 (by omega)
    obtain ⟨⟨h6', h7⟩, h8⟩ := hi2 (by omega)
    have hok : putOk s l k x y = true := by
      unfold putOk
      simp [h, h2, h3, h4, h5, h6', h7, h8]
    simp
    refine retNW [.lsl gl 1 0 l.length, .bool true] [gl] (by simp) (own_opt.2 ⟨_, by simp [hok]; rfl, ?_⟩) (by simpa using hgl) (sub0 _)
    exact own_iv.2 (.inr ⟨gl, by simp [putL, hok, put2, put1], rfl, by simp [putL, hok], by omega⟩)

end Go.Proofs.Ytmbcofnnibpbeaa.Vm

namespace Go.Proofs.Ytmbcofnnibpbeaa.Vm
open Go Go.Proofs
set_option linter.unusedSimpArgs false
set_option linter.unusedVariables false

theorem impl_PutLoad_ro (s : Str) (l : List Int) (j x y : Int) (hs : s.sz) (hl : l.length ≤ 1048576) (hx : -9223372036854775808 ≤ x ∧ x ≤ 9223372036854775807) (hy : -9223372036854775808 ≤ y ∧ y ≤ 9223372036854775807) :
    RO Try.prog 10 [.agg s.c, .sl (iv l), .int .i64 j, .int .i64 x, .int .i64 y] (.tup [.sl (iv (putL s l j x y)), .bool (putOk s l j x y)]) := by
  have := ro_of_nw 2 (impl_PutLoad_nw s l j x y hs hl hx hy) (dOpt_dep _ _)
  rwa [dOpt_fz] at this

end Go.Proofs.Ytmbcofnnibpbeaa.Vm

namespace Go.Proofs.Ytmbcofnnibpbeaa.Vm
open Go Go.Proofs
set_option linter.unusedSimpArgs false
set_option linter.unusedVariables false

theorem putL_le (s : Str) (l : List Int) (j x y : Int) (hl : l.length ≤ 1048576) : (putL s l j x y).length ≤ 1048576 := by
  unfold putL; split
  · simp [put2, put1]; exact hl
  · simp

end Go.Proofs.Ytmbcofnnibpbeaa.Vm

namespace Go.Proofs.Ytmbcofnnibpbeaa.Vm
open Go Go.Proofs
set_option linter.unusedSimpArgs false
set_option linter.unusedVariables false

theorem celT_int : Try.prog.cellsOf 3 = 1 := by kernel_rfl
theorem celT_bool : Try.prog.cellsOf 4 = 1 := by kernel_rfl
theorem celT_string : Try.prog.cellsOf 9 = 1 := by kernel_rfl
theorem len2 {cs : List V} (h : cs.length = 2) : ∃ a b, cs = [a, b] := by
  match cs, h with
  | [a, b], _ => exact ⟨a, b, rfl⟩
theorem len3 {cs : List V} (h : cs.length = 3) : ∃ a b c, cs = [a, b, c] := by
  match cs, h with
  | [a, b, c], _ => exact ⟨a, b, c, rfl⟩
theorem len4 {cs : List V} (h : cs.length = 4) : ∃ a b c d, cs = [a, b, c, d] := by
  match cs, h with
  | [a, b, c, d], _ => exact ⟨a, b, c, d, rfl⟩

theorem bytes_int : Try.prog.bytesOf 3 = 8 := by kernel_rfl

theorem iv_of_co {cs : List V} (h : CO Try.prog 27 cs) : ∃ ns : List Int, cs = [.sl (iv ns)] ∧ ns.length ≤ 17592186043904 ∧ ∀ n, n ∈ ns → -9223372036854775808 ≤ n ∧ n ≤ 9223372036854775807 := by
  obtain ⟨xs, rfl, hx, hl⟩ := co_slice Try.underlying27 h
  rw [bytes_int] at hl
  have : ∃ ns : List Int, xs = iv ns ∧ ∀ n, n ∈ ns → -9223372036854775808 ≤ n ∧ n ≤ 9223372036854775807 := by
    clear hl h
    induction xs with
    | nil => exact ⟨[], rfl, fun n hn => by cases hn⟩
    | cons x xs ih =>
      obtain ⟨ns, rfl, hns⟩ := ih fun y hy => hx y (List.mem_cons_of_mem _ hy)
      obtain ⟨n, rfl, hn⟩ := co_int Try.underlying3 (hx x List.mem_cons_self)
      refine ⟨n :: ns, rfl, fun m hm => ?_⟩
      rcases List.mem_cons.1 hm with rfl | hm
      · exact wf_i64 hn
      · exact hns m hm
  obtain ⟨ns, rfl, hns⟩ := this
  exact ⟨ns, rfl, by simp at hl; omega, hns⟩

end Go.Proofs.Ytmbcofnnibpbeaa.Vm

namespace Go.Proofs.Ytmbcofnnibpbeaa.Vm
open Go Go.Proofs
set_option linter.unusedSimpArgs false
set_option linter.unusedVariables false

def In64 (n : Int) : Prop := -9223372036854775808 ≤ n ∧ n ≤ 9223372036854775807
structure Mb.fit (m : Mb) : Prop where
  a : In64 m.a
  b : In64 m.b
  kind : In64 m.kind
structure Str.fit (s : Str) : Prop where
  js : s.js.length ≤ 140737488351232
  ms : s.ms.length ≤ 140737488351232
  names : ∀ j, j ∈ s.js → j.name.size ≤ 140737488351232
  joints : ∀ j, j ∈ s.js → j.fit
  members : ∀ m, m ∈ s.ms → m.fit

theorem len_of {xs : List (List V)} {b n : Nat} (hl : xs.length * b ≤ n) (hb : 1 ≤ b) : xs.length ≤ n := Nat.le_trans (Nat.le_mul_of_pos_right _ hb) hl

end Go.Proofs.Ytmbcofnnibpbeaa.Vm

namespace Go.Proofs.Ytmbcofnnibpbeaa.Vm
open Go Go.Proofs
set_option linter.unusedSimpArgs false
set_option linter.unusedVariables false

def szW : List (List Int) → Int → Int
  | [], left => left
  | w :: ws, left => if less left w.length < 0 then -1 else szW ws (less left w.length)
def szII (ws : List (List Int)) (left : Int) : Int := if less left ws.length < 0 then -1 else szW ws (less left ws.length)

theorem szW_le : ∀ (ws : List (List Int)) (left : Int), -1 ≤ left ∧ left ≤ 1048576 → 0 ≤ szW ws left → (∀ w, w ∈ ws → (w.length : Int) ≤ left) ∧ (ws.flatten.length : Int) ≤ left
  | [], left, h, h0 => ⟨fun w hw => (by cases hw), by simp [szW] at h0; simpa using h0⟩
  | w :: ws, left, h, h0 => by
    unfold szW at h0
    split at h0
    · omega
    · rename_i hn
      have h1 := less_le (left := left) (n := w.length) h
      have h2 : less left w.length = left - w.length := by unfold less at *; split <;> split at * <;> omega
      obtain ⟨h3, h4⟩ := szW_le ws _ h1 h0
      refine ⟨fun v hv => ?_, ?_⟩
      · rcases List.mem_cons.1 hv with rfl | hv
        · omega
        · have := h3 v hv; omega
      · simp only [List.flatten_cons, List.length_append]; omega
theorem szII_le {ws : List (List Int)} {left : Int} (h : -1 ≤ left ∧ left ≤ 1048576) (h0 : 0 ≤ szII ws left) : (ws.length : Int) ≤ left ∧ (∀ w, w ∈ ws → (w.length : Int) ≤ left) ∧ (ws.flatten.length : Int) ≤ left := by
  unfold szII at h0
  split at h0
  · omega
  · rename_i hn
    have h1 := less_le (left := left) (n := ws.length) h
    have h2 : less left ws.length = left - ws.length := by unfold less at *; split <;> split at * <;> omega
    obtain ⟨h3, h4⟩ := szW_le ws _ h1 h0
    exact ⟨by omega, fun w hw => by have := h3 w hw; omega, by omega⟩

/-! ### Marks -/
def lenTo (ws : List (List Int)) (i : Nat) : Nat := (ws.take i).flatten.length
theorem lenTo_succ (ws : List (List Int)) (i : Nat) (h : i < ws.length) : lenTo ws (i + 1) = lenTo ws i + ws[i].length := by
  unfold lenTo
  rw [List.take_add_one, List.getElem?_eq_getElem h]
  simp only [Option.toList_some, List.flatten_append, List.flatten_cons, List.flatten_nil, List.append_nil, List.length_append]
theorem lenTo_le (ws : List (List Int)) (i : Nat) : lenTo ws i ≤ ws.flatten.length := by
  unfold lenTo
  conv => rhs; rw [← List.take_append_drop i ws]
  rw [List.flatten_append, List.length_append]
  omega
/-- What is known of data whose marks don't matter any more: only where it lies. -/
def Some2 (bl : Int → Option Blk) (n : Nat) (v : V) (gs : List Int) : Prop := ∃ rows els, rows.length = n ∧ ((rows = [] ∧ v = .nils ∧ gs = []) ∨ ∃ g gs', v = .lsl g 1 0 n ∧ gs = g :: gs' ∧ g ∉ gs' ∧ bl g = some ⟨1, els⟩ ∧ (g < 0 → els = []) ∧ OwnR bl 1 rows els gs')

structure St2 where
  i : Nat
  b : Int → Option Blk

/-! ### Arguments -/
theorem bytes_ints : 1 ≤ Try.prog.bytesOf 27 := by
  have : Try.prog.bytesOf 27 = 24 := by kernel_rfl
  omega
structure FitW (ws : List (List Int)) : Prop where
  n : ws.length ≤ 140737488351232
  w : ∀ w, w ∈ ws → w.length ≤ 140737488351232
theorem ivv_of_co {cs : List V} (h : CO Try.prog 34 cs) : ∃ ws : List (List Int), cs = [.sl (ivv ws)] ∧ FitW ws := by
  obtain ⟨xs, rfl, hx, hl⟩ := co_slice Try.underlying34 h
  have : ∃ ws : List (List Int), xs = ivv ws ∧ ∀ w, w ∈ ws → w.length ≤ 140737488351232 := by
    clear hl h
    induction xs with
    | nil => exact ⟨[], rfl, fun n hn => by cases hn⟩
    | cons x xs ih =>
      obtain ⟨ws, rfl, hws⟩ := ih fun y hy => hx y (List.mem_cons_of_mem _ hy)
      obtain ⟨w, rfl, hw, _⟩ := iv_of_co (hx x List.mem_cons_self)
      refine ⟨w :: ws, rfl, fun m hm => ?_⟩
      rcases List.mem_cons.1 hm with rfl | hm
      · omega
      · exact hws m hm
  obtain ⟨ws, rfl, hws⟩ := this
  have := len_of hl bytes_ints
  exact ⟨ws, rfl, by simpa using this, hws⟩

end Go.Proofs.Ytmbcofnnibpbeaa.Vm

namespace Go.Proofs.Ytmbcofnnibpbeaa.Vm
open Go Go.Proofs
set_option linter.unusedSimpArgs false
set_option linter.unusedVariables false

theorem callP_one {P : Program} {f : FuncId} {xs : List V} {bl : Int → Option Blk} {V0 : Int → V} {B : Blk}
    (h : CallP P f xs bl fun v bl' => ∃ g : Int, 0 ≤ g ∧ bl g = none ∧ v = V0 g ∧ bl' g = some B ∧ Sub bl bl') : CallP P f xs bl fun v bl' => ∃ g : Int, 0 ≤ g ∧ bl g = none ∧ v = V0 g ∧ bl' = upd bl g (some B) :=
  ⟨h.1, fun w0 M F w vs hm hr => (h.2 w0 M F w vs hm hr).mono fun e w' ⟨v, x, bl', F', h1, h2, h3, h4, h5, h6, g, h7, h8, h9, h10, h11⟩ => by
    refine ⟨v, x, upd bl g (some B), F', h1, h2, h3, h4, h5.sub fun y b hb => ?_, h6, g, h7, h8, h9, rfl⟩
    rw [upd_apply] at hb
    split at hb
    · rename_i e; rw [e, h10, hb]
    · exact h11 y b hb⟩

theorem impl_NoLoad_one (s : Str) (hs : s.sz) (h : sOk s = true) (bl : Int → Option Blk) : CallP Try.prog 8 [.agg s.c] bl fun v bl' => ∃ g : Int, 0 ≤ g ∧ bl g = none ∧ v = .lsl g 1 0 (2 * s.js.length) ∧ bl' = upd bl g (some ⟨1, iv (List.replicate (2 * s.js.length) 0)⟩) := by
  have hj := hs.js
  refine callP_one (V0 := fun g => .lsl g 1 0 (2 * s.js.length)) ?_
  refine callP_of Try.func8 rfl rfl (by rw [Try.ntmps8]; simp) ?_
  rw [Try.ntmps8, Try.results8]
  refine AW_run ?_
  simp [Str.c]
  intro g hg0 hg
  refine callP_ro (impl_StructureOk_ro s hs.js hs.ms hs.nm) ?_
  simp [h]
  have h6 := (sOk_of h).nj
  simp (disch := omega) [i64_in]
  refine ⟨2 * s.js.length, by simp, by simp, by omega, by unfold maxLen; omega, fun g1 hg1 hb1 => ?_⟩
  simp at hb1
  obtain ⟨h1g, hb1⟩ := hb1
  simp
  rw [retK_ret]
  refine ⟨[.lsl g1 1 0 (2 * s.js.length)], by simp, g1, hg1, hb1, rfl, by simp [iv], by simp [hb1, hg]⟩

/-! ### Mixtures -/
def mixC (ws : List (List Int)) (wt : List Int) (i : Nat) : Nat → Int
  | 0 => 0
  | c + 1 => mixC ws wt i c + lat wt c * lat (ws.getD c []) i
def mixL (m : Nat) (ws : List (List Int)) (wt : List Int) (c : Nat) : List Int := (List.range m).map fun i => mixC ws wt i c
@[simp] theorem mixL_length (m : Nat) (ws : List (List Int)) (wt : List Int) (c : Nat) : (mixL m ws wt c).length = m := by simp [mixL]
@[simp] theorem mixL_getE (m : Nat) (ws : List (List Int)) (wt : List Int) (c i : Nat) (h : i < (mixL m ws wt c).length) : (mixL m ws wt c)[i] = mixC ws wt i c := by simp [mixL]
theorem mixL_zero (m : Nat) (ws : List (List Int)) (wt : List Int) : mixL m ws wt 0 = List.replicate m 0 := by
  apply List.ext_getElem <;> simp [mixL, mixC]
def cOk (s : Str) (ws : List (List Int)) (wt : List Int) (c : Nat) : Bool := fitsL s.js (ws.getD c []) && (decide (0 ≤ lat wt c) && decide (lat wt c ≤ 100))
def mixOk (s : Str) (ws : List (List Int)) (wt : List Int) : Bool := decide (ws.length = wt.length) && decide (ws.length ≤ 10) && sOk s && decide (∀ c, c < ws.length → cOk s ws wt c = true) && fitsL s.js (mixL (2 * s.js.length) ws wt ws.length)
def mixR (s : Str) (ws : List (List Int)) (wt : List Int) : List Int := if mixOk s ws wt = true then mixL (2 * s.js.length) ws wt ws.length else []
theorem cOk_of {s : Str} {ws : List (List Int)} {wt : List Int} {c : Nat} (h : cOk s ws wt c = true) : (ws.getD c []).length = 2 * s.js.length ∧ (∀ i, i < 2 * s.js.length → -100 ≤ lat (ws.getD c []) i ∧ lat (ws.getD c []) i ≤ 100) ∧ 0 ≤ lat wt c ∧ lat wt c ≤ 100 := by
  unfold cOk at h
  simp only [Bool.and_eq_true, decide_eq_true_eq] at h
  obtain ⟨h1, h2⟩ := fitsL_of h.1
  exact ⟨h1, fun i hi => h2 i (by omega), h.2⟩
theorem mix_step {s : Str} {ws : List (List Int)} {wt : List Int} {c i : Nat} (h : cOk s ws wt c = true) (hi : i < 2 * s.js.length) : -10000 ≤ lat wt c * lat (ws.getD c []) i ∧ lat wt c * lat (ws.getD c []) i ≤ 10000 := by
  obtain ⟨_, h2, h3⟩ := cOk_of h
  have := mul_le (a := lat wt c) (p := 100) (by omega) (h2 i hi)
  omega
theorem mixC_le {s : Str} {ws : List (List Int)} {wt : List Int} {i : Nat} (hi : i < 2 * s.js.length) : ∀ c, (∀ d, d < c → cOk s ws wt d = true) → -(10000 * c : Int) ≤ mixC ws wt i c ∧ mixC ws wt i c ≤ 10000 * c
  | 0, _ => by simp [mixC]
  | c + 1, h => by
    have h1 := mixC_le hi c fun d hd => h d (by omega)
    have h2 := mix_step (h c (by omega)) hi
    simp only [mixC]
    omega

theorem impl_MixLoads_nw (s : Str) (ws : List (List Int)) (wt : List Int) (hs : s.sz) (hw : ws.length ≤ 1048576) (hws : ∀ w, w ∈ ws → w.length ≤ 1048576) (hwt : wt.length ≤ 1048576) :
    NW Try.prog 7 [.agg s.c, .sl (ivv ws), .sl (iv wt)] (dOpt (mixR s ws wt) (mixOk s ws wt)) := by
  refine nw_of Try.func7 rfl rfl (by rw [Try.ntmps7]; simp) fun bl => ?_
  rw [Try.ntmps7, Try.results7]
  refine AW_run ?_
  simp [Str.c]
  intro g3 hg3 hb3
  have fail : ∀ σ : St, mixOk s ws wt = false → σ.n = 79 → σ.sl 6 = .nils → σ.sl 7 = .bool false → Sub bl σ.bl → retK Try.prog [.tmp 6, .tmp 7] (MadeK bl (dOpt (mixR s ws wt) (mixOk s ws wt))) .ret σ := by
    intro σ hno h72 h10 h11 hsub
    refine retNW [.nils, .bool false] [] (by simp [h72, h10, h11]) (own_opt.2 ⟨.nils, by simp [hno], ?_⟩) (by simp) hsub
    exact own_iv.2 (.inl ⟨by simp [mixR, hno], rfl, rfl⟩)
  refine AW_way0 [(1, .sl (ivv ws)), (2, .sl (iv wt)), (3, .loc g3 2 0 0)] _ _ 27 (.bool (!(decide (ws.length = wt.length) && decide (ws.length ≤ 10) && sOk s))) ⟨rfl, by simp, Sub.refl _⟩ rfl ?_ ?_
  · simp
    refine ⟨fun h => by grind, fun h => ⟨fun h1 => by grind, fun h1 => ?_⟩⟩
    refine callP_ro (impl_StructureOk_ro s hs.js hs.ms hs.nm) ?_
    simp
    grind
  simp
  refine ⟨fun h => ?_, fun h1 h2 hso => ?_⟩
  · refine fail _ ?_ rfl rfl rfl (by simp [hb3])
    unfold mixOk
    simp
    grind
  have h6 := (sOk_of hso).nj
  refine (impl_NoLoad_one s hs hso _).mono fun v bl' hh => ?_
  obtain ⟨g, hg0, hg, rfl, rfl⟩ := hh
  simp at hg
  obtain ⟨hg3', hgn⟩ := hg
  simp
  rw [← mixL_zero (2 * s.js.length) ws wt]
  have hsub : ∀ X, Sub bl (upd (upd bl g3 (some ⟨2, [[.sl (jv s.js), .sl (mv s.ms)]]⟩)) g X) := fun X => by simp [hb3, hgn]
  refine AW_for (fun c : Nat => [(1, .sl (ivv ws)), (2, .sl (iv wt)), (3, .loc g3 2 0 0), (8, .lsl g 1 0 (2 * s.js.length)), (30, .sl (ivv ws)), (31, .int .i64 ws.length), (32, .int .i64 c)])
    (fun c => upd (upd bl g3 (some ⟨2, [[.sl (jv s.js), .sl (mv s.ms)]]⟩)) g (some ⟨1, iv (mixL (2 * s.js.length) ws wt c)⟩)) (fun c => c ≤ ws.length ∧ ∀ d, d < c → cOk s ws wt d = true) (fun c => ws.length - c) 79 0 ⟨Nat.zero_le _, by omega⟩ ⟨rfl, by simp, Sub.refl _⟩ ?_
  intro c ⟨hc, hall⟩
  refine AW_run ?_
  simp
  refine ⟨fun hcl => ?_, fun hcl => ?_⟩
  · have hwc : c < wt.length := by omega
    have egd : ws.getD c [] = ws[c] := by simp [hcl]
    simp [hcl]
    refine AW_way0 [(1, .sl (ivv ws)), (2, .sl (iv wt)), (3, .loc g3 2 0 0), (8, .lsl g 1 0 (2 * s.js.length)), (30, .sl (ivv ws)), (31, .int .i64 ws.length), (32, .int .i64 c), (9, .int .i64 c), (10, .sl (iv ws[c]))] _ _ 53 (.bool (!cOk s ws wt c)) ⟨rfl, by simp, Sub.refl _⟩ rfl ?_ ?_
    · simp
      refine callP_borrow 3 (ys := [.ptr s.c, .sl (iv ws[c])]) (by simp [frz, dropB, V.cl, Str.c, hg3', Ne.symm hg3']) (fitsLoad_ro s ws[c] hs.js (by have := hws _ (List.getElem_mem hcl); omega)) rfl ?_
      have q := iv_at (l := wt) (i := c) hwc
      simp [cOk, egd]
      refine ⟨fun h => by grind, fun h => ?_⟩
      simp [-iv_get, q, h]
      grind
    simp
    refine ⟨fun h => ?_, fun h => ?_⟩
    · refine fail _ ?_ rfl rfl rfl (hsub _)
      have : ¬ ∀ c, c < ws.length → cOk s ws wt c = true := fun hh => by rw [hh c hcl] at h; cases h
      unfold mixOk
      simp [this]
    have hlc := (cOk_of h).1
    rw [egd] at hlc
    have hbc := (cOk_of h).2.1
    refine AW_for (fun i : Nat => [(1, .sl (ivv ws)), (2, .sl (iv wt)), (3, .loc g3 2 0 0), (8, .lsl g 1 0 (2 * s.js.length)), (30, .sl (ivv ws)), (31, .int .i64 ws.length), (32, .int .i64 c), (9, .int .i64 c), (54, .sl (iv ws[c])), (55, .int .i64 ws[c].length), (56, .int .i64 i)])
      (fun i => upd (upd bl g3 (some ⟨2, [[.sl (jv s.js), .sl (mv s.ms)]]⟩)) g (some ⟨1, over (iv (mixL (2 * s.js.length) ws wt (c + 1))) (iv (mixL (2 * s.js.length) ws wt c)) i⟩)) (fun i => i ≤ 2 * s.js.length) (fun i => 2 * s.js.length - i) 79 0 (Nat.zero_le _) ⟨rfl, by simp, sub_eq (by simp)⟩ ?_
    intro i hi
    refine AW_run ?_
    simp
    refine ⟨fun hil => ?_, fun hil => ?_⟩
    · have hi2 : i < 2 * s.js.length := by omega
      have st := mix_step h hi2
      have bd := mixC_le (ws := ws) (wt := wt) hi2 c hall
      have q1 := iv_at (l := wt) (i := c) hwc
      have q2 := iv_at (l := ws[c]) (i := i) hil
      have q3 := over_get (iv (mixL (2 * s.js.length) ws wt (c + 1))) (iv (mixL (2 * s.js.length) ws wt c)) i (by simp) (by simpa using hi2)
      simp [-iv_get, q2]
      refine AW_mixedT mixedO [0, 1, 2, 3, 4, 5, 6, 7, 8, 9, 10, 11] 1 12 (by kernel_rfl) ?_
      have hi3 : (i : Int) < 2 * (s.js.length : Int) := by omega
      simp [-iv_get, q1, q3, hi2, hi3]
      have e1 : IntKind.i64.wrap (lat ws[c] i * lat wt c) = lat wt c * lat ws[c] i := by
        rw [egd] at st
        rw [Int.mul_comm]; exact i64_in (by omega) (by omega)
      have e2 : IntKind.i64.wrap (mixC ws wt i c + lat wt c * lat ws[c] i) = mixC ws wt i (c + 1) := by
        rw [egd] at st
        rw [mixC, egd]; exact i64_in (by omega) (by omega)
      rw [e1, e2]
      refine DAny_last (i := 12) (by kernel_rfl) rfl rfl rfl ?_
      simp [q3]
      refine DAny_done (by kernel_rfl) ?_
      simp (disch := omega) [i64_in, loopQ_normal]
      refine ⟨i + 1, by omega, by omega, rfl, by simp, sub_eq ?_⟩
      rw [over_set _ _ _ (by simp) (by simpa using hi2) _ (by simp)]
    · have : i = 2 * s.js.length := by omega
      subst this
      rw [over_all _ _ _ (by simp) (by simp)]
      have w1 : IntKind.i64.wrap ((c : Int) + 1) = c + 1 := i64_in (by omega) (by omega)
      simp [w1, loopQ_normal]
      refine ⟨c + 1, ⟨by omega, fun d hd => ?_⟩, by omega, rfl, by simp, Sub.refl _⟩
      rcases Nat.lt_or_ge d c with hlt | hge
      · exact hall d hlt
      · obtain rfl : d = c := by omega
        exact h
  · have : c = ws.length := by omega
    subst this
    have hR : mixOk s ws wt = fitsL s.js (mixL (2 * s.js.length) ws wt ws.length) := by
      unfold mixOk
      have : decide (∀ c, c < ws.length → cOk s ws wt c = true) = true := decide_eq_true hall
      rw [this]
      simp [h1, h2, hso]
      simp [← h1, h2]
    have o : OwnD (upd (upd bl g3 (some ⟨2, [[.sl (jv s.js), .sl (mv s.ms)]]⟩)) g (some ⟨1, iv (mixL (2 * s.js.length) ws wt ws.length)⟩)) (fl 1 (iv (mixL (2 * s.js.length) ws wt ws.length))) (.lsl g 1 0 (2 * s.js.length)) [g] := own_iv.2 (.inr ⟨g, by simp, rfl, by simp, by omega⟩)
    refine callP_borrow 3 (ys := [.ptr s.c, .sl (iv (mixL (2 * s.js.length) ws wt ws.length))]) (by simp [frz_iv o 2]; simp [frz, dropB, V.cl, Str.c, hg3', Ne.symm hg3']) (fitsLoad_ro s _ hs.js (by simp; omega)) rfl ?_
    simp
    refine ⟨fun h => fail _ (by rw [hR]; exact h) rfl rfl rfl (hsub _), fun h => ?_⟩
    have hok : mixOk s ws wt = true := by rw [hR]; exact h
    refine retNW [.lsl g 1 0 (2 * s.js.length), .bool true] [g] (by simp) (own_opt.2 ⟨_, by simp [hok]; rfl, ?_⟩) (by simpa using hgn) (hsub _)
    have : mixR s ws wt = mixL (2 * s.js.length) ws wt ws.length := by simp [mixR, hok]
    rw [this]
    exact o

end Go.Proofs.Ytmbcofnnibpbeaa.Vm

namespace Go.Proofs.Ytmbcofnnibpbeaa.Vm
open Go Go.Proofs
set_option linter.unusedSimpArgs false
set_option linter.unusedVariables false

theorem impl_MixLoads_ro (s : Str) (ws : List (List Int)) (wt : List Int) (hs : s.sz) (hw : ws.length ≤ 1048576) (hws : ∀ w, w ∈ ws → w.length ≤ 1048576) (hwt : wt.length ≤ 1048576) :
    RO Try.prog 7 [.agg s.c, .sl (ivv ws), .sl (iv wt)] (.tup [.sl (iv (mixR s ws wt)), .bool (mixOk s ws wt)]) := by
  have := ro_of_nw 2 (impl_MixLoads_nw s ws wt hs hw hws hwt) (dOpt_dep _ _)
  rwa [dOpt_fz] at this
theorem mixR_le (s : Str) (ws : List (List Int)) (wt : List Int) : (mixR s ws wt).length ≤ 12 := by
  unfold mixR
  split
  · rename_i h
    unfold mixOk at h
    simp only [Bool.and_eq_true] at h
    have := (sOk_of h.1.1.2).nj
    simp; omega
  · simp

end Go.Proofs.Ytmbcofnnibpbeaa.Vm

namespace Go.Proofs.Ytmbcofnnibpbeaa.Vm
open Go Go.Proofs
set_option linter.unusedSimpArgs false
set_option linter.unusedVariables false

theorem mix2 (N : Nat) (l m : List Int) (a b : Int) (i : Nat) (h : i < N) : lat (mixL N [l, m] [a, b] 2) i = a * lat l i + b * lat m i := by
  have h2 : i < (mixL N [l, m] [a, b] 2).length := by simpa using h
  rw [show lat (mixL N [l, m] [a, b] 2) i = (mixL N [l, m] [a, b] 2).getD i 0 from rfl, getD_at _ _ _ h2, mixL_getE]
  simp [mixC, lat]
theorem sumX_mix (N : Nat) (l m : List Int) (a b : Int) : ∀ n, 2 * n ≤ N → sumX (mixL N [l, m] [a, b] 2) n = a * sumX l n + b * sumX m n
  | 0, _ => by simp [sumX]
  | n + 1, h => by rw [sumX, sumX, sumX, sumX_mix N l m a b n (by omega), mix2 N l m a b _ (by omega)]; grind
theorem sumY_mix (N : Nat) (l m : List Int) (a b : Int) : ∀ n, 2 * n ≤ N → sumY (mixL N [l, m] [a, b] 2) n = a * sumY l n + b * sumY m n
  | 0, _ => by simp [sumY]
  | n + 1, h => by rw [sumY, sumY, sumY, sumY_mix N l m a b n (by omega), mix2 N l m a b _ (by omega)]; grind
theorem mom_mix (s : Str) (x y : Int) (N : Nat) (l m : List Int) (a b : Int) : ∀ n, 2 * n ≤ N → momTo s (mixL N [l, m] [a, b] 2) x y n = a * momTo s l x y n + b * momTo s m x y n
  | 0, _ => by simp [momTo]
  | n + 1, h => by
    rw [momTo, momTo, momTo, mom_mix s x y N l m a b n (by omega), mix2 N l m a b _ (by omega), mix2 N l m a b _ (by omega)]
    generalize momTo s l x y n = p
    generalize momTo s m x y n = q
    grind
theorem lat_in {l : List Int} {B : Int} (hB : 0 ≤ B) (h : ∀ x, x ∈ l → -B ≤ x ∧ x ≤ B) (i : Nat) : -B ≤ lat l i ∧ lat l i ≤ B := by
  rcases Nat.lt_or_ge i l.length with h1 | h1
  · rw [show lat l i = l.getD i 0 from rfl, getD_at _ _ _ h1]; exact h _ (List.getElem_mem h1)
  · rw [show lat l i = l.getD i 0 from rfl, List.getD_eq_getElem?_getD, List.getElem?_eq_none h1]; simp; omega
theorem mul3 {a x : Int} (ha : 0 ≤ a ∧ a ≤ 3) (hx : -8 ≤ x ∧ x ≤ 8) : -24 ≤ a * x ∧ a * x ≤ 24 := by
  rcases (show a = 0 ∨ a = 1 ∨ a = 2 ∨ a = 3 by omega) with rfl | rfl | rfl | rfl <;> omega
theorem mixOk2 {s : Str} {l m : List Int} {a b : Int} (hl : lOk s l = true) (hm : lOk s m = true) (bl : ∀ x, x ∈ l → -8 ≤ x ∧ x ≤ 8) (bm : ∀ x, x ∈ m → -8 ≤ x ∧ x ≤ 8) (ha : 0 ≤ a ∧ a ≤ 3) (hb : 0 ≤ b ∧ b ≤ 3) : mixOk s [l, m] [a, b] = true := by
  have hl' := hl
  have hm' := hm
  unfold lOk at hl hm
  rw [Bool.and_eq_true] at hl hm
  unfold mixOk
  simp only [Bool.and_eq_true, decide_eq_true_eq]
  refine ⟨⟨⟨⟨rfl, by simp⟩, hl.1⟩, fun c hc => ?_⟩, ?_⟩
  · have : c = 0 ∨ c = 1 := by simp at hc; omega
    rcases this with rfl | rfl
    · unfold cOk; simp [lat]; exact ⟨hl.2, by omega⟩
    · unfold cOk; simp [lat]; exact ⟨hm.2, by omega⟩
  · unfold fitsL
    rw [Bool.and_eq_true]
    refine ⟨by simp, List.all_eq_true.2 fun x hx => ?_⟩
    obtain ⟨i, hi, rfl⟩ := List.getElem_of_mem hx
    have hi' : i < (mixL (2 * s.js.length) [l, m] [a, b] 2).length := hi
    have h2 := mix2 (2 * s.js.length) l m a b i (by simpa using hi)
    rw [show lat _ i = (mixL (2 * s.js.length) [l, m] [a, b] 2).getD i 0 from rfl, getD_at _ _ _ hi'] at h2
    show forceOk ((mixL (2 * s.js.length) [l, m] [a, b] 2)[i]) = true
    rw [h2]
    have h3 := mul3 ha (lat_in (by omega) bl i)
    have h4 := mul3 hb (lat_in (by omega) bm i)
    simp [forceOk]; omega
theorem sumX_put {l : List Int} {j x y : Int} (hj : 0 ≤ j) (hlen : 2 * j.toNat + 1 < l.length) : ∀ n, sumX (put2 l j x y) n = sumX l n + if j.toNat < n then x else 0
  | 0 => by simp [sumX]
  | n + 1 => by
    rw [sumX, sumX, sumX_put hj hlen n]
    have : lat (put2 l j x y) (2 * n) = lat l (2 * n) + if n = j.toNat then x else 0 := by
      unfold put2 put1 lat
      rw [List.getD_eq_getElem?_getD, List.getElem?_set_ne (by omega)]
      by_cases e : n = j.toNat
      · rw [e, List.getElem?_set_self (by omega)]; simp
      · rw [List.getElem?_set_ne (by omega), if_neg e, List.getD_eq_getElem?_getD]; simp
    rw [this]
    by_cases e : n = j.toNat
    · simp [e]; omega
    · by_cases e2 : j.toNat < n
      · simp [e, e2]; rw [if_pos (by omega)]; omega
      · simp [e, e2]; rw [if_neg (by omega)]; omega
theorem sz_of {s : Str} (h : sOk s = true) : s.sz := by
  have hs := sOk_of h
  have h1 := hs.nj
  have h2 := hs.nm
  refine ⟨by omega, by omega, fun j hj => ?_⟩
  unfold sOk at h
  simp only [Bool.and_eq_true, decide_eq_true_eq] at h
  obtain ⟨i, hi, rfl⟩ := List.getElem_of_mem hj
  have := (h.1.2 i hi).1
  unfold J.ok isName at this
  simp only [Bool.and_eq_true, decide_eq_true_eq] at this
  omega
theorem bv_of_co {cs : List V} (h : CO Try.prog 22 cs) : ∃ ns : List Int, cs = [.sl (bv ns)] ∧ ns.length ≤ 140737488351232 ∧ ∀ n, n ∈ ns → 0 ≤ n ∧ n < 256 := by
  obtain ⟨xs, rfl, hx, hl⟩ := co_slice Try.underlying22 h
  rw [show Try.prog.bytesOf 5 = 1 by kernel_rfl] at hl
  have : ∃ ns : List Int, xs = bv ns ∧ ∀ n, n ∈ ns → 0 ≤ n ∧ n < 256 := by
    clear hl h
    induction xs with
    | nil => exact ⟨[], rfl, fun n hn => by cases hn⟩
    | cons x xs ih =>
      obtain ⟨ns, rfl, hns⟩ := ih fun y hy => hx y (List.mem_cons_of_mem _ hy)
      obtain ⟨n, rfl, hn⟩ := co_int Try.underlying5 (hx x List.mem_cons_self)
      refine ⟨n :: ns, rfl, fun m hm => ?_⟩
      rcases List.mem_cons.1 hm with rfl | hm
      · have := wf_u8 hn; omega
      · exact hns m hm
  obtain ⟨ns, rfl, hns⟩ := this
  exact ⟨ns, rfl, by simp at hl; omega, hns⟩
end Go.Proofs.Ytmbcofnnibpbeaa.Vm

namespace Go.Proofs.Ytmbcofnnibpbeaa.Vm
open Go Go.Proofs
set_option linter.unusedSimpArgs false
set_option linter.unusedVariables false

theorem mul600 {a x : Int} (B : Int) (hB : 0 ≤ B) (ha : 0 ≤ a ∧ a ≤ 3) (hx : -B ≤ x ∧ x ≤ B) : -(3 * B) ≤ a * x ∧ a * x ≤ 3 * B := by
  rcases (show a = 0 ∨ a = 1 ∨ a = 2 ∨ a = 3 by omega) with rfl | rfl | rfl | rfl <;> omega
/-- Reading operations, with guarded calls among them. -/
def HSeq (P : Program) (ops : Array Oper) (blK : Int → Option Blk) (last : List Nat) (K : St → Prop) : List (List Nat × Nat) → St → Prop
  | [] => HoistF P (ops.toList.map (·.dst)) blK (last.filterMap fun i => ops[i]?) K
  | (is, i) :: r => HoistF P (ops.toList.map (·.dst)) blK (is.filterMap fun i => ops[i]?) (HStep P ops blK i (HSeq P ops blK last K r))
def hIdx (last : List Nat) : List (List Nat × Nat) → List Nat
  | [] => last
  | (is, i) :: r => is ++ i :: hIdx last r
theorem HSeq_sound {P : Program} {ops : Array Oper} {blK : Int → Option Blk} {K : St → Prop} (last : List Nat) : ∀ (ps : List (List Nat × Nat)) (σ : St), (hIdx last ps).all (fun i => decide (i < ops.size)) = true → HSeq P ops blK last K ps σ → Hoist P ops blK (hIdx last ps) K σ
  | [], σ, ha, h => Hoist_is _ last σ (filter_some last ha) h
  | (is, i) :: r, σ, ha, h => by
    have hall := List.all_eq_true.1 ha
    have f1 : is.all (fun i => decide (i < ops.size)) = true := List.all_eq_true.2 fun x hx => hall x (List.mem_append_left _ hx)
    have f2 : (hIdx last r).all (fun i => decide (i < ops.size)) = true := List.all_eq_true.2 fun x hx => hall x (List.mem_append_right _ (List.mem_cons_of_mem _ hx))
    refine Hoist_append is (i :: hIdx last r) σ (Hoist_is _ is σ (filter_some is f1) ?_)
    refine HoistF_mono (fun σ' h' => ?_) _ _ h
    unfold HStep at h'
    unfold Hoist
    split at h'
    · rename_i o ho
      obtain ⟨v, h1, h2⟩ := h'
      rw [ho]
      exact ⟨v, h1, HSeq_sound last r _ f2 h2⟩
    · exact h'.elim
theorem AW_quietC {P : Program} {id : Nat} {ops : Array Oper} {K : Ex → St → Prop} {σ : St} (hm : P.follows .mixedOrders = true) (ps : List (List Nat × Nat)) (last : List Nat)
    (hB : (quietB ops && decide (hIdx last ps = List.range ops.size)) = true) (h : HSeq P ops σ.bl last (K .normal) ps σ) : AW P (.region id ops true) K σ := by
  rw [Bool.and_eq_true, decide_eq_true_eq] at hB
  obtain ⟨hB, he⟩ := hB
  simp only [quietB, Bool.and_eq_true, List.isEmpty_iff] at hB
  refine AW_draw_quiet hm hB.1 hB.2 ?_
  rw [← he]
  exact HSeq_sound last ps σ (by rw [he]; exact List.all_eq_true.2 fun x hx => by simpa using hx) h
theorem law_Mixed_ro (bs : List Int) (hn : bs.length ≤ 140737488351232) (hbs : ∀ x, x ∈ bs → 0 ≤ x ∧ x < 256) : RO Try.prog 3 [.sl (bv bs)] (.bool true) := by
  refine ro_of2 Try.func3 rfl rfl (by rw [Try.ntmps3]; simp) fun bl => ?_
  rw [Try.ntmps3, Try.results3]
  refine AW_runA ?_
  simp
  refine AW_runA ?_
  simp
  refine ⟨fun h => ?_, fun h => ?_⟩
  · exact retRO0 (by simp) rfl rfl
  refine AW_runA ?_
  simp
  refine MakeCase_cp bs (by omega) hbs fun s l b1 ql q3 bl1 hb1 => ?_
  simp [Str.c]
  intro gs hgs0 hgs
  have hgs' : bl gs = none := fresh_of hb1 hgs
  have qs : sOk s = true := by unfold lOk at ql; rw [Bool.and_eq_true] at ql; exact ql.1
  have hsz := sz_of qs
  have hl0 := lOk_of ql
  have hl := hl0.n
  have hnj := (sOk_of qs).nj
  refine AW_frzAt 1 3 (.ptr s.c) bl (hb1.upd hgs' _) (by simp [frz, dropB, hgs', Str.c, V.cl]) ?_
  refine AW_runA ?_
  simp [Str.c]
  refine MakeLoad_cp bs 40 s qs (by omega) (by omega) hbs (by omega) fun m b2 qm bm hb2 => ?_
  have hm0 := lOk_of qm
  have hm := hm0.n
  simp
  refine AW_runA ?_
  simp
  refine MakeNum_cp bs 50 (by omega) hbs (by omega) fun na b3 hna hb3 => ?_
  obtain ⟨a, ea⟩ : ∃ a, na.tmod 4 = a := ⟨_, rfl⟩
  have ha : 0 ≤ a ∧ a ≤ 3 := by
    rw [← ea, Int.tmod_eq_emod_of_nonneg hna.1]; omega
  simp [ea]
  refine AW_runA ?_
  simp
  refine MakeNum_cp bs 52 (by omega) hbs (by omega) fun nb b4 hnb hb4 => ?_
  obtain ⟨b, eb⟩ : ∃ b, nb.tmod 4 = b := ⟨_, rfl⟩
  have hb : 0 ≤ b ∧ b ≤ 3 := by
    rw [← eb, Int.tmod_eq_emod_of_nonneg hnb.1]; omega
  simp [eb]
  refine AW_at [(2, .bool false), (3, .ptr s.c), (4, .sl (iv l)), (5, .sl (iv m)), (6, .int .i64 a), (7, .int .i64 b)] 134 bl ⟨rfl, by simp [Str.c], fun x y hy => hb4 x y (hb3 x y (hb2 x y hy))⟩ ?_
  clear hb1 hb2 hb3 hb4
  have hmo := mixOk2 ql qm bl1 bm ha hb
  have hx : mixR s [l, m] [a, b] = mixL (2 * s.js.length) [l, m] [a, b] 2 := by unfold mixR; rw [hmo, if_pos rfl]; rfl
  obtain ⟨x, ex⟩ : ∃ x, mixL (2 * s.js.length) [l, m] [a, b] 2 = x := ⟨_, rfl⟩
  rw [ex] at hx
  have hMix := impl_MixLoads_nw s [l, m] [a, b] hsz (by simp) (fun w hw => by simp at hw; rcases hw with rfl | rfl <;> omega) (by simp)
  rw [hx, hmo] at hMix
  have hxl : x.length = 2 * s.js.length := by rw [← ex]; simp
  have qx : lOk s x = true := by
    unfold mixOk at hmo; rw [Bool.and_eq_true] at hmo
    have h5 := hmo.2
    unfold lOk; rw [qs, ← ex]; exact h5
  have hNo := impl_NoLoad_ro s hsz
  have hNl : (noLoad s).length = l.length := by unfold noLoad; rw [qs, if_pos rfl]; simp; omega
  have hT1 := impl_TotalOf_ro s l hsz (by omega)
  have hT2 := impl_TotalOf_ro s m hsz (by omega)
  have hT3 := impl_TotalOf_ro s x hsz (by omega)
  have hM1 := impl_MomentOf_ro s l 1 2 hsz (by omega)
  have hM2 := impl_MomentOf_ro s m 1 2 hsz (by omega)
  have hM3 := impl_MomentOf_ro s x 1 2 hsz (by omega)
  have hPt := impl_PutLoad_ro s l 2 1 (-1) hsz (by omega) (by omega) (by omega)
  have hpo : putOk s l 2 1 (-1) = true := by
    have h1 := lat_in (by omega) bl1 4
    have h2 := lat_in (by omega) bl1 5
    unfold putOk
    simp [ql, forceOk]
    omega
  have hpx : totX s (putL s l 2 1 (-1)) = totX s l + 1 := by
    have e1 : putL s l 2 1 (-1) = put2 l 2 1 (-1) := by unfold putL; rw [hpo, if_pos rfl]
    have q : lOk s (put2 l 2 1 (-1)) = true := by
      unfold lOk; rw [qs, Bool.true_and]
      unfold fitsL
      rw [Bool.and_eq_true]
      refine ⟨by simp [put2, put1]; omega, List.all_eq_true.2 fun z hz => ?_⟩
      have h1 := lat_in (by omega) bl1 4
      have h2 := lat_in (by omega) bl1 5
      unfold put2 put1 at hz
      rcases List.mem_or_eq_of_mem_set hz with hz | hz
      · rcases List.mem_or_eq_of_mem_set hz with hz | hz
        · have := bl1 z hz
          simp [forceOk]; omega
        · rw [hz]; simp [forceOk]; omega
      · rw [hz]; simp [forceOk]; omega
    rw [e1]
    unfold totX
    rw [q, ql, if_pos rfl, if_pos rfl, sumX_put (by omega) (by simp; omega), if_pos (by simp; omega)]
  have hX : totX s x = a * totX s l + b * totX s m := by
    unfold totX; rw [qx, ql, qm]; simp only [if_true]; rw [← ex]; exact sumX_mix _ l m a b _ (by omega)
  have hY : totY s x = a * totY s l + b * totY s m := by
    unfold totY; rw [qx, ql, qm]; simp only [if_true]; rw [← ex]; exact sumY_mix _ l m a b _ (by omega)
  have hM : momOf s x 1 2 = a * momOf s l 1 2 + b * momOf s m 1 2 := by
    have e : ∀ w, lOk s w = true → momOf s w 1 2 = momTo s w 1 2 s.js.length := fun w hw => by unfold momOf momOk; rw [hw]; simp
    rw [e x qx, e l ql, e m qm, ← ex]; exact mom_mix s 1 2 _ l m a b _ (by omega)
  have cX : ∀ w, lOk s w = true → -600 ≤ totX s w ∧ totX s w ≤ 600 := fun w hw => by
    have := sumX_le (lOk_of hw) s.js.length (Nat.le_refl _)
    unfold totX; rw [hw, if_pos rfl]; omega
  have cY : ∀ w, lOk s w = true → -600 ≤ totY s w ∧ totY s w ≤ 600 := fun w hw => by
    have := sumY_le (lOk_of hw) s.js.length (Nat.le_refl _)
    unfold totY; rw [hw, if_pos rfl]; omega
  have cM : ∀ w, lOk s w = true → -1260000 ≤ momOf s w 1 2 ∧ momOf s w 1 2 ≤ 1260000 := fun w hw => by
    have := mom_le (lOk_of hw) (x := 1) (y := 2) (by omega) (by omega) s.js.length (Nat.le_refl _)
    have e : momOf s w 1 2 = momTo s w 1 2 s.js.length := by unfold momOf momOk; rw [hw]; simp
    rw [e]; omega
  have t1 := cX l ql
  have t2 := cX m qm
  have t3 := cX x qx
  have u1 := cY l ql
  have u2 := cY m qm
  have u3 := cY x qx
  have v1 := cM l ql
  have v2 := cM m qm
  have v3 := cM x qx
  have hT4 := impl_TotalOf_ro s (putL s l 2 1 (-1)) hsz (by unfold putL put2 put1; split <;> simp <;> omega)
  rw [hpx] at hT4
  rw [hpo] at hPt
  generalize putL s l 2 1 (-1) = y at *
  generalize totY s y = ty4 at *
  generalize totX s l = xl at *
  generalize totX s m = xm at *
  generalize totX s x = xx at *
  generalize totY s l = yl at *
  generalize totY s m = ym at *
  generalize totY s x = yx at *
  generalize momOf s l 1 2 = ml at *
  generalize momOf s m 1 2 = mm at *
  generalize momOf s x 1 2 = mx at *
  have p1 := mul600 600 (by omega) ha t1
  have p2 := mul600 600 (by omega) hb t2
  have p3 := mul600 600 (by omega) ha u1
  have p4 := mul600 600 (by omega) hb u2
  have p5 := mul600 1260000 (by omega) ha v1
  have p6 := mul600 1260000 (by omega) hb v2
  have w1 : IntKind.i64.wrap (a * xl) = a * xl := i64_in (by omega) (by omega)
  have w2 : IntKind.i64.wrap (b * xm) = b * xm := i64_in (by omega) (by omega)
  have w3 : IntKind.i64.wrap (a * xl + b * xm) = xx := by rw [hX]; exact i64_in (by omega) (by omega)
  have w4 : IntKind.i64.wrap (a * yl) = a * yl := i64_in (by omega) (by omega)
  have w5 : IntKind.i64.wrap (b * ym) = b * ym := i64_in (by omega) (by omega)
  have w6 : IntKind.i64.wrap (a * yl + b * ym) = yx := by rw [hY]; exact i64_in (by omega) (by omega)
  have w7 : IntKind.i64.wrap (a * ml) = a * ml := i64_in (by omega) (by omega)
  have w8 : IntKind.i64.wrap (b * mm) = b * mm := i64_in (by omega) (by omega)
  have w9 : IntKind.i64.wrap (a * ml + b * mm) = mx := by rw [hM]; exact i64_in (by omega) (by omega)
  have w10 : IntKind.i64.wrap (xl + 1) = xl + 1 := i64_in (by omega) (by omega)
  refine AW_runA ?_
  simp [Str.c, show List.range 2 = [0, 1] from rfl]
  intro g1 hg1 hb1 g2 hg2 n21 hb2
  refine callP_lend 1 (ys := [.agg s.c, .sl (ivv [l, m]), .sl (iv [a, b])]) (by simp [frz, ivv, iv, Str.c, V.cl, Int.not_lt.2 hg1, Int.not_lt.2 hg2, n21, Ne.symm n21]) hMix (dOpt_sc _ _) fun v gs5 b5 o5 f5 fr5 => ?_
  obtain ⟨u, rfl, ou⟩ := own_opt.1 o5
  obtain ⟨c1, c2⟩ := ou.one
  have hs5 : Sub bl b5 := fun z q hz => by
    have z1 : z ≠ g1 := fun e => by rw [e, hb1] at hz; cases hz
    have z2 : z ≠ g2 := fun e => by rw [e, hb2] at hz; cases hz
    exact new_keep f5 fr5 (by simp [upd_apply, z1, z2, hz])
  have hfu : frz (dropB b5 bl) 1 u = some (.sl (iv x)) := by
    rcases own_iv.1 ou with ⟨h1, rfl, _⟩ | ⟨gu, rfl, rfl, h2, h3⟩
    · rw [h1]; rfl
    · have hu : bl gu = none := by
        have := f5 gu (by simp)
        simp only [upd_apply] at this
        split at this
        · cases this
        · split at this
          · cases this
          · exact this
      have hp : 0 ≤ gu := by
        rcases Int.lt_or_le gu 0 with h | h
        · have e := h3 h
          rw [e] at hxl; simp at hxl; omega
        · exact h
      exact frz_slice (sz := 1) (n := x.length) hp hu (els := iv x) h2 (by simp) (iv_cl x)
  simp [c1, c2]
  refine AW_frzAt 1 8 (.sl (iv x)) bl hs5 (by simpa using hfu) ?_
  refine AW_at [(2, .bool false), (3, .ptr s.c), (4, .sl (iv l)), (5, .sl (iv m)), (6, .int .i64 a), (7, .int .i64 b), (8, .sl (iv x)), (9, .bool true)] 134 bl ⟨rfl, by simp [Str.c], Sub.refl _⟩ ?_
  refine AW_runA ?_
  simp
  refine AW_way0 [(2, .bool false), (3, .ptr s.c), (4, .sl (iv l)), (5, .sl (iv m)), (6, .int .i64 a), (7, .int .i64 b), (8, .sl (iv x)), (9, .bool true)] _ bl 57 (.bool false) ⟨rfl, by simp, Sub.refl _⟩ rfl ?_ ?_
  · simp [Str.c]
    refine callP_ro hNo ?_
    simp [hNl]
  simp
  refine AW_run ?_
  simp [Str.c]
  refine callP_ro hT1 ?_
  simp
  refine callP_ro hT2 ?_
  simp
  refine callP_ro hT3 ?_
  simp
  refine callP_ro hPt ?_
  simp
  refine callP_ro hT4 ?_
  simp
  refine AW_quietC mixedO [([0, 1, 2, 3, 4, 5, 6, 7, 8, 9, 10, 11, 12, 13, 14, 15, 16, 17, 18, 19, 20, 21, 22], 23), ([24, 25, 26], 27), ([28, 29, 30, 31], 32)] [33, 34, 35, 36, 37, 38, 39, 40, 41, 42, 43, 44, 45, 46] (by kernel_rfl) ?_
  simp only [HSeq]
  simp [w1, w2, w3, w4, w5, w6, w10, Str.c]
  refine HStep_call rfl rfl rfl rfl (by simp) rfl hM3 ?_
  simp [w1, w2, w3, w4, w5, w6, w10, Str.c]
  refine HStep_call rfl rfl rfl rfl (by simp) rfl hM1 ?_
  simp [w7, Str.c]
  refine HStep_call rfl rfl rfl rfl (by simp) rfl hM2 ?_
  simp [w8, w9, w10, Str.c]
  exact retRO [.bool true] 0 (by simp) (by simp [frz]) (Sub.refl _)
end Go.Proofs.Ytmbcofnnibpbeaa.Vm

namespace Go.Proofs.Ytmbcofnnibpbeaa.lawMixed
open Go Go.RowKit Go.ChangeShapes Go.WideShapes Vm
theorem body (xs : List V) (h : ArgsOk Try.prog Try.f3.params.toList xs) : RO Try.prog 3 xs (.bool true) := by
  rw [Try.params3] at h
  obtain ⟨c0, ys, rfl, h0, h⟩ := args_cons h
  obtain rfl := args_nil h
  obtain ⟨b0, rfl, y0, z0⟩ := bv_of_co h0
  rw [toV_slice Try.underlying22]
  exact law_Mixed_ro b0 y0 z0
set_option maxRecDepth 100000 in
theorem lifted (os : Os) (started : os.Started) (H : Type) (enc : TypeId × Value → H) :
    ReturnsInHanded {} Try.checked os 3 .any (Rows.fnMixedSpec.pre6 enc Try.prog Try.f3 Rows.fnMixedRow.domain false) (Rows.fnMixedSpec.post enc Try.prog Try.f3 false true false false) := by
  refine returnsInHanded_of_change_sized (C := Try.checked) own started (by kernel_rfl) Try.func3
    (ChangeSpec.witness6 (enc := enc) (C := Try.checked) false ⟨#[], #[.slice none 0 0], []⟩ 8 (by kernel_rfl) (by kernel_rfl) (by kernel_rfl) (by kernel_rfl)) ?_
  intro W base args ds gs before hval hW hcnd hsz _
  refine law_calls (tb := 4) rfl rfl Try.underlying4 laidOut (by kernel_rfl) (fun ds hds => ?_) body W base args ds gs before hval hW hsz
  rw [Try.params3] at hds
  first
    | (match ds, hds with | [a], _ => rfl)
    | (match ds, hds with | [a, b], _ => rfl)
    | (match ds, hds with | [a, b, c], _ => rfl)
    | (match ds, hds with | [a, b, c, d], _ => rfl)
    | (match ds, hds with | [a, b, c, d, e], _ => rfl)
    | (match ds, hds with | [a, b, c, d, e, f], _ => rfl)
theorem over : Rows.fnMixedRow.holds Try.pinned (OpenSpec.ofChange Rows.fnMixedSpec) :=
  OpenClaim.holds_of_wide 3 Try.f3 rfl rfl rfl rfl rfl rfl rfl ⟨rfl, rfl, rfl, rfl, rfl⟩ rfl rfl rfl rfl rfl (by kernel_rfl) Try.func3 (facts (by kernel_rfl))
    (of_decide_eq_true (by kernel_rfl)) (by unfold Func.isWrapper; first | (rw [if_pos (by decide +kernel)]; kernel_rfl) | (rw [if_neg (by decide +kernel)]; exact ⟨rfl, rfl⟩))
    (fun os started H enc _ => lifted os started H enc)
theorem proved : Rows.FnMixedSaid := over
#print axioms proved
end Go.Proofs.Ytmbcofnnibpbeaa.lawMixed
