/- Reactions. -/

import Derived.Test.YthhjmaianlmfpaaGreatQCFnExactDensitiesFrom7

namespace Go.Proofs.YthhjmaianlmfpaaGreat.Vm
open Go Go.Proofs
set_option linter.unusedSimpArgs false
set_option linter.unusedVariables false

theorem neg_ro (x : Option Rat) : RO Tryz.prog 79 [fv x] (fv (x.map (- ·))) := by
  cases x with
  | none =>
    refine ro_of2 Tryz.func79 rfl rfl (by rw [Tryz.ntmps79]; simp) fun bl => ?_
    rw [Tryz.ntmps79, Tryz.results79]
    refine AW_run ?_
    simp [fv]
    exact retRO0 (by simp) rfl rfl
  | some q =>
    have hop := opposite_ro q.num
    rw [biC_def, biC_def, Int.natAbs_neg] at hop
    refine ro_of2 Tryz.func79 rfl rfl (by rw [Tryz.ntmps79]; simp) fun bl => ?_
    rw [Tryz.ntmps79, Tryz.results79]
    refine AW_run ?_
    rw [show fv (some q) = .ptr (rq q).c from rfl, rqc_def, show fv ((some q).map (- ·)) = .ptr [.bool (decide (-q.num < 0)), .sl (iv (lim q.num.natAbs)), .sl (iv (lim q.den))] by
      show V.ptr (rq (-q)).c = _
      rw [rqc_def]
      show V.ptr [.bool (decide (-q.num < 0)), .sl (iv (lim (-q.num).natAbs)), .sl (iv (lim q.den))] = _
      rw [Int.natAbs_neg]]
    simp
    refine AW_mixedB mixedO bl (Sub.refl _) [0, 1, 2, 3, 4, 5, 6, 7, 8] 3 (by kernel_rfl) ?_
    simp
    refine hcQ_ro hop ?_
    simp
    refine DAny_one (i := 9) (by kernel_rfl) rfl rfl ?_
    simp
    refine DAny_one (i := 10) (by kernel_rfl) rfl rfl ?_
    simp
    intro g hg0 hg
    refine ⟨by simp [hg], DAny_one (i := 11) (by kernel_rfl) rfl rfl ?_⟩
    simp
    refine ⟨by simp [hg], DAny_done (by kernel_rfl) ?_⟩
    simp
    refine retRO [.loc g 3 0 0] 1 (by simp) ?_ (by simp [hg])
    show frz _ 1 (.loc g 3 0 0) = _
    rw [frz_loc0 (e := [.bool (decide (0 < q.num)), .sl (iv (lim q.num.natAbs)), .sl (iv (lim q.den))]) (by simp [dropB, hg])]
    rfl

def reOk (s : Str) (l : List Int) (q : List RT) (j : Int) : Bool := (fitsQ s q && fitsL s.js l) && ((decide (0 ≤ j) && decide (j < s.js.length)) && (s.js.getD j.toNat default).fixed)
def reQs (s : Str) (l : List Int) (q : List RT) (j : Int) : List (Option Rat) := if reOk s l q j = true then [(fX s l (rdAll q) j.toNat).map (- ·), (fY s l (rdAll q) j.toNat).map (- ·)] else [none]
theorem reQs_ok (s : Str) (l : List Int) (q : List RT) (j : Int) : okL (reQs s l q j) ∧ (reQs s l q j).length ≤ 24 := by
  unfold reQs; split
  · refine ⟨fun x hx => ?_, by simp⟩
    rcases List.mem_cons.1 hx with rfl | hx
    · exact okQ_neg (fX_ok _ _ _ _)
    · obtain rfl : x = _ := by simpa using hx
      exact okQ_neg (fY_ok _ _ _ _)
  · exact ⟨okL_none, by simp⟩
theorem impl_ReactionAt_nw (s : Str) (l : List Int) (q : List RT) (j : Int) (hj : s.js.length ≤ 140737488351232) (hm : s.ms.length ≤ 140737488351232) (hn : ∀ j, j ∈ s.js → j.name.size ≤ 140737488351232) (hl : l.length ≤ 140737488351232) (hq : fitQ q 1048576) : NW Tryz.prog 29 [.agg s.c, .sl (iv l), .sl (rv q), .int .i64 j] (dV (stQ (reQs s l q j)) (allSome (reQs s l q j))) := by
  refine nw_of Tryz.func29 rfl rfl (by rw [Tryz.ntmps29]; simp) fun bl => ?_
  rw [Tryz.ntmps29, Tryz.results29]
  refine AW_runA ?_
  simp [Str.c]
  intro g hg0 hg
  refine AW_frzAt 1 4 (.ptr s.c) bl (by simp [hg]) (by simp [frz, dropB, hg, Str.c, V.cl]) ?_
  refine AW_run ?_
  simp
  refine callP_ro (densities_ro s q hj hm hn hq) ?_
  simp
  refine AW_way0 [(1, .sl (iv l)), (3, .int .i64 j), (4, .ptr s.c), (8, .nils), (9, .bool false), (10, .sl (fvs (if fitsQ s q = true then rdAll q else []))), (11, .bool (fitsQ s q))] _ bl 45 (.bool (!reOk s l q j)) ⟨rfl, by simp, Sub.refl _⟩ rfl ?_ ?_
  · cases hf : fitsQ s q
    · simp [reOk, hf]
    simp
    refine callP_ro (fitsLoad_ro s l hj hl) ?_
    cases h1 : fitsL s.js l
    · simp [reOk, hf, h1]
    by_cases h2 : j < 0
    · have h3 : ¬ 0 ≤ j := by omega
      simp [reOk, hf, h1, h2, h3]
    have h3 : 0 ≤ j := by omega
    by_cases h4 : j < s.js.length
    · have h5 : ¬ (s.js.length : Int) ≤ j := by omega
      have h6 : j.toNat < s.js.length := by omega
      simp [reOk, hf, h1, h2, h3, h4, h5, h6, Str.c, J.c]
    · have h5 : (s.js.length : Int) ≤ j := by omega
      simp [reOk, hf, h1, h2, h3, h4, h5, Str.c]
  cases hp : reOk s l q j
  · have hz : reQs s l q j = [none] := by unfold reQs; rw [hp]; rfl
    rw [hz]
    simp
    exact retNW [.nils, .bool false] [] (by simp) (own_dV0 _) (by simp) (Sub.refl _)
  have hz : reQs s l q j = [(fX s l (rdAll q) j.toNat).map (- ·), (fY s l (rdAll q) j.toNat).map (- ·)] := by unfold reQs; rw [hp]; rfl
  unfold reOk at hp
  simp only [Bool.and_eq_true, decide_eq_true_eq] at hp
  obtain ⟨⟨hf, hfl⟩, ⟨h0, h1⟩, hfix⟩ := hp
  obtain ⟨i, rfl⟩ : ∃ i : Nat, j = i := ⟨j.toNat, by omega⟩
  have hi : i < s.js.length := by omega
  obtain ⟨hs, hlen, hall⟩ := fitsQ_of hf
  obtain ⟨hll, hlb⟩ := fitsL_lN hfl
  have hnj := hs.nj
  obtain ⟨hzo, _⟩ := reQs_ok s l q i
  rw [hz] at hzo
  simp only [Int.toNat_natCast] at hz hzo
  rw [hz, hf]
  have b1 := hlb (2 * i) (by omega)
  have b2 := hlb (2 * i + 1) (by omega)
  have w1 : IntKind.i64.wrap (2 * (i : Int)) = 2 * i := i64_in (by omega) (by omega)
  have w2 : IntKind.i64.wrap (2 * (i : Int) + 1) = 2 * i + 1 := i64_in (by omega) (by omega)
  have p1 : 2 * i < l.length := by omega
  have p2 : 2 * i + 1 < l.length := by omega
  have p3 : 2 * (i : Int) < l.length := by omega
  have p4 : 2 * (i : Int) + 1 < l.length := by omega
  have p5 : 0 ≤ 2 * (i : Int) := by omega
  have p6 : 0 ≤ 2 * (i : Int) + 1 := by omega
  have p7 : (2 * (i : Int)).toNat = 2 * i := by omega
  have p8 : (2 * (i : Int) + 1).toNat = 2 * i + 1 := by omega
  have q1 := lN_at p1
  have q2 := lN_at p2
  have hWX := whole_ro (lN l (2 * i)) (by omega)
  have hWY := whole_ro (lN l (2 * i + 1)) (by omega)
  have hAX := add_ro (pX s (rdAll q) i) (some (lN l (2 * i) : Rat)) (pTo_ok _ _ _ _ _) (okQ_int (by omega))
  have hAY := add_ro (pY s (rdAll q) i) (some (lN l (2 * i + 1) : Rat)) (pTo_ok _ _ _ _ _) (okQ_int (by omega))
  change RO Tryz.prog _ _ (fv (fX s l (rdAll q) i)) at hAX
  change RO Tryz.prog _ _ (fv (fY s l (rdAll q) i)) at hAY
  rw [q1] at hWX hAX
  rw [q2] at hWY hAY
  have hNX := neg_ro (fX s l (rdAll q) i)
  have hNY := neg_ro (fY s l (rdAll q) i)
  simp
  refine callP_ro (pull_ro s (rdAll q) i hs (rdAll_ok q) (by simpa using hlen)) ?_
  generalize (fX s l (rdAll q) i).map (- ·) = nx at *
  generalize (fY s l (rdAll q) i).map (- ·) = ny at *
  simp
  refine AW_mixedB mixedO bl (Sub.refl _) [0, 1, 2, 3, 4, 5, 6, 7, 8, 9, 10, 11, 12, 13, 14, 15, 16, 17, 18] 6 (by kernel_rfl) ?_
  simp [w1, w2, p1, p2, p3, p4, p5, p6, p7, p8]
  refine hcQ_ro hWX ?_
  simp
  refine hcQ_ro hAX ?_
  simp
  refine hcQ_ro hNX ?_
  simp [w1, w2, p1, p2, p3, p4, p5, p6, p7, p8]
  refine hcQ_ro hWY ?_
  simp
  refine hcQ_ro hAY ?_
  simp
  refine hcQ_ro hNY ?_
  simp
  refine DAny_one (i := 19) (by kernel_rfl) rfl rfl ?_
  simp [show List.range 2 = [0, 1] from rfl]
  intro g2 hg2 hb2
  refine ⟨by simp [hb2], DAny_one (i := 20) (by kernel_rfl) rfl rfl ?_⟩
  simp
  refine callP_lend 1 (ys := [.sl (fvs [nx, ny])]) (by simp [frz, fvs, Int.not_lt.2 hg2]) (stores_nw [nx, ny] hzo (by simp)) (dV_sc _ _) fun v gs b' o f fr => ?_
  obtain ⟨w, rfl, ow, w1', w2'⟩ := own_dV o
  have hs1 : Sub bl b' := fun x y hy => new_keep f fr (by rw [upd_apply, if_neg (fun e => by rw [e, hb2] at hy; cases hy)]; exact hy)
  have fin : ∀ σ : St, σ.n = 75 → σ.sl 8 = w → σ.sl 9 = .bool (allSome [nx, ny]) → σ.bl = b' → retK Tryz.prog [ResultVar.tmp 8, ResultVar.tmp 9] (MadeK bl (dV (stQ [nx, ny]) (allSome [nx, ny]))) .ret σ := fun σ e0 e1 e2 e3 => by
    refine retNW [w, .bool (allSome [nx, ny])] gs (by simp [e0, e1, e2]) (by rw [e3]; exact o) (fun x hx => by have := f x hx; simp [upd_apply] at this; exact this.2) (by rw [e3]; exact hs1)
  refine ⟨hs1, DAny_two (i := 21) (j := 22) (by kernel_rfl) rfl rfl rfl rfl ?_ ?_⟩
  · simp
    refine ⟨hs1, DAny_one (i := 22) (by kernel_rfl) rfl rfl ?_⟩
    simp
    refine ⟨hs1, DAny_one (i := 23) (by kernel_rfl) rfl rfl ?_⟩
    simp
    refine ⟨hs1, DAny_one (i := 24) (by kernel_rfl) rfl rfl ?_⟩
    simp
    refine ⟨hs1, DAny_done (by kernel_rfl) ?_⟩
    simp
    exact fin _ rfl (by simp) (by simp) rfl
  · simp
    refine ⟨hs1, DAny_one (i := 21) (by kernel_rfl) rfl rfl ?_⟩
    simp
    refine ⟨hs1, DAny_one (i := 23) (by kernel_rfl) rfl rfl ?_⟩
    simp
    refine ⟨hs1, DAny_one (i := 24) (by kernel_rfl) rfl rfl ?_⟩
    simp
    refine ⟨hs1, DAny_done (by kernel_rfl) ?_⟩
    simp
    exact fin _ rfl (by simp) (by simp) rfl

theorem impl_ReactionAt_ro (s : Str) (l : List Int) (q : List RT) (j : Int) (hj : s.js.length ≤ 140737488351232) (hm : s.ms.length ≤ 140737488351232) (hn : ∀ j, j ∈ s.js → j.name.size ≤ 140737488351232) (hl : l.length ≤ 140737488351232) (hq : fitQ q 1048576) : RO Tryz.prog 29 [.agg s.c, .sl (iv l), .sl (rv q), .int .i64 j] (.tup [.sl (rv (stQ (reQs s l q j))), .bool (allSome (reQs s l q j))]) := by
  have := ro_of_nw 3 (impl_ReactionAt_nw s l q j hj hm hn hl hq) (dV_dep _ _ 0)
  rwa [dV_fz] at this
theorem spec_ReactionAt_ro (s : Str) (l : List Int) (q : List RT) (j : Int) (hj : s.js.length ≤ 140737488351232) (hm : s.ms.length ≤ 140737488351232) (hn : ∀ j, j ∈ s.js → j.name.size ≤ 140737488351232) (hl : l.length ≤ 140737488351232) (hq : fitQ q 1048576) : RO Tryz.prog 28 [.agg s.c, .sl (iv l), .sl (rv q), .int .i64 j] (.tup [.sl (rv (stQ (reQs s l q j))), .bool (allSome (reQs s l q j))]) := by
  refine ro_of2 Tryz.func28 rfl rfl (by rw [Tryz.ntmps28]; simp) fun bl => ?_
  rw [Tryz.ntmps28, Tryz.results28]
  refine AW_run ?_
  simp [Str.c]
  intro g hg0 hg
  refine AW_way [(1, .sl (iv l)), (2, .sl (rv q)), (3, .int .i64 j), (4, .loc g 2 0 0), (8, .nils), (9, .bool false)] _ (upd bl g (some ⟨2, [s.c]⟩)) 39 (.bool (!reOk s l q j)) (upd bl g (some ⟨2, [s.c]⟩)) ⟨rfl, by simp, sub_eq (by simp [Str.c])⟩ rfl ?_ ?_
  · simp [Str.c]
    refine callP_ro (spec_LoadOk_ro s l hj hm hn hl) ?_
    have hlo : lOk s l = (sOk s && fitsL s.js l) := rfl
    cases h1 : sOk s
    · simp [hlo, h1, fitsQ, reOk]
    cases h2 : fitsL s.js l
    · simp [hlo, h1, h2, reOk]
    simp [hlo, h1, h2, Str.c]
    refine callP_ro (l14Fits_ro s q hj hm hn hq) ?_
    cases h3 : fitsQ s q
    · simp [reOk, h3]
    simp [Str.c]
    rw [i64_in (by omega) (by omega)]
    refine callP_ro (l01In_ro _ _ _) ?_
    by_cases h4 : 0 ≤ j
    · by_cases h5 : j < s.js.length
      · have h6 : j ≤ (s.js.length : Int) - 1 := by omega
        have h7 : j.toNat < s.js.length := by omega
        simp [reOk, h2, h3, h4, h5, h6, h7, Str.c, J.c]
      · have h6 : ¬ j ≤ (s.js.length : Int) - 1 := by omega
        simp [reOk, h2, h3, h4, h5, h6]
    · simp [reOk, h2, h3, h4]
  cases hp : reOk s l q j
  · have hz : reQs s l q j = [none] := by unfold reQs; rw [hp]; rfl
    rw [hz]
    simp
    exact retRO [.nils, .bool false] 1 (by simp) (by simp [frz, V.cl, stQ, allSome, rv]) (by simp [hg])
  have hz : reQs s l q j = [(fX s l (rdAll q) j.toNat).map (- ·), (fY s l (rdAll q) j.toNat).map (- ·)] := by unfold reQs; rw [hp]; rfl
  unfold reOk at hp
  simp only [Bool.and_eq_true, decide_eq_true_eq] at hp
  obtain ⟨⟨hf, hfl⟩, ⟨h0, h1⟩, hfix⟩ := hp
  obtain ⟨i, rfl⟩ : ∃ i : Nat, j = i := ⟨j.toNat, by omega⟩
  have hi : i < s.js.length := by omega
  simp only [Int.toNat_natCast] at hz
  rw [hz]
  simp [Str.c]
  refine callP_ro (l14Force_ro s l q i hj hm hn hq hf hfl hi) ?_
  have okX := fX_ok s l (rdAll q) i
  have okY := fY_ok s l (rdAll q) i
  cases hfb : frcB s l q i
  · have hall : allSome [(fX s l (rdAll q) i).map (- ·), (fY s l (rdAll q) i).map (- ·)] = false := by
      unfold frcB allSome at hfb
      simp only [List.all_cons, List.all_nil, Bool.and_true] at hfb
      unfold allSome
      simp only [List.all_cons, List.all_nil, Bool.and_true, Option.isSome_map]
      exact hfb
    have hst : stQ [(fX s l (rdAll q) i).map (- ·), (fY s l (rdAll q) i).map (- ·)] = [] := by unfold stQ; rw [hall]; rfl
    rw [hall, hst]
    simp
    exact retRO [.nils, .bool false] 1 (by simp) (by simp [frz, V.cl, rv]) (by simp [hg])
  have ha : allSome [pX s (rdAll q) i, pY s (rdAll q) i] = true := by
    rcases h1 : allSome [pX s (rdAll q) i, pY s (rdAll q) i] with _ | _
    · rw [frcB_no h1] at hfb; cases hfb
    · rfl
  have eL : frcL s l q i = [ro (fX s l (rdAll q) i), ro (fY s l (rdAll q) i)] := by unfold frcL; rw [ha]; rfl
  have hall : allSome [(fX s l (rdAll q) i).map (- ·), (fY s l (rdAll q) i).map (- ·)] = true := by
    unfold frcB allSome at hfb
    simp only [List.all_cons, List.all_nil, Bool.and_true] at hfb
    unfold allSome
    simp only [List.all_cons, List.all_nil, Bool.and_true, Option.isSome_map]
    exact hfb
  have hst : stQ [(fX s l (rdAll q) i).map (- ·), (fY s l (rdAll q) i).map (- ·)] = [ro ((fX s l (rdAll q) i).map (- ·)), ro ((fY s l (rdAll q) i).map (- ·))] := by unfold stQ; rw [hall]; rfl
  have hNX := l04Neg_ro _ okX
  have hNY := l04Neg_ro _ okY
  rw [hall, hst, eL, rv_two, rv_two]
  generalize (fX s l (rdAll q) i).map (- ·) = nx at *
  generalize (fY s l (rdAll q) i).map (- ·) = ny at *
  simp
  refine AW_mixedB mixedO bl (by simp [hg]) [0, 1, 2, 3, 4, 5, 6, 7] 3 (by kernel_rfl) ?_
  simp [RT.c]
  refine hcQ_ro hNX ?_
  simp [RT.c]
  refine hcQ_ro hNY ?_
  simp [RT.c]
  refine DAny_one (i := 8) (by kernel_rfl) rfl rfl ?_
  simp [show List.range 2 = [0, 1] from rfl, RT.c]
  intro g4 hg4
  intros
  have h4g : ¬ g4 = g := by assumption
  have hb4 : bl g4 = none := by assumption
  have hs1 : ∀ X : Option Blk, Sub bl (upd (upd bl g (some ⟨2, [s.c]⟩)) g4 X) := fun X => by
    intro z b hz; simp only [upd_apply] at hz ⊢; grind
  simp only [Str.c] at hs1
  refine ⟨hs1 _, DAny_one (i := 9) (by kernel_rfl) rfl rfl ?_⟩
  simp
  refine ⟨hs1 _, DAny_one (i := 10) (by kernel_rfl) rfl rfl ?_⟩
  simp
  refine ⟨hs1 _, DAny_done (by kernel_rfl) ?_⟩
  simp
  refine retRO [.lsl g4 3 0 2, .bool true] 2 (by simp) (frz_tup2 (frz_slice (sz := 3) (n := 2) hg4 hb4 (els := [nx, ny].map fun x => (ro x).c) (by simp [RT.c]) (by simp) (by simp [RT.c, V.cl]))) (hs1 _)

end Go.Proofs.YthhjmaianlmfpaaGreat.Vm

namespace Go.Proofs.YthhjmaianlmfpaaGreat.Vm
open Go Go.Proofs
set_option linter.unusedSimpArgs false
set_option linter.unusedVariables false

/-- The number of free joints before joint i. -/
def idx (js : List J) (i : Nat) : Nat := (freesTo js i).length
def fxd (js : List J) (i : Nat) : Bool := (js.getD i default).fixed
theorem idx_get (js : List J) : ∀ n i, i < n → fxd js i = false → (freesTo js n)[idx js i]? = some (i : Int) := by
  intro n
  induction n with
  | zero => intro i h; omega
  | succ n ih =>
    intro i hi hf
    rw [freesTo_succ]
    by_cases h : i < n
    · have h1 := ih i h hf
      have hl : idx js i < (freesTo js n).length := by
        rcases Nat.lt_or_ge (idx js i) (freesTo js n).length with h2 | h2
        · exact h2
        · rw [List.getElem?_eq_none h2] at h1; cases h1
      rw [List.getElem?_append_left hl]; exact h1
    · obtain rfl : i = n := by omega
      unfold fxd at hf
      rw [hf, show idx js i = (freesTo js i).length from rfl, List.getElem?_append_right (Nat.le_refl _)]
      simp
theorem idx_of (js : List J) : ∀ n t, t < (freesTo js n).length → ∃ i, i < n ∧ fxd js i = false ∧ idx js i = t ∧ (freesTo js n)[t]? = some (i : Int) := by
  intro n
  induction n with
  | zero => intro t h; simp [freesTo] at h
  | succ n ih =>
    intro t ht
    by_cases h : t < (freesTo js n).length
    · obtain ⟨i, h1, h2, h3, h4⟩ := ih t h
      exact ⟨i, by omega, h2, h3, by rw [freesTo_succ, List.getElem?_append_left h]; exact h4⟩
    · rw [freesTo_succ] at ht ⊢
      cases hf : (js.getD n default).fixed
      · rw [hf] at ht
        rw [List.length_append] at ht
        simp at ht
        obtain rfl : t = (freesTo js n).length := by omega
        exact ⟨n, by omega, hf, rfl, by rw [List.getElem?_append_right (Nat.le_refl _)]; simp⟩
      · rw [hf] at ht
        simp at ht; omega
theorem idx_inj {js : List J} {i k : Nat} (hi : i < js.length) (hk : k < js.length) (fi : fxd js i = false) (fk : fxd js k = false) (h : idx js i = idx js k) : i = k := by
  have h1 := idx_get js js.length i hi fi
  have h2 := idx_get js js.length k hk fk
  rw [h] at h1
  rw [h1] at h2
  have := Option.some.inj h2
  omega
theorem idx_ltf {js : List J} {i : Nat} (hi : i < js.length) (fi : fxd js i = false) : idx js i < (frees js).length := by
  have h1 := idx_get js js.length i hi fi
  rcases Nat.lt_or_ge (idx js i) (frees js).length with h2 | h2
  · exact h2
  · rw [List.getElem?_eq_none (show (freesTo js js.length).length ≤ _ from h2)] at h1; cases h1
theorem frees_at (js : List J) (t : Nat) (h : t < (frees js).length) : ∃ i : Nat, (frees js)[t] = i ∧ i < js.length ∧ fxd js i = false ∧ idx js i = t := by
  obtain ⟨i, h1, h2, h3, h4⟩ := idx_of js js.length t h
  refine ⟨i, ?_, h1, h2, h3⟩
  have : (frees js)[t]? = some (i : Int) := h4
  rw [List.getElem?_eq_getElem h] at this
  exact Option.some.inj this

/-- The list of displacements after t free joints. -/
def dAt (js : List J) (d : List (Option Rat)) (t p : Nat) : Option Rat := if fxd js (p / 2) = true then some 0 else if idx js (p / 2) < t then d.getD (2 * idx js (p / 2) + p % 2) none else some 0
def dsp (js : List J) (d : List (Option Rat)) (t : Nat) : List (Option Rat) := (List.range (2 * js.length)).map (dAt js d t)
@[simp] theorem dsp_length (js : List J) (d : List (Option Rat)) (t : Nat) : (dsp js d t).length = 2 * js.length := by simp [dsp]
theorem dsp_get (js : List J) (d : List (Option Rat)) (t p : Nat) (h : p < (dsp js d t).length) : (dsp js d t)[p] = dAt js d t p := by simp [dsp]
theorem dAt_zero (js : List J) (d : List (Option Rat)) (p : Nat) : dAt js d 0 p = some 0 := by unfold dAt; split <;> simp
theorem dsp_step (js : List J) (d : List (Option Rat)) (t i : Nat) (hi : i < js.length) (hf : fxd js i = false) (ht : idx js i = t) : ((dsp js d t).set (2 * i) (d.getD (2 * t) none)).set (2 * i + 1) (d.getD (2 * t + 1) none) = dsp js d (t + 1) := by
  apply List.ext_getElem (by simp)
  intro p h1 h2
  have hp : p < 2 * js.length := by simpa using h2
  rw [List.getElem_set, List.getElem_set, dsp_get, dsp_get]
  by_cases e1 : 2 * i + 1 = p
  · subst e1
    rw [if_pos rfl]
    unfold dAt
    rw [show (2 * i + 1) / 2 = i by omega, show (2 * i + 1) % 2 = 1 by omega, hf, ht]
    simp
  rw [if_neg e1]
  by_cases e2 : 2 * i = p
  · subst e2
    rw [if_pos rfl]
    unfold dAt
    rw [show (2 * i) / 2 = i by omega, show (2 * i) % 2 = 0 by omega, hf, ht]
    simp
  rw [if_neg e2]
  unfold dAt
  cases hq : fxd js (p / 2)
  · have hne : idx js (p / 2) ≠ t := fun h => by
      have := idx_inj (i := p / 2) (k := i) (by omega) hi hq hf (by rw [h, ht])
      omega
    by_cases h3 : idx js (p / 2) < t
    · rw [if_pos h3, if_pos (show idx js (p / 2) < t + 1 by omega)]
    · rw [if_neg h3, if_neg (show ¬ idx js (p / 2) < t + 1 by omega)]
  · rfl
def dspF (js : List J) (d : List (Option Rat)) : List (Option Rat) := dsp js d (frees js).length
@[simp] theorem dspF_length (js : List J) (d : List (Option Rat)) : (dspF js d).length = 2 * js.length := dsp_length _ _ _
def dX (js : List J) (d : List (Option Rat)) (i : Nat) : Option Rat := if fxd js i = true then some 0 else d.getD (2 * idx js i) none
def dY (js : List J) (d : List (Option Rat)) (i : Nat) : Option Rat := if fxd js i = true then some 0 else d.getD (2 * idx js i + 1) none
theorem dspF_X (js : List J) (d : List (Option Rat)) (i : Nat) (hi : i < js.length) (h : 2 * i < (dspF js d).length) : (dspF js d)[2 * i] = dX js d i := by
  unfold dspF at h ⊢
  rw [dsp_get]
  unfold dAt dX
  rw [show (2 * i) / 2 = i by omega, show (2 * i) % 2 = 0 by omega]
  cases hf : fxd js i
  · have := idx_ltf hi hf
    simp [this]
  · rfl
theorem dspF_Y (js : List J) (d : List (Option Rat)) (i : Nat) (hi : i < js.length) (h : 2 * i + 1 < (dspF js d).length) : (dspF js d)[2 * i + 1] = dY js d i := by
  unfold dspF at h ⊢
  rw [dsp_get]
  unfold dAt dY
  rw [show (2 * i + 1) / 2 = i by omega, show (2 * i + 1) % 2 = 1 by omega]
  cases hf : fxd js i
  · have := idx_ltf hi hf
    simp [this]
  · rfl
theorem getD_ok {d : List (Option Rat)} (hd : okL d) (i : Nat) : okQ (d.getD i none) := by
  rcases Nat.lt_or_ge i d.length with h | h
  · rw [getD_at _ _ _ h]; exact hd _ (List.getElem_mem h)
  · rw [List.getD_eq_getElem?_getD, List.getElem?_eq_none h]; exact fun _ e => by cases e
theorem okQ_zero : okQ (some 0) := fun x h => by cases h; exact fits_zero
theorem dX_ok (js : List J) {d : List (Option Rat)} (hd : okL d) (i : Nat) : okQ (dX js d i) := by
  unfold dX; split
  · exact okQ_zero
  · exact getD_ok hd _
theorem dY_ok (js : List J) {d : List (Option Rat)} (hd : okL d) (i : Nat) : okQ (dY js d i) := by
  unfold dY; split
  · exact okQ_zero
  · exact getD_ok hd _

theorem two0 (k : Nat) : 0 ≤ 2 * (k : Int) := by omega
theorem two1 (k : Nat) : 0 ≤ 2 * (k : Int) + 1 := by omega
theorem twoN0 (k : Nat) : (2 * (k : Int)).toNat = 2 * k := by omega
theorem twoN1 (k : Nat) : (2 * (k : Int) + 1).toNat = 2 * k + 1 := by omega

/-! ### The program -/
theorem loadsOf_ro (d : List RT) (n : Nat) (hd : fitQ d 1048576) : RO Tryz.prog 96 [.sl (rv d), .int .i64 n] (.tup [.sl (fvs (if (decide (d.length = n) && allOk d) = true then rdAll d else [])), .bool (decide (d.length = n) && allOk d)]) := by
  generalize hz : (decide (d.length = n) && allOk d) = z
  refine ro_of2 Tryz.func96 rfl rfl (by rw [Tryz.ntmps96]; simp) fun bl => ?_
  rw [Tryz.ntmps96, Tryz.results96]
  refine AW_run ?_
  simp
  refine ⟨fun h => ?_, fun h => ?_⟩
  · have e : decide (d.length = n) = false := by simp; omega
    rw [e] at hz
    obtain rfl : z = false := by rw [← hz]; rfl
    exact retRO [.nils, .bool false] 1 (by simp) (by simp [frz, fvs, V.cl]) (Sub.refl _)
  · have e : decide (d.length = n) = true := by simp; omega
    rw [e, Bool.true_and] at hz
    subst hz
    refine callP_ro (loads_ro d hd) ?_
    simp
    exact retRO [.sl (fvs (if allOk d = true then rdAll d else [])), .bool (allOk d)] 1 (by simp) (by simp [frz]) (Sub.refl _)

def movOk (s : Str) (d : List RT) : Bool := (sOk s && decide (d.length = 2 * (frees s.js).length)) && allOk d
theorem displacements_ro (s : Str) (d : List RT) (hj : s.js.length ≤ 140737488351232) (hm : s.ms.length ≤ 140737488351232) (hn : ∀ j, j ∈ s.js → j.name.size ≤ 140737488351232) (hd : fitQ d 1048576) : RO Tryz.prog 83 [.ptr s.c, .sl (rv d)] (.tup [.sl (fvs (if movOk s d = true then dspF s.js (rdAll d) else [])), .bool (movOk s d)]) := by
  have w0 := whole_ro 0 (by omega)
  rw [zero_cast] at w0
  refine ro_of2 Tryz.func83 rfl rfl (by rw [Tryz.ntmps83]; simp) fun bl => ?_
  rw [Tryz.ntmps83, Tryz.results83]
  refine AW_run ?_
  simp [Str.c]
  refine callP_ro (impl_StructureOk_ro s hj hm hn) ?_
  cases hk : sOk s
  · have hz : movOk s d = false := by unfold movOk; rw [hk]; rfl
    rw [hz]
    simp
    exact retRO [.nils, .bool false] 1 (by simp) (by simp [frz, fvs, V.cl]) (Sub.refl _)
  have hs := sOk_of hk
  have hnj := hs.nj
  have hfl := freesTo_le s.js s.js.length
  change (frees s.js).length ≤ s.js.length at hfl
  have hz : movOk s d = (decide (d.length = 2 * (frees s.js).length) && allOk d) := by unfold movOk; rw [hk]; rfl
  have hL := loadsOf_ro d (2 * (frees s.js).length) hd
  rw [← hz] at hL
  have e2 : ((2 * (frees s.js).length : Nat) : Int) = 2 * ((frees s.js).length : Int) := by omega
  rw [e2] at hL
  have w2 : IntKind.i64.wrap (2 * ((frees s.js).length : Int)) = 2 * ((frees s.js).length : Int) := i64_in (by omega) (by omega)
  obtain ⟨n, en⟩ : ∃ n : Nat, n = 2 * s.js.length := ⟨_, rfl⟩
  have wn : IntKind.i64.wrap (2 * (s.js.length : Int)) = (n : Int) := by rw [i64_in (by omega) (by omega)]; omega
  simp
  refine callP_ro (freeJoints_ro s (by omega)) ?_
  simp
  rw [w2]
  refine callP_ro hL ?_
  cases hp : movOk s d
  · simp
    exact retRO [.nils, .bool false] 1 (by simp) (by simp [frz, fvs, V.cl]) (Sub.refl _)
  rw [hp] at hz
  have hlen : d.length = 2 * (frees s.js).length := by have := hz.symm; simp at this; exact this.1
  simp
  rw [wn]
  simp
  refine ⟨by omega, by unfold maxLen; omega, fun g hg0 hg => ?_⟩
  have hdl : (rdAll d).length = 2 * (frees s.js).length := by simpa using hlen
  generalize hD : rdAll d = D at *
  refine AW_for (fun i : Nat => [(6, .sl (iv (frees s.js))), (7, .sl (fvs D)), (9, .lsl g 1 0 n), (38, .int .i64 n), (39, .int .i64 i)]) (fun i => upd bl g (some ⟨1, part (fvs (dsp s.js D 0)) [.nilp] i⟩)) (fun i => i ≤ n) (fun i => n - i) _ 0 (Nat.zero_le _) ⟨rfl, by simp, sub_eq (by simp [en])⟩ ?_
  intro i hi
  refine AW_run ?_
  simp
  refine ⟨fun h => ?_, fun h => ?_⟩
  · have hi' : i < (fvs (dsp s.js D 0)).length := by simp; omega
    have h9 : i < n := by omega
    have hpl : i < (part (fvs (dsp s.js D 0)) [.nilp] i).length := by simp [part]; omega
    have hpi : (part (fvs (dsp s.js D 0)) [.nilp] i)[i]? = some [.nilp] := part_get _ _ _ hi'
    have hpe : (part (fvs (dsp s.js D 0)) [.nilp] i)[i] = [.nilp] := by
      rw [List.getElem?_eq_getElem hpl] at hpi; exact Option.some.inj hpi
    have hset : (part (fvs (dsp s.js D 0)) [.nilp] i).set i [fv (some 0)] = part (fvs (dsp s.js D 0)) [.nilp] (i + 1) := by
      rw [part_set _ _ _ hi']
      simp [dsp_get, dAt_zero]
    simp [h]
    refine callP_ro w0 ?_
    simp [h, h9, hpl, hpe]
    simp (disch := omega) [i64_in, loopQ_normal]
    refine ⟨i + 1, by omega, by omega, rfl, by simp, ?_⟩
    intro z y hz
    simp only [upd_apply, hset] at hz ⊢
    grind
  · have hi2 : n = i := by omega
    subst hi2
    rw [part_all _ _ _ (by simp [en])]
    simp
    refine AW_for (fun t : Nat => [(7, .sl (fvs D)), (9, .lsl g 1 0 n), (47, .sl (iv (frees s.js))), (48, .int .i64 (frees s.js).length), (49, .int .i64 t)]) (fun t => upd bl g (some ⟨1, fvs (dsp s.js D t)⟩)) (fun t => t ≤ (frees s.js).length) (fun t => (frees s.js).length - t) _ 0 (Nat.zero_le _) ⟨rfl, by simp, sub_eq (by simp)⟩ ?_
    intro t ht
    refine AW_run ?_
    simp
    refine ⟨fun h => ?_, fun h => ?_⟩
    · obtain ⟨i, ei, hi, hf, hx⟩ := frees_at s.js t h
      have w1 : IntKind.i64.wrap (2 * (i : Int)) = 2 * i := i64_in (by omega) (by omega)
      have w2 : IntKind.i64.wrap (2 * (i : Int) + 1) = 2 * i + 1 := i64_in (by omega) (by omega)
      have w3 : IntKind.i64.wrap (2 * (t : Int)) = 2 * t := i64_in (by omega) (by omega)
      have w4 : IntKind.i64.wrap (2 * (t : Int) + 1) = 2 * t + 1 := i64_in (by omega) (by omega)
      have p1 : 2 * i < n := by omega
      have p2 : 2 * i + 1 < n := by omega
      have p3 : 2 * t < D.length := by omega
      have p4 : 2 * t + 1 < D.length := by omega
      have p5 : 2 * (i : Int) < n := by omega
      have p6 : 2 * (i : Int) + 1 < n := by omega
      have p7 : 2 * (t : Int) < D.length := by omega
      have p8 : 2 * (t : Int) + 1 < D.length := by omega
      have p9 : 2 * i < 2 * s.js.length := by omega
      have p10 : 2 * i + 1 < 2 * s.js.length := by omega
      have hst := dsp_step s.js D t i hi hf hx
      rw [getD_at _ _ _ p3, getD_at _ _ _ p4] at hst
      have hsv : ((fvs (dsp s.js D t)).set (2 * i) [fv D[2 * t]]).set (2 * i + 1) [fv D[2 * t + 1]] = fvs (dsp s.js D (t + 1)) := by
        rw [← hst]; simp [fvs, List.map_set]
      simp [h, ei]
      refine AW_mixedB mixedO bl (by simp [hg]) [0, 1, 2, 3, 4, 5, 6, 7, 8, 9, 10, 11, 12, 13, 14, 15, 16, 17, 18] 3 (by kernel_rfl) ?_
      simp [w1, w2, w3, w4, p1, p2, p3, p4, p5, p6, p7, p8, p9, p10, two0, two1, twoN0, twoN1]
      refine DAny_one (i := 19) (by kernel_rfl) rfl rfl ?_
      simp [w1, w2, w3, w4, p1, p2, p3, p4, p5, p6, p7, p8, p9, p10, two0, two1, twoN0, twoN1]
      refine ⟨by simp [hg], DAny_one (i := 20) (by kernel_rfl) rfl rfl ?_⟩
      simp [w1, w2, w3, w4, p1, p2, p3, p4, p5, p6, p7, p8, p9, p10, two0, two1, twoN0, twoN1]
      refine ⟨by simp [hg], DAny_one (i := 21) (by kernel_rfl) rfl rfl ?_⟩
      simp [w1, w2, w3, w4, p1, p2, p3, p4, p5, p6, p7, p8, p9, p10, two0, two1, twoN0, twoN1]
      refine ⟨by simp [hg], DAny_done (by kernel_rfl) ?_⟩
      simp (disch := omega) [i64_in, loopQ_normal]
      refine ⟨t + 1, by omega, by omega, rfl, by simp, ?_⟩
      intro z y hz
      simp only [upd_apply, hsv] at hz ⊢
      grind
    · have hi2 : t = (frees s.js).length := by omega
      subst hi2
      refine retRO [.lsl g 1 0 n, .bool true] 2 (by simp) (frz_tup2 (frz_slice (sz := 1) (n := n) hg0 hg (els := fvs (dspF s.js D)) ?_ (by simp [en]) (fvs_cl _))) (by simp [hg])
      simp [dspF]
end Go.Proofs.YthhjmaianlmfpaaGreat.Vm

namespace Go.Proofs.YthhjmaianlmfpaaGreat.Vm
open Go Go.Proofs
set_option linter.unusedSimpArgs false
set_option linter.unusedVariables false

theorem vecX_le (s : Str) (k : Int) : -100 ≤ vecX s k ∧ vecX s k ≤ 100 := by
  unfold vecX
  split
  · rename_i h
    simp at h
    have hs := sOk_of h.2
    obtain ⟨⟨a1, a2⟩, ⟨b1, b2⟩⟩ := hs.ix _ (mat_mem h.1.1 h.1.2)
    have ca := hs.at a1 a2
    have cb := hs.at b1 b2
    unfold vx
    omega
  · omega
theorem vecY_le (s : Str) (k : Int) : -100 ≤ vecY s k ∧ vecY s k ≤ 100 := by
  unfold vecY
  split
  · rename_i h
    simp at h
    have hs := sOk_of h.2
    obtain ⟨⟨a1, a2⟩, ⟨b1, b2⟩⟩ := hs.ix _ (mat_mem h.1.1 h.1.2)
    have ca := hs.at a1 a2
    have cb := hs.at b1 b2
    unfold vy
    omega
  · omega
def sqOf (s : Str) (k : Int) : Int := IntKind.i64.wrap (IntKind.i64.wrap (vecX s k * vecX s k) + IntKind.i64.wrap (vecY s k * vecY s k))
end Go.Proofs.YthhjmaianlmfpaaGreat.Vm

namespace Go.Proofs.YthhjmaianlmfpaaGreat.Vm
open Go Go.Proofs
set_option linter.unusedSimpArgs false
set_option linter.unusedVariables false

/-- A number of a load. -/
def lat (l : List Int) (i : Nat) : Int := l.getD i 0
theorem iv_at {l : List Int} {i : Nat} (h : i < l.length) : (iv l)[i]? = some [.int .i64 (lat l i)] := by simp [lat, h]
structure LOk (s : Str) (l : List Int) : Prop where
  sok : SOk s
  n : l.length = 2 * s.js.length
  f : ∀ i, i < l.length → -100 ≤ lat l i ∧ lat l i ≤ 100
theorem fitsL_of {js : List J} {l : List Int} (h : fitsL js l = true) : l.length = 2 * js.length ∧ ∀ i, i < l.length → -100 ≤ lat l i ∧ lat l i ≤ 100 := by
  unfold fitsL at h
  simp only [Bool.and_eq_true, decide_eq_true_eq] at h
  refine ⟨h.1, fun i hi => ?_⟩
  have := List.all_eq_true.1 h.2 l[i] (List.getElem_mem hi)
  simp [forceOk] at this
  simpa [lat, hi] using this
theorem lOk_of {s : Str} {l : List Int} (h : lOk s l = true) : LOk s l := by
  unfold lOk at h
  simp only [Bool.and_eq_true] at h
  obtain ⟨h1, h2⟩ := fitsL_of h.2
  exact ⟨sOk_of h.1, h1, h2⟩

def sumX (l : List Int) : Nat → Int
  | 0 => 0
  | n + 1 => sumX l n + lat l (2 * n)
def sumY (l : List Int) : Nat → Int
  | 0 => 0
  | n + 1 => sumY l n + lat l (2 * n + 1)
theorem sumX_le {s : Str} {l : List Int} (h : LOk s l) : ∀ n, n ≤ s.js.length → -(100 * n : Int) ≤ sumX l n ∧ sumX l n ≤ 100 * n
  | 0, _ => by simp [sumX]
  | n + 1, hn => by
    have := sumX_le h n (by omega)
    have := h.f (2 * n) (by have := h.n; omega)
    simp only [sumX]; omega
theorem sumY_le {s : Str} {l : List Int} (h : LOk s l) : ∀ n, n ≤ s.js.length → -(100 * n : Int) ≤ sumY l n ∧ sumY l n ≤ 100 * n
  | 0, _ => by simp [sumY]
  | n + 1, hn => by
    have := sumY_le h n (by omega)
    have := h.f (2 * n + 1) (by have := h.n; omega)
    simp only [sumY]; omega
def totX (s : Str) (l : List Int) : Int := if lOk s l = true then sumX l s.js.length else 0
def totY (s : Str) (l : List Int) : Int := if lOk s l = true then sumY l s.js.length else 0

def momTo (s : Str) (l : List Int) (x y : Int) : Nat → Int
  | 0 => 0
  | n + 1 => momTo s l x y n + ((jat s.js n).x - x) * lat l (2 * n + 1) - ((jat s.js n).y - y) * lat l (2 * n)
theorem mul_le {a b p q : Int} (ha : -p ≤ a ∧ a ≤ p) (hb : -q ≤ b ∧ b ≤ q) : -(p * q) ≤ a * b ∧ a * b ≤ p * q := by
  have hp : 0 ≤ p := by omega
  have hq : 0 ≤ q := by omega
  have h1 : a.natAbs ≤ p.natAbs := by omega
  have h2 : b.natAbs ≤ q.natAbs := by omega
  have h3 : (a * b).natAbs ≤ (p * q).natAbs := by rw [Int.natAbs_mul, Int.natAbs_mul]; exact Nat.mul_le_mul h1 h2
  have h4 : 0 ≤ p * q := Int.mul_nonneg hp hq
  omega
theorem mom_step {s : Str} {l : List Int} {x y : Int} (h : LOk s l) (hx : -1000 ≤ x ∧ x ≤ 1000) (hy : -1000 ≤ y ∧ y ≤ 1000) {n : Nat} (hn : n < s.js.length) :
    (-1050 ≤ (jat s.js n).x - x ∧ (jat s.js n).x - x ≤ 1050) ∧ (-1050 ≤ (jat s.js n).y - y ∧ (jat s.js n).y - y ≤ 1050) ∧
    (-105000 ≤ ((jat s.js n).x - x) * lat l (2 * n + 1) ∧ ((jat s.js n).x - x) * lat l (2 * n + 1) ≤ 105000) ∧ (-105000 ≤ ((jat s.js n).y - y) * lat l (2 * n) ∧ ((jat s.js n).y - y) * lat l (2 * n) ≤ 105000) := by
  have c := h.sok.at (n := n) (by omega) (by omega)
  have f1 := h.f (2 * n) (by have := h.n; omega)
  have f2 := h.f (2 * n + 1) (by have := h.n; omega)
  have a1 : -1050 ≤ (jat s.js n).x - x ∧ (jat s.js n).x - x ≤ 1050 := by omega
  have a2 : -1050 ≤ (jat s.js n).y - y ∧ (jat s.js n).y - y ≤ 1050 := by omega
  have m1 := mul_le a1 f2
  have m2 := mul_le a2 f1
  refine ⟨a1, a2, ?_, ?_⟩ <;> omega
theorem mom_le {s : Str} {l : List Int} {x y : Int} (h : LOk s l) (hx : -1000 ≤ x ∧ x ≤ 1000) (hy : -1000 ≤ y ∧ y ≤ 1000) : ∀ n, n ≤ s.js.length → -(210000 * n : Int) ≤ momTo s l x y n ∧ momTo s l x y n ≤ 210000 * n
  | 0, _ => by simp [momTo]
  | n + 1, hn => by
    have := mom_le h hx hy n (by omega)
    have := mom_step h hx hy (n := n) (by omega)
    simp only [momTo]; omega
def momOk (s : Str) (l : List Int) (x y : Int) : Bool := lOk s l && (decide (-1000 ≤ x) && decide (x ≤ 1000)) && (decide (-1000 ≤ y) && decide (y ≤ 1000))
def momOf (s : Str) (l : List Int) (x y : Int) : Int := if momOk s l x y = true then momTo s l x y s.js.length else 0
theorem jat_nat {js : List J} {i : Nat} (h : i < js.length) : jat js i = js[i] := by simp [jat, h]

end Go.Proofs.YthhjmaianlmfpaaGreat.Vm

namespace Go.Proofs.YthhjmaianlmfpaaGreat.Vm
open Go Go.Proofs
set_option linter.unusedSimpArgs false
set_option linter.unusedVariables false

theorem any_eq (l : List Int) (k : Int) : (l.any fun x => decide (k = x)) = decide (k ∈ l) := by
  rw [Bool.eq_iff_iff]; simp

end Go.Proofs.YthhjmaianlmfpaaGreat.Vm

namespace Go.Proofs.YthhjmaianlmfpaaGreat.Vm
open Go Go.Proofs
set_option linter.unusedSimpArgs false
set_option linter.unusedVariables false

/-- The members before n whose numbers are not in a list. -/
def keptTo (ms : List Mb) (l : List Int) (n : Nat) : List Mb := ((List.range n).filter fun (i : Nat) => !decide ((i : Int) ∈ l)).map fun (i : Nat) => ms.getD i default
theorem keptTo_succ (ms : List Mb) (l : List Int) (n : Nat) : keptTo ms l (n + 1) = keptTo ms l n ++ if (n : Int) ∈ l then [] else [ms.getD n default] := by
  unfold keptTo
  rw [List.range_succ, List.filter_append, List.map_append]
  congr 1
  by_cases h : (n : Int) ∈ l <;> simp only [List.filter_cons, List.filter_nil, h] <;> simp
theorem keptTo_le (ms : List Mb) (l : List Int) (n : Nat) : (keptTo ms l n).length ≤ n := by
  unfold keptTo
  rw [List.length_map]
  exact Nat.le_trans (List.length_filter_le _ _) (by simp)
theorem mv_append (a b : List Mb) : mv (a ++ b) = mv a ++ mv b := by simp [mv]
theorem mv_takeall (ns : List Mb) : (mv ns).take ns.length = mv ns := by rw [← mv_length ns, List.take_length]
def without (s : Str) (l : List Int) : Str := ⟨s.js, keptTo s.ms l s.ms.length⟩

end Go.Proofs.YthhjmaianlmfpaaGreat.Vm

namespace Go.Proofs.YthhjmaianlmfpaaGreat.Vm
open Go Go.Proofs
set_option linter.unusedSimpArgs false
set_option linter.unusedVariables false

end Go.Proofs.YthhjmaianlmfpaaGreat.Vm

namespace Go.Proofs.YthhjmaianlmfpaaGreat.Vm
open Go Go.Proofs
set_option linter.unusedSimpArgs false
set_option linter.unusedVariables false





/-! ### Lists of lists of numbers -/
def ivv (ws : List (List Int)) : List (List V) := ws.map fun w => [.sl (iv w)]
def dII (ws : List (List Int)) : D := .s 1 (ws.map fun w => [fl 1 (iv w)])
@[simp] theorem ivv_length (ws : List (List Int)) : (ivv ws).length = ws.length := by simp [ivv]
@[simp] theorem ivv_getE (ws : List (List Int)) (i : Nat) (h : i < (ivv ws).length) : (ivv ws)[i] = [.sl (iv (ws[i]'(by simpa using h)))] := by simp [ivv]
theorem dII_fz (ws : List (List Int)) : (dII ws).fz = .sl (ivv ws) := by
  unfold dII ivv
  rw [D.fz, fzR_map, List.map_map]
  congr 1
  exact List.map_congr_left fun w _ => by simp
theorem dII_dep (ws : List (List Int)) : (dII ws).dep 2 := by
  unfold dII
  rw [D.dep]
  refine ⟨by omega, ?_⟩
  induction ws with
  | nil => simp [D.depR]
  | cons w ws ih => simp [D.depR, D.depL, fl_dep] at ih ⊢; exact ih
theorem frz_ivv {bl : Int → Option Blk} {ws : List (List Int)} {v : V} {gs : List Int} (h : OwnD bl (dII ws) v gs) (n : Nat) : frz bl (n + 2) v = some (.sl (ivv ws)) := by
  have hd : (dII ws).dep (n + 2) := by
    unfold dII
    rw [D.dep]
    refine ⟨by omega, ?_⟩
    clear h
    induction ws with
    | nil => simp [D.depR]
    | cons w ws ih => simp [D.depR, D.depL, fl_dep] at ih ⊢; exact ih
  rw [h.frz hd, dII_fz]


end Go.Proofs.YthhjmaianlmfpaaGreat.Vm

namespace Go.Proofs.YthhjmaianlmfpaaGreat.Vm
open Go Go.Proofs
set_option linter.unusedSimpArgs false
set_option linter.unusedVariables false

def rowX (s : Str) (j : Int) : List Int := s.ms.map (eqX s j)
def rowY (s : Str) (j : Int) : List Int := s.ms.map (eqY s j)
def eqRows (s : Str) : List (List Int) := (frees s.js).flatMap fun j => [rowX s j, rowY s j]
def eqTo (s : Str) (n : Nat) : List (List Int) := ((frees s.js).take n).flatMap fun j => [rowX s j, rowY s j]
theorem eqTo_succ (s : Str) (n : Nat) (h : n < (frees s.js).length) : eqTo s (n + 1) = eqTo s n ++ [rowX s (frees s.js)[n], rowY s (frees s.js)[n]] := by
  unfold eqTo
  rw [List.take_add_one, List.getElem?_eq_getElem h, List.flatMap_append]
  simp
theorem eqTo_length (s : Str) : ∀ n, n ≤ (frees s.js).length → (eqTo s n).length = 2 * n
  | 0, _ => by simp [eqTo]
  | n + 1, h => by
    rw [eqTo_succ s n (by omega), List.length_append, eqTo_length s n (by omega)]
    simp; omega
@[simp] theorem rowX_length (s : Str) (j : Int) : (rowX s j).length = s.ms.length := by simp [rowX]
@[simp] theorem rowY_length (s : Str) (j : Int) : (rowY s j).length = s.ms.length := by simp [rowY]
theorem mat_nat {s : Str} {k : Nat} (h : k < s.ms.length) : mat s k = s.ms[k] := by simp [mat, h]
theorem v_le {s : Str} (hs : SOk s) {m : Mb} (hm : m ∈ s.ms) : (-100 ≤ vx s m ∧ vx s m ≤ 100) ∧ (-100 ≤ vy s m ∧ vy s m ≤ 100) := by
  obtain ⟨⟨a1, a2⟩, ⟨b1, b2⟩⟩ := hs.ix _ hm
  have ca := hs.at a1 a2
  have cb := hs.at b1 b2
  unfold vx vy
  omega

structure GrowG where
  i : Nat
  g : Int
  els : List (List V)
  gs : List Int
  b : Int → Option Blk

theorem part_next (xs : List (List V)) (z : List V) (i : Nat) (h : i < xs.length) (hz : xs[i] = z) : part xs z i = part xs z (i + 1) := by
  rw [← part_set xs z i h z hz.symm]
  have := part_get xs z i h
  apply List.ext_getElem?
  intro j
  rw [List.getElem?_set]
  split
  · rename_i e; subst e; rw [if_pos (by rw [part_length]; exact h)]; exact this
  · rfl

def eqInv (bl : Int → Option Blk) (s : Str) (p : GrowG) : Prop :=
  p.i ≤ (frees s.js).length ∧ p.b p.g = some ⟨1, p.els⟩ ∧ p.els.length = 2 * p.i ∧ OwnR p.b 1 ((eqTo s p.i).map fun w => [fl 1 (iv w)]) p.els p.gs ∧ p.g ∉ p.gs ∧ bl p.g = none ∧ (∀ x, x ∈ p.gs → bl x = none) ∧ Sub bl p.b ∧ (p.g < 0 → p.els = [])

theorem eqInv_next {bl : Int → Option Blk} {s : Str} {i : Nat} {g : Int} {els : List (List V)} {gs : List Int} {b : Int → Option Blk} (H : eqInv bl s ⟨i, g, els, gs, b⟩) (h : i < (frees s.js).length)
    {ga gb gp gn : Int} (hga : 0 ≤ ga) (hba : b ga = none) (hgb : 0 ≤ gb) (hab : ¬gb = ga) (hbb : b gb = none) (hpa : ¬gp = ga) (hpb : ¬gp = gb) (hbp : b gp = none) (hgn : 0 ≤ gn)
    (hbn : ¬gn = g → ¬gn = gp ∧ ¬gn = gb ∧ ¬gn = ga ∧ b gn = none) :
    eqInv bl s ⟨i + 1, gn, els ++ [[.lsl ga 1 0 s.ms.length]] ++ [[.lsl gb 1 0 s.ms.length]], gs ++ [ga] ++ [gb],
      upd (rem (upd (upd (upd b ga (some ⟨1, iv (rowX s (frees s.js)[i])⟩)) gb (some ⟨1, iv (rowY s (frees s.js)[i])⟩)) gp (some ⟨1, [[.lsl ga 1 0 s.ms.length], [.lsl gb 1 0 s.ms.length]]⟩)) g) gn
        (some ⟨1, els.take (2 * i) ++ [[.lsl ga 1 0 s.ms.length], [.lsl gb 1 0 s.ms.length]]⟩)⟩ := by
  obtain ⟨hi, hb, hel, ho, hn, hg, hf, hsb, hneg⟩ := H
  simp only at hi hb hel ho hn hg hf hsb hneg
  have nga : ga ≠ g := fun e => by rw [e, hb] at hba; cases hba
  have ngb : gb ≠ g := fun e => by rw [e, hb] at hbb; cases hbb
  have ngp : gp ≠ g := fun e => by rw [e, hb] at hbp; cases hbp
  have fa := fresh_of hsb hba
  have fb := fresh_of hsb hbb
  have fp := fresh_of hsb hbp
  have na : gn ≠ ga := fun e => by
    by_cases c : gn = g
    · exact nga (e.symm.trans c)
    · exact (hbn c).2.2.1 e
  have nb : gn ≠ gb := fun e => by
    by_cases c : gn = g
    · exact ngb (e.symm.trans c)
    · exact (hbn c).2.1 e
  have fn : bl gn = none := by
    by_cases c : gn = g
    · rw [c]; exact hg
    · exact fresh_of hsb (hbn c).2.2.2
  have nn : gn ∉ gs := by
    by_cases c : gn = g
    · rw [c]; exact hn
    · exact ho.not (hbn c).2.2.2
  have key : ∀ (B : Int → Option Blk) (u v w z : Option Blk), B = upd (rem (upd (upd (upd b ga u) gb v) gp w) g) gn z → ∀ x y, x ≠ g → x ≠ gn → b x = some y → B x = some y := by
    intro B u v w z hB x y c1 c2 hx
    have c3 : x ≠ ga := fun e => by rw [e, hba] at hx; cases hx
    have c4 : x ≠ gb := fun e => by rw [e, hbb] at hx; cases hx
    have c5 : x ≠ gp := fun e => by rw [e, hbp] at hx; cases hx
    rw [hB]; simp [c1, c2, c3, c4, c5, hx]
  have vx1 : ∀ xs : List Int, (iv xs).all (fun r => r.all V.cl) = true := fun xs => by simp [iv, V.cl]
  have vx2 : ∀ (xs : List Int) r, r ∈ iv xs → r.length = 1 := fun xs r hr => by
    simp [iv] at hr
    obtain ⟨_, _, rfl⟩ := hr; rfl
  have et : els.take (2 * i) = els := List.take_of_length_le (by omega)
  refine ⟨by simp only; omega, by simp [et], by simp [hel]; omega, ?_, ?_, fn, ?_, ?_, fun e => by simp only at e; omega⟩
  · simp only
    rw [eqTo_succ s i h, List.map_append, show (∀ (A : List (List D)) (x y : List Int), A ++ [x, y].map (fun w => [fl 1 (iv w)]) = A ++ [[fl 1 (iv x)]] ++ [[fl 1 (iv y)]]) from fun A x y => by simp]
    generalize hB : upd (rem (upd (upd (upd b ga (some ⟨1, iv (rowX s (frees s.js)[i])⟩)) gb (some ⟨1, iv (rowY s (frees s.js)[i])⟩)) gp (some ⟨1, [[.lsl ga 1 0 s.ms.length], [.lsl gb 1 0 s.ms.length]]⟩)) g) gn
        (some ⟨1, els.take (2 * i) ++ [[.lsl ga 1 0 s.ms.length], [.lsl gb 1 0 s.ms.length]]⟩) = B
    have o0 := ho.keep fun x hx y hy => key _ _ _ _ _ hB.symm x y (fun e => hn (e ▸ hx)) (fun e => nn (e ▸ hx)) hy
    have oa : OwnD B (fl 1 (iv (rowX s (frees s.js)[i]))) (.lsl ga 1 0 s.ms.length) [ga] := (own_fl (vx1 _) (vx2 _)).2 (.inr ⟨ga, by simp, rfl, by rw [← hB]; simp [Ne.symm na, Ne.symm hpa, Ne.symm hab, nga], by omega⟩)
    have ob : OwnD B (fl 1 (iv (rowY s (frees s.js)[i]))) (.lsl gb 1 0 s.ms.length) [gb] := (own_fl (vx1 _) (vx2 _)).2 (.inr ⟨gb, by simp, rfl, by rw [← hB]; simp [Ne.symm nb, Ne.symm hpb, ngb], by omega⟩)
    refine OwnR.snoc (own_single.2 ob) rfl (by simp) (OwnR.snoc (own_single.2 oa) rfl (by simp) o0 ?_) ?_
    · intro x hx hx2
      rw [List.mem_singleton] at hx2
      exact ho.not hba (hx2 ▸ hx)
    · intro x hx hx2
      rw [List.mem_singleton] at hx2
      subst hx2
      rcases List.mem_append.1 hx with hx | hx
      · exact ho.not hbb hx
      · rw [List.mem_singleton] at hx; exact hab hx
  · simp [nn, na, nb]
  · intro x hx
    simp at hx
    rcases hx with hx | hx | hx
    · exact hf x hx
    · rw [hx]; exact fa
    · rw [hx]; exact fb
  · intro x y hx
    exact key _ _ _ _ _ rfl x y (fun e => by rw [e, hg] at hx; cases hx) (fun e => by rw [e, fn] at hx; cases hx) (hsb x y hx)

set_option maxHeartbeats 2000000 in
theorem equilibrium_nw (s : Str) (hs : SOk s) : NW Tryz.prog 157 [.ptr s.c] (dII (eqRows s)) := by
  have h6 := hs.nj
  have h8 := hs.nm
  have hfr := freesTo_le s.js s.js.length
  change (frees s.js).length ≤ s.js.length at hfr
  refine nw_of Tryz.func157 rfl rfl (by rw [Tryz.ntmps157]; simp) fun bl => ?_
  rw [Tryz.ntmps157, Tryz.results157]
  refine AW_run ?_
  simp
  refine callP_ro (freeJoints_ro s (by omega)) ?_
  simp
  refine AW_ghost 3 1 (by simp) fun g00 hg00 => ?_
  simp at hg00
  refine AW_for (fun p : GrowG => [(0, .ptr s.c), (3, .lsl p.g 1 0 (2 * p.i)), (13, .sl (iv (frees s.js))), (14, .int .i64 (frees s.js).length), (15, .int .i64 p.i)]) (fun p => p.b)
    (eqInv bl s)
    (fun p => (frees s.js).length - p.i) 82 ⟨0, g00, [], [], upd bl g00 (some ⟨1, []⟩)⟩ ⟨Nat.zero_le _, by simp, rfl, by simp [eqTo, OwnR], by simp, hg00, by simp, by simp [hg00], fun _ => rfl⟩ ⟨rfl, by simp, by simp⟩ ?_
  rintro ⟨i, g, els, gs, b⟩ ⟨hi, hb, hel, ho, hn, hg, hf, hsb, hneg⟩
  simp only at hi hb hel ho hn hg hf hsb hneg
  refine AW_run ?_
  simp
  refine ⟨fun h => ?_, fun h => ?_⟩
  · have q := iv_get (frees s.js) i h
    simp [h]
    obtain ⟨j, hj⟩ : ∃ j, (frees s.js)[i] = j := ⟨_, rfl⟩
    rw [hj]
    refine AW_mixed mixedO [0, 1, 2, 3, 4, 6, 7, 8, 9, 10] 4 (by kernel_rfl) ?_
    simp [Str.c]
    refine DAny_two (i := 5) (j := 11) (by kernel_rfl) rfl rfl rfl rfl ?_ ?_
    · simp
      refine ⟨by omega, by unfold maxLen; omega, fun ga hga hba => ⟨by simp [hba], ?_⟩⟩
      refine DAny_two (i := 11) (j := 12) (by kernel_rfl) rfl rfl rfl rfl ?_ ?_
      · simp
        refine ⟨by omega, by unfold maxLen; omega, fun gb hgb hab hbb => ⟨by simp [hba, hbb, hab], ?_⟩⟩
        refine DAny_one (i := 12) (by kernel_rfl) rfl rfl ?_
        simp
        refine ⟨by simp [hba, hbb, hab], DAny_one (i := 13) (by kernel_rfl) rfl rfl ?_⟩
        simp
        refine ⟨by simp [hba, hbb, hab], DAny_done (by kernel_rfl) ?_⟩
        simp [Str.c]
        -- the state behind the region
        have nga : ga ≠ g := fun e => by rw [e, hb] at hba; cases hba
        have ngb : gb ≠ g := fun e => by rw [e, hb] at hbb; cases hbb
        have fa := fresh_of hsb hba
        have fb := fresh_of hsb hbb
        have er : List.replicate s.ms.length [V.int IntKind.i64 0] = part (iv (rowX s j)) [.int .i64 0] 0 := by simp
        have er' : List.replicate s.ms.length [V.int IntKind.i64 0] = part (iv (rowY s j)) [.int .i64 0] 0 := by simp
        refine AW_for (fun k : Nat => [(0, .ptr s.c), (3, .lsl g 1 0 (2 * i)), (5, .int .i64 j), (6, .lsl ga 1 0 s.ms.length), (7, .lsl gb 1 0 s.ms.length), (13, .sl (iv (frees s.js))), (14, .int .i64 (frees s.js).length), (15, .int .i64 i), (34, .sl (mv s.ms)), (35, .int .i64 s.ms.length), (36, .int .i64 k)])
          (fun k => upd (upd b ga (some ⟨1, part (iv (rowX s j)) [.int .i64 0] k⟩)) gb (some ⟨1, part (iv (rowY s j)) [.int .i64 0] k⟩)) (fun k => k ≤ s.ms.length) (fun k => s.ms.length - k) 82 0 (Nat.zero_le _) ⟨rfl, by simp [Str.c], ?_⟩ ?_
        · intro x y hx
          simp only [upd_apply, part_zero, iv_length, rowX_length, rowY_length] at hx ⊢
          grind
        intro k hk
        refine AW_run ?_
        simp
        refine ⟨fun hkl => ?_, fun hkl => ?_⟩
        · have hv := v_le hs (List.getElem_mem hkl)
          have hm : mat s (k : Int) = s.ms[k] := mat_nat hkl
          have hvec := vector_ro s k hs (by omega) (by omega)
          rw [hm] at hvec
          have hx : k < (iv (rowX s j)).length := by simpa using hkl
          have hy : k < (iv (rowY s j)).length := by simpa using hkl
          have w1 : IntKind.i64.wrap ((k : Int) + 1) = k + 1 := i64_in (by omega) (by omega)
          have nx : IntKind.i64.wrap (-vx s s.ms[k]) = -vx s s.ms[k] := i64_in (by omega) (by omega)
          have ny : IntKind.i64.wrap (-vy s s.ms[k]) = -vy s s.ms[k] := i64_in (by omega) (by omega)
          have px := part_get (iv (rowX s j)) [.int .i64 0] k hx
          have py := part_get (iv (rowY s j)) [.int .i64 0] k hy
          simp [hkl, Mb.c]
          intro g9 hg9 h9b h9a hb9
          refine callP_ro hvec ?_
          simp
          refine ⟨fun e1 => ?_, fun e1 => ?_⟩
          · simp [hab, Ne.symm hab, h9a, h9b, Ne.symm h9a, Ne.symm h9b, hkl, px, py, w1, loopQ_normal]
            have sx := part_set (iv (rowX s j)) [.int .i64 0] k hx [.int .i64 (vx s s.ms[k])] (by simp [rowX, eqX, e1])
            have sy := part_set (iv (rowY s j)) [.int .i64 0] k hy [.int .i64 (vy s s.ms[k])] (by simp [rowY, eqY, e1])
            refine ⟨k + 1, by omega, by omega, rfl, by simp, ?_⟩
            intro x y hx'
            rw [← sx, ← sy] at hx'
            simp only [upd_apply] at hx' ⊢
            grind
          · simp [hab, Ne.symm hab, h9a, h9b, Ne.symm h9a, Ne.symm h9b, hkl, px, py, w1, nx, ny, loopQ_normal]
            refine ⟨fun e2 => ?_, fun e2 => ?_⟩
            · have fx : eqX s j s.ms[k] = -vx s s.ms[k] := by rw [eqX, if_neg e1, if_pos e2]
              have fy : eqY s j s.ms[k] = -vy s s.ms[k] := by rw [eqY, if_neg e1, if_pos e2]
              have sx := part_set (iv (rowX s j)) [.int .i64 0] k hx [.int .i64 (-vx s s.ms[k])] (by simp [rowX, fx])
              have sy := part_set (iv (rowY s j)) [.int .i64 0] k hy [.int .i64 (-vy s s.ms[k])] (by simp [rowY, fy])
              refine ⟨k + 1, by omega, by omega, rfl, by simp, ?_⟩
              intro x y hx'
              rw [← sx, ← sy] at hx'
              simp only [upd_apply] at hx' ⊢
              grind
            · have sx := part_next (iv (rowX s j)) [.int .i64 0] k hx (by simp [rowX, eqX, e1, e2])
              have sy := part_next (iv (rowY s j)) [.int .i64 0] k hy (by simp [rowY, eqY, e1, e2])
              refine ⟨k + 1, by omega, by omega, rfl, by simp, ?_⟩
              intro x y hx'
              rw [← sx, ← sy] at hx'
              simp only [upd_apply] at hx' ⊢
              grind
        · have : k = s.ms.length := by omega
          subst this
          rw [part_all _ _ _ (by simp), part_all _ _ _ (by simp)]
          intro gp hgp hpb hpa hbp
          have npg : gp ≠ g := fun e => by rw [e, hb] at hbp; cases hbp
          have er2 : List.range 2 = [0, 1] := rfl
          simp [er2, appV, elsV, Int.not_lt.2 hgp, hpb, hpa, Ne.symm hpb, Ne.symm hpa, nga, ngb, Ne.symm nga, Ne.symm ngb, npg, Ne.symm npg, hb, hel]
          refine ⟨by omega, fun gn hgn hbn => ?_⟩
          have w9 : IntKind.i64.wrap ((i : Int) + 1) = i + 1 := i64_in (by omega) (by omega)
          rw [loopQ_normal]
          subst hj
          have nx := eqInv_next ⟨hi, hb, hel, ho, hn, hg, hf, hsb, hneg⟩ h hga hba hgb hab hbb hpa hpb hbp hgn hbn
          refine ⟨_, nx, by simp only; omega, rfl, ?_, sub_eq rfl⟩
          simp [w9]; exact ⟨rfl, by omega⟩
      · simp
        refine ⟨by simp [hba], DAny_one (i := 11) (by kernel_rfl) rfl rfl ?_⟩
        simp
        refine ⟨by omega, by unfold maxLen; omega, fun gb hgb hab hbb => ⟨by simp [hba, hbb, hab], ?_⟩⟩
        refine DAny_one (i := 13) (by kernel_rfl) rfl rfl ?_
        simp
        refine ⟨by simp [hba, hbb, hab], DAny_done (by kernel_rfl) ?_⟩
        simp [Str.c]
        -- the state behind the region
        have nga : ga ≠ g := fun e => by rw [e, hb] at hba; cases hba
        have ngb : gb ≠ g := fun e => by rw [e, hb] at hbb; cases hbb
        have fa := fresh_of hsb hba
        have fb := fresh_of hsb hbb
        have er : List.replicate s.ms.length [V.int IntKind.i64 0] = part (iv (rowX s j)) [.int .i64 0] 0 := by simp
        have er' : List.replicate s.ms.length [V.int IntKind.i64 0] = part (iv (rowY s j)) [.int .i64 0] 0 := by simp
        refine AW_for (fun k : Nat => [(0, .ptr s.c), (3, .lsl g 1 0 (2 * i)), (5, .int .i64 j), (6, .lsl ga 1 0 s.ms.length), (7, .lsl gb 1 0 s.ms.length), (13, .sl (iv (frees s.js))), (14, .int .i64 (frees s.js).length), (15, .int .i64 i), (34, .sl (mv s.ms)), (35, .int .i64 s.ms.length), (36, .int .i64 k)])
          (fun k => upd (upd b ga (some ⟨1, part (iv (rowX s j)) [.int .i64 0] k⟩)) gb (some ⟨1, part (iv (rowY s j)) [.int .i64 0] k⟩)) (fun k => k ≤ s.ms.length) (fun k => s.ms.length - k) 82 0 (Nat.zero_le _) ⟨rfl, by simp [Str.c], ?_⟩ ?_
        · intro x y hx
          simp only [upd_apply, part_zero, iv_length, rowX_length, rowY_length] at hx ⊢
          grind
        intro k hk
        refine AW_run ?_
        simp
        refine ⟨fun hkl => ?_, fun hkl => ?_⟩
        · have hv := v_le hs (List.getElem_mem hkl)
          have hm : mat s (k : Int) = s.ms[k] := mat_nat hkl
          have hvec := vector_ro s k hs (by omega) (by omega)
          rw [hm] at hvec
          have hx : k < (iv (rowX s j)).length := by simpa using hkl
          have hy : k < (iv (rowY s j)).length := by simpa using hkl
          have w1 : IntKind.i64.wrap ((k : Int) + 1) = k + 1 := i64_in (by omega) (by omega)
          have nx : IntKind.i64.wrap (-vx s s.ms[k]) = -vx s s.ms[k] := i64_in (by omega) (by omega)
          have ny : IntKind.i64.wrap (-vy s s.ms[k]) = -vy s s.ms[k] := i64_in (by omega) (by omega)
          have px := part_get (iv (rowX s j)) [.int .i64 0] k hx
          have py := part_get (iv (rowY s j)) [.int .i64 0] k hy
          simp [hkl, Mb.c]
          intro g9 hg9 h9b h9a hb9
          refine callP_ro hvec ?_
          simp
          refine ⟨fun e1 => ?_, fun e1 => ?_⟩
          · simp [hab, Ne.symm hab, h9a, h9b, Ne.symm h9a, Ne.symm h9b, hkl, px, py, w1, loopQ_normal]
            have sx := part_set (iv (rowX s j)) [.int .i64 0] k hx [.int .i64 (vx s s.ms[k])] (by simp [rowX, eqX, e1])
            have sy := part_set (iv (rowY s j)) [.int .i64 0] k hy [.int .i64 (vy s s.ms[k])] (by simp [rowY, eqY, e1])
            refine ⟨k + 1, by omega, by omega, rfl, by simp, ?_⟩
            intro x y hx'
            rw [← sx, ← sy] at hx'
            simp only [upd_apply] at hx' ⊢
            grind
          · simp [hab, Ne.symm hab, h9a, h9b, Ne.symm h9a, Ne.symm h9b, hkl, px, py, w1, nx, ny, loopQ_normal]
            refine ⟨fun e2 => ?_, fun e2 => ?_⟩
            · have fx : eqX s j s.ms[k] = -vx s s.ms[k] := by rw [eqX, if_neg e1, if_pos e2]
              have fy : eqY s j s.ms[k] = -vy s s.ms[k] := by rw [eqY, if_neg e1, if_pos e2]
              have sx := part_set (iv (rowX s j)) [.int .i64 0] k hx [.int .i64 (-vx s s.ms[k])] (by simp [rowX, fx])
              have sy := part_set (iv (rowY s j)) [.int .i64 0] k hy [.int .i64 (-vy s s.ms[k])] (by simp [rowY, fy])
              refine ⟨k + 1, by omega, by omega, rfl, by simp, ?_⟩
              intro x y hx'
              rw [← sx, ← sy] at hx'
              simp only [upd_apply] at hx' ⊢
              grind
            · have sx := part_next (iv (rowX s j)) [.int .i64 0] k hx (by simp [rowX, eqX, e1, e2])
              have sy := part_next (iv (rowY s j)) [.int .i64 0] k hy (by simp [rowY, eqY, e1, e2])
              refine ⟨k + 1, by omega, by omega, rfl, by simp, ?_⟩
              intro x y hx'
              rw [← sx, ← sy] at hx'
              simp only [upd_apply] at hx' ⊢
              grind
        · have : k = s.ms.length := by omega
          subst this
          rw [part_all _ _ _ (by simp), part_all _ _ _ (by simp)]
          intro gp hgp hpb hpa hbp
          have npg : gp ≠ g := fun e => by rw [e, hb] at hbp; cases hbp
          have er2 : List.range 2 = [0, 1] := rfl
          simp [er2, appV, elsV, Int.not_lt.2 hgp, hpb, hpa, Ne.symm hpb, Ne.symm hpa, nga, ngb, Ne.symm nga, Ne.symm ngb, npg, Ne.symm npg, hb, hel]
          refine ⟨by omega, fun gn hgn hbn => ?_⟩
          have w9 : IntKind.i64.wrap ((i : Int) + 1) = i + 1 := i64_in (by omega) (by omega)
          rw [loopQ_normal]
          subst hj
          have nx := eqInv_next ⟨hi, hb, hel, ho, hn, hg, hf, hsb, hneg⟩ h hga hba hgb hab hbb hpa hpb hbp hgn hbn
          refine ⟨_, nx, by simp only; omega, rfl, ?_, sub_eq rfl⟩
          simp [w9]; exact ⟨rfl, by omega⟩
    · simp
      refine ⟨by omega, by unfold maxLen; omega, fun gb hgb hbb => ⟨by simp [hbb], ?_⟩⟩
      refine DAny_one (i := 5) (by kernel_rfl) rfl rfl ?_
      simp
      refine ⟨by omega, by unfold maxLen; omega, fun ga hga hab hba => ⟨by simp [hba, hbb, hab], ?_⟩⟩
      refine DAny_one (i := 12) (by kernel_rfl) rfl rfl ?_
      simp
      refine ⟨by simp [hba, hbb, hab], DAny_one (i := 13) (by kernel_rfl) rfl rfl ?_⟩
      simp
      refine ⟨by simp [hba, hbb, hab], DAny_done (by kernel_rfl) ?_⟩
      simp [Str.c]
      -- the state behind the region
      have nga : ga ≠ g := fun e => by rw [e, hb] at hba; cases hba
      have ngb : gb ≠ g := fun e => by rw [e, hb] at hbb; cases hbb
      have fa := fresh_of hsb hba
      have fb := fresh_of hsb hbb
      have er : List.replicate s.ms.length [V.int IntKind.i64 0] = part (iv (rowX s j)) [.int .i64 0] 0 := by simp
      have er' : List.replicate s.ms.length [V.int IntKind.i64 0] = part (iv (rowY s j)) [.int .i64 0] 0 := by simp
      refine AW_for (fun k : Nat => [(0, .ptr s.c), (3, .lsl g 1 0 (2 * i)), (5, .int .i64 j), (6, .lsl ga 1 0 s.ms.length), (7, .lsl gb 1 0 s.ms.length), (13, .sl (iv (frees s.js))), (14, .int .i64 (frees s.js).length), (15, .int .i64 i), (34, .sl (mv s.ms)), (35, .int .i64 s.ms.length), (36, .int .i64 k)])
        (fun k => upd (upd b ga (some ⟨1, part (iv (rowX s j)) [.int .i64 0] k⟩)) gb (some ⟨1, part (iv (rowY s j)) [.int .i64 0] k⟩)) (fun k => k ≤ s.ms.length) (fun k => s.ms.length - k) 82 0 (Nat.zero_le _) ⟨rfl, by simp [Str.c], ?_⟩ ?_
      · intro x y hx
        simp only [upd_apply, part_zero, iv_length, rowX_length, rowY_length] at hx ⊢
        grind
      intro k hk
      refine AW_run ?_
      simp
      refine ⟨fun hkl => ?_, fun hkl => ?_⟩
      · have hv := v_le hs (List.getElem_mem hkl)
        have hm : mat s (k : Int) = s.ms[k] := mat_nat hkl
        have hvec := vector_ro s k hs (by omega) (by omega)
        rw [hm] at hvec
        have hx : k < (iv (rowX s j)).length := by simpa using hkl
        have hy : k < (iv (rowY s j)).length := by simpa using hkl
        have w1 : IntKind.i64.wrap ((k : Int) + 1) = k + 1 := i64_in (by omega) (by omega)
        have nx : IntKind.i64.wrap (-vx s s.ms[k]) = -vx s s.ms[k] := i64_in (by omega) (by omega)
        have ny : IntKind.i64.wrap (-vy s s.ms[k]) = -vy s s.ms[k] := i64_in (by omega) (by omega)
        have px := part_get (iv (rowX s j)) [.int .i64 0] k hx
        have py := part_get (iv (rowY s j)) [.int .i64 0] k hy
        simp [hkl, Mb.c]
        intro g9 hg9 h9b h9a hb9
        refine callP_ro hvec ?_
        simp
        refine ⟨fun e1 => ?_, fun e1 => ?_⟩
        · simp [hab, Ne.symm hab, h9a, h9b, Ne.symm h9a, Ne.symm h9b, hkl, px, py, w1, loopQ_normal]
          have sx := part_set (iv (rowX s j)) [.int .i64 0] k hx [.int .i64 (vx s s.ms[k])] (by simp [rowX, eqX, e1])
          have sy := part_set (iv (rowY s j)) [.int .i64 0] k hy [.int .i64 (vy s s.ms[k])] (by simp [rowY, eqY, e1])
          refine ⟨k + 1, by omega, by omega, rfl, by simp, ?_⟩
          intro x y hx'
          rw [← sx, ← sy] at hx'
          simp only [upd_apply] at hx' ⊢
          grind
        · simp [hab, Ne.symm hab, h9a, h9b, Ne.symm h9a, Ne.symm h9b, hkl, px, py, w1, nx, ny, loopQ_normal]
          refine ⟨fun e2 => ?_, fun e2 => ?_⟩
          · have fx : eqX s j s.ms[k] = -vx s s.ms[k] := by rw [eqX, if_neg e1, if_pos e2]
            have fy : eqY s j s.ms[k] = -vy s s.ms[k] := by rw [eqY, if_neg e1, if_pos e2]
            have sx := part_set (iv (rowX s j)) [.int .i64 0] k hx [.int .i64 (-vx s s.ms[k])] (by simp [rowX, fx])
            have sy := part_set (iv (rowY s j)) [.int .i64 0] k hy [.int .i64 (-vy s s.ms[k])] (by simp [rowY, fy])
            refine ⟨k + 1, by omega, by omega, rfl, by simp, ?_⟩
            intro x y hx'
            rw [← sx, ← sy] at hx'
            simp only [upd_apply] at hx' ⊢
            grind
          · have sx := part_next (iv (rowX s j)) [.int .i64 0] k hx (by simp [rowX, eqX, e1, e2])
            have sy := part_next (iv (rowY s j)) [.int .i64 0] k hy (by simp [rowY, eqY, e1, e2])
            refine ⟨k + 1, by omega, by omega, rfl, by simp, ?_⟩
            intro x y hx'
            rw [← sx, ← sy] at hx'
            simp only [upd_apply] at hx' ⊢
            grind
      · have : k = s.ms.length := by omega
        subst this
        rw [part_all _ _ _ (by simp), part_all _ _ _ (by simp)]
        intro gp hgp hpb hpa hbp
        have npg : gp ≠ g := fun e => by rw [e, hb] at hbp; cases hbp
        have er2 : List.range 2 = [0, 1] := rfl
        simp [er2, appV, elsV, Int.not_lt.2 hgp, hpb, hpa, Ne.symm hpb, Ne.symm hpa, nga, ngb, Ne.symm nga, Ne.symm ngb, npg, Ne.symm npg, hb, hel]
        refine ⟨by omega, fun gn hgn hbn => ?_⟩
        have w9 : IntKind.i64.wrap ((i : Int) + 1) = i + 1 := i64_in (by omega) (by omega)
        rw [loopQ_normal]
        subst hj
        have nx := eqInv_next ⟨hi, hb, hel, ho, hn, hg, hf, hsb, hneg⟩ h hga hba hgb (Ne.symm hab) hbb hpa hpb hbp hgn hbn
        refine ⟨_, nx, by simp only; omega, rfl, ?_, sub_eq rfl⟩
        simp [w9]; exact ⟨rfl, by omega⟩
  · have : i = (frees s.js).length := by omega
    subst this
    refine retNW [.lsl g 1 0 (2 * (frees s.js).length)] (g :: gs) (by simp) ?_ ?_ hsb
    · unfold dII
      rw [OwnD]
      have e : eqRows s = eqTo s (frees s.js).length := by simp [eqTo, eqRows]
      refine .inr ⟨g, els, gs, by rw [e, List.length_map, eqTo_length s _ (Nat.le_refl _)]; rfl, rfl, hn, hb, hneg, ?_⟩
      rw [e]; exact ho
    · intro x hx
      rcases List.mem_cons.1 hx with rfl | hx
      · exact hg
      · exact hf x hx

end Go.Proofs.YthhjmaianlmfpaaGreat.Vm

namespace Go.Proofs.YthhjmaianlmfpaaGreat.Vm
open Go Go.Proofs
set_option linter.unusedSimpArgs false
set_option linter.unusedVariables false

def colK (m : Mb) (k : Nat) : List (Int × Int) := (if m.kind = 2 then [] else [((k : Int), 1)]) ++ (if m.kind = 1 then [] else [((k : Int), -1)])
def colsTo (ms : List Mb) (n : Nat) : List (Int × Int) := (List.range n).flatMap fun k => colK (ms.getD k default) k
def cols (ms : List Mb) : List (Int × Int) := colsTo ms ms.length
def cv (cs : List (Int × Int)) : List (List V) := cs.map fun p => [.int .i64 p.1, .int .i64 p.2]
theorem colsTo_succ (ms : List Mb) (n : Nat) : colsTo ms (n + 1) = colsTo ms n ++ colK (ms.getD n default) n := by
  unfold colsTo
  rw [List.range_succ, List.flatMap_append]; simp
theorem colK_le (m : Mb) (k : Nat) : (colK m k).length ≤ 2 := by
  unfold colK; split <;> split <;> simp
theorem colsTo_le (ms : List Mb) : ∀ n, (colsTo ms n).length ≤ 2 * n
  | 0 => by simp [colsTo]
  | n + 1 => by
    rw [colsTo_succ, List.length_append]
    have := colsTo_le ms n
    have := colK_le (ms.getD n default) n
    omega
theorem cv_append (a b : List (Int × Int)) : cv (a ++ b) = cv a ++ cv b := by simp [cv]
@[simp] theorem cv_length (a : List (Int × Int)) : (cv a).length = a.length := by simp [cv]
theorem cv_takeall (a : List (Int × Int)) : (cv a).take a.length = cv a := by rw [← cv_length a, List.take_length]
theorem cv_cl (a : List (Int × Int)) : (cv a).all (fun e => e.all V.cl) = true := by simp [cv, V.cl]
theorem cv_clen (a : List (Int × Int)) : ∀ r, r ∈ cv a → r.length = 2 := by
  intro r hr
  obtain ⟨n, _, rfl⟩ := List.mem_map.1 hr
  rfl
theorem own_cv {bl : Int → Option Blk} {ns : List (Int × Int)} {v : V} {gs : List Int} : OwnD bl (fl 2 (cv ns)) v gs ↔ (ns = [] ∧ v = .nils ∧ gs = []) ∨ ∃ g, v = .lsl g 2 0 ns.length ∧ gs = [g] ∧ bl g = some ⟨2, cv ns⟩ ∧ (g < 0 → ns = []) := by
  rw [own_fl (cv_cl ns) (cv_clen ns)]
  simp [cv]

theorem columns_nw (s : Str) (hm : s.ms.length ≤ 8) : NW Tryz.prog 97 [.ptr s.c] (fl 2 (cv (cols s.ms))) := by
  refine nw_of Tryz.func97 rfl rfl (by rw [Tryz.ntmps97]; simp) fun bl => ?_
  rw [Tryz.ntmps97, Tryz.results97]
  refine AW_run ?_
  simp [Str.c]
  refine AW_ghost 3 2 (by simp) fun g00 hg00 => ?_
  refine AW_for (fun p : Nat × Int => [(3, .lsl p.2 2 0 (colsTo s.ms p.1).length), (9, .sl (mv s.ms)), (10, .int .i64 s.ms.length), (11, .int .i64 p.1)]) (fun p => upd bl p.2 (some ⟨2, cv (colsTo s.ms p.1)⟩)) (fun p => p.1 ≤ s.ms.length ∧ bl p.2 = none ∧ (p.2 < 0 → colsTo s.ms p.1 = [])) (fun p => s.ms.length - p.1) _ (0, g00) ⟨Nat.zero_le _, hg00, fun _ => rfl⟩ ⟨rfl, by simp [colsTo], sub_eq (by simp [colsTo, cv])⟩ ?_
  rintro ⟨i, g⟩ ⟨hi, hg, h0⟩
  simp only at hi hg h0
  have hl := colsTo_le s.ms i
  refine AW_run ?_
  simp
  refine ⟨fun h => ?_, fun h => ?_⟩
  · have w1 : IntKind.i64.wrap ((i : Int) + 1) = i + 1 := i64_in (by omega) (by omega)
    have hsc := colsTo_succ s.ms i
    rw [getD_at _ _ _ h] at hsc
    simp [h, Mb.c]
    intro g1 hg1 h1g hb1
    refine ⟨fun hf => ?_, fun hf => ?_⟩
    · intro g2 hg2 h21 h2g hb2
      simp [h1g, h21, h2g, Ne.symm h1g, Ne.symm h21, Ne.symm h2g, appV, elsV, Int.not_lt.2 hg2]
      refine ⟨by omega, fun g3 hg3 hb3 => ?_⟩
      have h31 : g3 ≠ g1 := by grind
      have hb3' : bl g3 = none := by grind
      simp [h31, Ne.symm h31, h1g, h21, Ne.symm h1g, Ne.symm h21]
      refine ⟨fun hf2 => ?_, fun hf2 => ?_⟩
      · intro g4 hg4 h43 h42
        simp [h43, Ne.symm h43, h31, Ne.symm h31, appV, elsV, Int.not_lt.2 hg4]
        refine ⟨by omega, fun g5 hg5 hb5 => ?_⟩
        have hb5' : bl g5 = none := by grind
        have hb4 : bl g4 = none := by grind
        have hs1 : colsTo s.ms (i + 1) = colsTo s.ms i ++ [((i : Int), 1)] ++ [((i : Int), -1)] := by rw [hsc, colK, if_neg hf, if_neg hf2, List.append_assoc]
        simp [w1, loopQ_normal]
        refine ⟨i + 1, g5, ⟨by omega, hb5', by omega⟩, by omega, rfl, by simp [hs1], ?_⟩
        rw [hs1, cv_append, cv_append]
        exact sub_put (by rw [cv_takeall, List.take_of_length_le (by simp)]; rfl) (by simp [hg, hb1, hb2, hb3', hb4, h1g, h21, h2g])
      · have hs1 : colsTo s.ms (i + 1) = colsTo s.ms i ++ [((i : Int), 1)] := by rw [hsc, colK, if_neg hf, if_pos hf2, List.append_nil]
        simp [w1, loopQ_normal]
        refine ⟨i + 1, g3, ⟨by omega, hb3', by omega⟩, by omega, rfl, by simp [hs1], ?_⟩
        rw [hs1, cv_append]
        exact sub_put (by rw [cv_takeall]; rfl) (by simp [hg, hb1, hb2, h1g, h21, h2g])
    · refine ⟨fun hf2 => ?_, fun hf2 => ?_⟩
      · intro g2 hg2 h21 h2g hb2
        simp [h1g, h21, h2g, Ne.symm h1g, Ne.symm h21, Ne.symm h2g, appV, elsV, Int.not_lt.2 hg2]
        refine ⟨by omega, fun g3 hg3 hb3 => ?_⟩
        have hb3' : bl g3 = none := by grind
        have hs1 : colsTo s.ms (i + 1) = colsTo s.ms i ++ [((i : Int), -1)] := by rw [hsc, colK, if_pos hf, if_neg hf2, List.nil_append]
        simp [w1, loopQ_normal]
        refine ⟨i + 1, g3, ⟨by omega, hb3', by omega⟩, by omega, rfl, by simp [hs1], ?_⟩
        rw [hs1, cv_append]
        exact sub_put (by rw [cv_takeall]; rfl) (by simp [hg, hb1, hb2, h1g, h21, h2g])
      · omega
  · have hi : i = s.ms.length := by omega
    subst hi
    refine retNW [.lsl g 2 0 (colsTo s.ms s.ms.length).length] [g] (by simp) ?_ (by simpa using hg) (by simp [hg])
    refine own_cv.2 (.inr ⟨g, rfl, rfl, by simp [cols], h0⟩)

theorem iv_two (a b : Int) : iv [a, b] = [[.int .i64 a], [.int .i64 b]] := rfl
theorem iv_one (a : Int) : iv [a] = [[.int .i64 a]] := rfl

def who (s : Str) : List Int := (cols s.ms).map (·.1)
def sgn (s : Str) : List Int := (cols s.ms).map (·.2)
def dWS (s : Str) : D := .t [fl 1 (iv (who s)), fl 1 (iv (sgn s))]
structure Two where
  i : Nat
  g : Int
  h : Int
  b : Int → Option Blk
def twoInv (bl : Int → Option Blk) (A B : Nat → List Int) (n : Nat) (p : Two) : Prop :=
  p.i ≤ n ∧ p.g ≠ p.h ∧ p.b p.g = some ⟨1, iv (A p.i)⟩ ∧ p.b p.h = some ⟨1, iv (B p.i)⟩ ∧ bl p.g = none ∧ bl p.h = none ∧ Sub bl p.b ∧ (p.g < 0 → A p.i = []) ∧ (p.h < 0 → B p.i = [])

set_option maxHeartbeats 1000000 in
theorem l15Columns_nw (s : Str) (hm : s.ms.length ≤ 8) : NW Tryz.prog 92 [.agg s.c] (dWS s) := by
  refine nw_of Tryz.func92 rfl rfl (by rw [Tryz.ntmps92]; simp) fun bl => ?_
  rw [Tryz.ntmps92, Tryz.results92]
  refine AW_run ?_
  simp [Str.c]
  intro gs hgs0 hgs ga hga0 hgas hbga gb hgb0 hgba hgbs hbgb
  simp [hgas, Ne.symm hgas, hgba, Ne.symm hgba, hgbs, Ne.symm hgbs]
  refine AW_for (fun p : Two => [(4, .lsl p.g 1 0 (colsTo s.ms p.i).length), (5, .lsl p.h 1 0 (colsTo s.ms p.i).length), (11, .sl (mv s.ms)), (12, .int .i64 s.ms.length), (13, .int .i64 p.i)]) (fun p => p.b) (twoInv bl (fun n => (colsTo s.ms n).map (·.1)) (fun n => (colsTo s.ms n).map (·.2)) s.ms.length) (fun p => s.ms.length - p.i) 41 ⟨0, ga, gb, upd (upd (upd bl gs (some ⟨2, [[.sl (jv s.js), .sl (mv s.ms)]]⟩)) ga (some ⟨1, []⟩)) gb (some ⟨1, []⟩)⟩ ⟨Nat.zero_le _, Ne.symm hgba, by simp [Ne.symm hgba, colsTo, iv], by simp [colsTo, iv], hbga, hbgb, by simp [hgs, hbga, hbgb], fun _ => rfl, fun _ => rfl⟩ ⟨rfl, by simp [colsTo], sub_eq (by simp)⟩ ?_
  rintro ⟨i, g, h', b⟩ ⟨hi, hgh, hbg, hbh, hg, hh, hsb, h0, h1⟩
  simp only at hi hgh hbg hbh hg hh hsb h0 h1
  have hl := colsTo_le s.ms i
  have fr : ∀ x, b x = none → bl x = none := fun x hx => fresh_of hsb hx
  refine AW_run ?_
  simp
  refine ⟨fun h => ?_, fun h => ?_⟩
  · have w1 : IntKind.i64.wrap ((i : Int) + 1) = i + 1 := i64_in (by omega) (by omega)
    have hsc := colsTo_succ s.ms i
    rw [getD_at _ _ _ h] at hsc
    have tkA : List.take (colsTo s.ms i).length (iv ((colsTo s.ms i).map (·.1))) = iv ((colsTo s.ms i).map (·.1)) := List.take_of_length_le (by simp)
    have tkA2 : ∀ x : List V, List.take ((colsTo s.ms i).length + 1) (iv ((colsTo s.ms i).map (·.1)) ++ [x]) = iv ((colsTo s.ms i).map (·.1)) ++ [x] := fun x => List.take_of_length_le (by simp)
    have tkB2 : ∀ x : List V, List.take ((colsTo s.ms i).length + 1) (iv ((colsTo s.ms i).map (·.2)) ++ [x]) = iv ((colsTo s.ms i).map (·.2)) ++ [x] := fun x => List.take_of_length_le (by simp)
    have tkB : List.take (colsTo s.ms i).length (iv ((colsTo s.ms i).map (·.2))) = iv ((colsTo s.ms i).map (·.2)) := List.take_of_length_le (by simp)
    simp [h, Mb.c]
    intro g1 hg1 hb1
    have n1g : g1 ≠ g := fun e => by rw [e, hbg] at hb1; cases hb1
    have n1h : g1 ≠ h' := fun e => by rw [e, hbh] at hb1; cases hb1
    refine ⟨fun hf => ?_, fun hf => ?_⟩
    · intro g2 hg2 h21 hb2
      have n2g : g2 ≠ g := fun e => by rw [e, hbg] at hb2; cases hb2
      have n2h : g2 ≠ h' := fun e => by rw [e, hbh] at hb2; cases hb2
      simp [hbg, n1g, h21, n2g, Ne.symm n1g, Ne.symm h21, Ne.symm n2g, appV, elsV, Int.not_lt.2 hg2]
      refine ⟨by omega, fun g3 hg3 hb3 => ?_⟩
      have n31 : g3 ≠ g1 := by grind
      have n3h : g3 ≠ h' := by grind
      simp [n31, Ne.symm n31, n3h, Ne.symm n3h]
      intro g4 hg4 h43 hb4
      have n41 : g4 ≠ g1 := by grind
      have n4h : g4 ≠ h' := by grind
      simp [hgh, Ne.symm hgh, hbh, n1h, Ne.symm n1h, n2h, Ne.symm n2h, n31, Ne.symm n31, n3h, Ne.symm n3h, n41, Ne.symm n41, n4h, Ne.symm n4h, h43, Ne.symm h43, appV, elsV, Int.not_lt.2 hg4]
      refine ⟨by omega, fun g5 hg5 hb5 => ?_⟩
      have n51 : g5 ≠ g1 := by grind
      have n53 : g5 ≠ g3 := by grind
      simp [hgh, Ne.symm hgh, n1h, Ne.symm n1h, n31, Ne.symm n31, n51, Ne.symm n51, n41, Ne.symm n41, h21, Ne.symm h21, n1g, Ne.symm n1g]
      refine ⟨fun hf2 => ?_, fun hf2 => ?_⟩
      · intro g6 hg6 n65 hb6
        have n61 : g6 ≠ g1 := by grind
        have n63 : g6 ≠ g3 := by grind
        simp [n3h, Ne.symm n3h, n1g, Ne.symm n1g, n31, Ne.symm n31, hgh, Ne.symm hgh, n65, Ne.symm n65, n61, Ne.symm n61, n63, Ne.symm n63, n53, Ne.symm n53, h43, Ne.symm h43, appV, elsV, Int.not_lt.2 hg6, tkA, tkB]
        refine ⟨by omega, fun g7 hg7 hb7 => ?_⟩
        have n71 : g7 ≠ g1 := by grind
        have n75 : g7 ≠ g5 := by grind
        simp [n71, Ne.symm n71, n75, Ne.symm n75]
        intro g8 hg8 n87 hb8
        have n81 : g8 ≠ g1 := by grind
        have n85 : g8 ≠ g5 := by grind
        simp [n71, Ne.symm n71, n75, Ne.symm n75, n81, Ne.symm n81, n85, Ne.symm n85, n87, Ne.symm n87, n65, Ne.symm n65, n53, Ne.symm n53, appV, elsV, Int.not_lt.2 hg8, tkA, tkB]
        refine ⟨by omega, fun g9 hg9 hb9 => ?_⟩
        have n91 : g9 ≠ g1 := by grind
        have n97 : g9 ≠ g7 := by grind
        have e1 : colsTo s.ms (i + 1) = colsTo s.ms i ++ [((i : Int), 1)] ++ [((i : Int), -1)] := by rw [hsc, colK, if_neg hf, if_neg hf2, List.append_assoc]
        simp [w1, loopQ_normal]
        refine ⟨⟨i + 1, g7, g9, _⟩, ⟨by simp only; omega, by simp only; grind, ?_, ?_, by simp only; grind, by simp only; grind, ?_, fun e => by simp only at e; omega, fun e => by simp only at e; omega⟩, by simp only; omega, rfl, by simp [e1], sub_eq rfl⟩
        · simp [hgh, Ne.symm hgh, n1h, Ne.symm n1h, n31, Ne.symm n31, n51, Ne.symm n51, n53, Ne.symm n53, n41, Ne.symm n41, h43, Ne.symm h43, n71, Ne.symm n71, n75, Ne.symm n75, n61, Ne.symm n61, n63, Ne.symm n63, n81, n87, n85, Ne.symm n81, Ne.symm n85, Ne.symm n87, n91, n97, Ne.symm n91, Ne.symm n97, n3h, Ne.symm n3h, n4h, Ne.symm n4h, e1, iv_append, iv_one, iv_two, tkA, tkB, tkA2, tkB2]
        · simp [hgh, Ne.symm hgh, n1h, Ne.symm n1h, n31, Ne.symm n31, n51, Ne.symm n51, n53, Ne.symm n53, n41, Ne.symm n41, h43, Ne.symm h43, n71, Ne.symm n71, n75, Ne.symm n75, n61, Ne.symm n61, n63, Ne.symm n63, n81, n87, n85, Ne.symm n81, Ne.symm n85, Ne.symm n87, n91, n97, Ne.symm n91, Ne.symm n97, n3h, Ne.symm n3h, n4h, Ne.symm n4h, e1, iv_append, iv_one, iv_two, tkA, tkB, tkA2, tkB2]
        · intro x y hx
          have hbx := hsb x y hx
          have ng : x ≠ g := fun e => by rw [e, hg] at hx; cases hx
          have nh : x ≠ h' := fun e => by rw [e, hh] at hx; cases hx
          simp [upd_apply, rem_apply]
          grind
      · skip
        have e1 : colsTo s.ms (i + 1) = colsTo s.ms i ++ [((i : Int), 1)] := by rw [hsc, colK, if_neg hf, if_pos hf2, List.append_nil]
        simp [w1, loopQ_normal]
        refine ⟨⟨i + 1, g3, g5, _⟩, ⟨by simp only; omega, by simp only; grind, ?_, ?_, by simp only; grind, by simp only; grind, ?_, fun e => by simp only at e; omega, fun e => by simp only at e; omega⟩, by simp only; omega, rfl, by simp [e1], sub_eq rfl⟩
        · simp [hgh, Ne.symm hgh, n1h, Ne.symm n1h, n31, Ne.symm n31, n51, Ne.symm n51, n53, Ne.symm n53, n41, Ne.symm n41, h43, Ne.symm h43, n3h, Ne.symm n3h, n4h, Ne.symm n4h, e1, iv_append, iv_one, iv_two, tkA, tkB, tkA2, tkB2]
        · simp [hgh, Ne.symm hgh, n1h, Ne.symm n1h, n31, Ne.symm n31, n51, Ne.symm n51, n53, Ne.symm n53, n41, Ne.symm n41, h43, Ne.symm h43, n3h, Ne.symm n3h, n4h, Ne.symm n4h, e1, iv_append, iv_one, iv_two, tkA, tkB, tkA2, tkB2]
        · intro x y hx
          have hbx := hsb x y hx
          have ng : x ≠ g := fun e => by rw [e, hg] at hx; cases hx
          have nh : x ≠ h' := fun e => by rw [e, hh] at hx; cases hx
          simp [upd_apply, rem_apply]
          grind
    · refine ⟨fun hf2 => ?_, fun hf2 => ?_⟩
      · intro g2 hg2 h21 hb2
        have n2g : g2 ≠ g := fun e => by rw [e, hbg] at hb2; cases hb2
        have n2h : g2 ≠ h' := fun e => by rw [e, hbh] at hb2; cases hb2
        simp [hbg, n1g, h21, n2g, Ne.symm n1g, Ne.symm h21, Ne.symm n2g, appV, elsV, Int.not_lt.2 hg2]
        refine ⟨by omega, fun g3 hg3 hb3 => ?_⟩
        have n31 : g3 ≠ g1 := by grind
        have n3h : g3 ≠ h' := by grind
        simp [n31, Ne.symm n31, n3h, Ne.symm n3h]
        intro g4 hg4 h43 hb4
        have n41 : g4 ≠ g1 := by grind
        have n4h : g4 ≠ h' := by grind
        simp [hgh, Ne.symm hgh, hbh, n1h, Ne.symm n1h, n2h, Ne.symm n2h, n31, Ne.symm n31, n3h, Ne.symm n3h, n41, Ne.symm n41, n4h, Ne.symm n4h, h43, Ne.symm h43, appV, elsV, Int.not_lt.2 hg4]
        refine ⟨by omega, fun g5 hg5 hb5 => ?_⟩
        have n51 : g5 ≠ g1 := by grind
        have n53 : g5 ≠ g3 := by grind
        have e1 : colsTo s.ms (i + 1) = colsTo s.ms i ++ [((i : Int), -1)] := by rw [hsc, colK, if_pos hf, if_neg hf2, List.nil_append]
        simp [w1, loopQ_normal]
        refine ⟨⟨i + 1, g3, g5, _⟩, ⟨by simp only; omega, by simp only; grind, ?_, ?_, by simp only; grind, by simp only; grind, ?_, fun e => by simp only at e; omega, fun e => by simp only at e; omega⟩, by simp only; omega, rfl, by simp [e1], sub_eq rfl⟩
        · simp [hgh, Ne.symm hgh, n1h, Ne.symm n1h, n31, Ne.symm n31, n51, Ne.symm n51, n53, Ne.symm n53, n41, Ne.symm n41, h43, Ne.symm h43, n3h, Ne.symm n3h, n4h, Ne.symm n4h, e1, iv_append, iv_one, iv_two, tkA, tkB, tkA2, tkB2]
        · simp [hgh, Ne.symm hgh, n1h, Ne.symm n1h, n31, Ne.symm n31, n51, Ne.symm n51, n53, Ne.symm n53, n41, Ne.symm n41, h43, Ne.symm h43, n3h, Ne.symm n3h, n4h, Ne.symm n4h, e1, iv_append, iv_one, iv_two, tkA, tkB, tkA2, tkB2]
        · intro x y hx
          have hbx := hsb x y hx
          have ng : x ≠ g := fun e => by rw [e, hg] at hx; cases hx
          have nh : x ≠ h' := fun e => by rw [e, hh] at hx; cases hx
          simp [upd_apply, rem_apply]
          grind
      · omega
  · have hi : i = s.ms.length := by omega
    subst hi
    refine retNW [.lsl g 1 0 (colsTo s.ms s.ms.length).length, .lsl h' 1 0 (colsTo s.ms s.ms.length).length] [g, h'] (by simp) ?_ (by simp [hg, hh]) hsb
    unfold dWS
    rw [OwnD]
    exact ⟨_, rfl, own_pair.2 ⟨_, _, [g], [h'], rfl, rfl, by simpa using hgh, own_iv.2 (.inr ⟨g, by simp [who, cols], rfl, hbg, h0⟩), own_iv.2 (.inr ⟨h', by simp [sgn, cols], rfl, hbh, h1⟩)⟩⟩
theorem l15Columns_ro (s : Str) (hm : s.ms.length ≤ 8) : RO Tryz.prog 92 [.agg s.c] (.tup [.sl (iv (who s)), .sl (iv (sgn s))]) := by
  have := ro_of_nw 2 (l15Columns_nw s hm) (by simp [dWS, D.dep, D.depL, fl_dep])
  simpa [dWS, D.fz, D.fzL] using this
theorem columns_ro (s : Str) (hm : s.ms.length ≤ 8) : RO Tryz.prog 97 [.ptr s.c] (.sl (cv (cols s.ms))) := by
  have := ro_of_nw 1 (columns_nw s hm) (fl_dep _ _ 0)
  simpa using this

end Go.Proofs.YthhjmaianlmfpaaGreat.Vm

namespace Go.Proofs.YthhjmaianlmfpaaGreat.Vm
open Go Go.Proofs
set_option linter.unusedSimpArgs false
set_option linter.unusedVariables false

def vsg (p : Int) (x : Option Rat) : Option Rat := if p < 0 then x.map (- ·) else x
def stI (acc : List (Option Rat)) (p : Int × Int) (x : Option Rat) : List (Option Rat) :=
  acc.set p.1.toNat (if (acc.getD p.1.toNat none).isSome = true then op2 (· + ·) (acc.getD p.1.toNat none) (vsg p.2 x) else vsg p.2 x)
def stS (acc : List (Option Rat)) (p : Int × Int) (x : Option Rat) : List (Option Rat) :=
  acc.set p.1.toNat (if 0 < p.2 then op2 (· + ·) (acc.getD p.1.toNat none) x else op2 (· - ·) (acc.getD p.1.toNat none) x)
def runI (ms : List Mb) (d : List (Option Rat)) (t : Nat) : List (Option Rat) := (List.range t).foldl (fun acc j => stI acc ((cols ms).getD j (0, 0)) (d.getD j none)) (List.replicate ms.length none)
def runS (ms : List Mb) (d : List (Option Rat)) (t : Nat) : List (Option Rat) := (List.range t).foldl (fun acc j => stS acc ((cols ms).getD j (0, 0)) (d.getD j none)) (List.replicate ms.length (some 0))
theorem runI_succ (ms : List Mb) (d : List (Option Rat)) (t : Nat) : runI ms d (t + 1) = stI (runI ms d t) ((cols ms).getD t (0, 0)) (d.getD t none) := by
  unfold runI; rw [List.range_succ, List.foldl_append]; rfl
theorem runS_succ (ms : List Mb) (d : List (Option Rat)) (t : Nat) : runS ms d (t + 1) = stS (runS ms d t) ((cols ms).getD t (0, 0)) (d.getD t none) := by
  unfold runS; rw [List.range_succ, List.foldl_append]; rfl
theorem runI_length (ms : List Mb) (d : List (Option Rat)) : ∀ t, (runI ms d t).length = ms.length
  | 0 => by simp [runI]
  | t + 1 => by rw [runI_succ, stI, List.length_set, runI_length ms d t]
theorem runS_length (ms : List Mb) (d : List (Option Rat)) : ∀ t, (runS ms d t).length = ms.length
  | 0 => by simp [runS]
  | t + 1 => by rw [runS_succ, stS, List.length_set, runS_length ms d t]
theorem okQ_none : okQ none := fun _ e => by cases e
theorem vsg_ok {p : Int} {x : Option Rat} (h : okQ x) : okQ (vsg p x) := by
  unfold vsg; split
  · exact okQ_neg h
  · exact h
theorem okL_set {xs : List (Option Rat)} (h : okL xs) (i : Nat) {x : Option Rat} (hx : okQ x) : okL (xs.set i x) := fun y hy => by
  rcases List.mem_or_eq_of_mem_set hy with h1 | h1
  · exact h y h1
  · rw [h1]; exact hx
theorem runI_ok (ms : List Mb) {d : List (Option Rat)} (hd : okL d) : ∀ t, okL (runI ms d t)
  | 0 => fun y hy => by
    have : y ∈ List.replicate ms.length (none : Option Rat) := hy
    rw [List.mem_replicate] at this
    rw [this.2]; exact okQ_none
  | t + 1 => by
    rw [runI_succ, stI]
    refine okL_set (runI_ok ms hd t) _ ?_
    split
    · exact okQ_op2 _ _ _
    · exact vsg_ok (getD_ok hd _)
theorem runS_ok (ms : List Mb) (d : List (Option Rat)) : ∀ t, okL (runS ms d t)
  | 0 => fun y hy => by
    have : y ∈ List.replicate ms.length (some 0 : Option Rat) := hy
    rw [List.mem_replicate] at this
    rw [this.2]; exact okQ_zero
  | t + 1 => by
    rw [runS_succ, stS]
    refine okL_set (runS_ok ms d t) _ ?_
    split
    · exact okQ_op2 _ _ _
    · exact okQ_op2 _ _ _
theorem cols_mem {ms : List Mb} {p : Int × Int} : ∀ n, n ≤ ms.length → p ∈ colsTo ms n → ∃ k : Nat, p.1 = k ∧ k < ms.length ∧ (p.2 = 1 ∨ p.2 = -1) := by
  intro n
  induction n with
  | zero => intro _ h; simp [colsTo] at h
  | succ n ih =>
    intro hn h
    rw [colsTo_succ] at h
    rcases List.mem_append.1 h with h | h
    · exact ih (by omega) h
    · refine ⟨n, ?_⟩
      unfold colK at h
      rcases List.mem_append.1 h with h | h
      · split at h
        · cases h
        · obtain rfl : p = _ := by simpa using h
          exact ⟨rfl, by omega, .inl rfl⟩
      · split at h
        · cases h
        · obtain rfl : p = _ := by simpa using h
          exact ⟨rfl, by omega, .inr rfl⟩
theorem colsTo_get (ms : List Mb) (n : Nat) (j : Nat) (hj : j < (colsTo ms n).length) : ∀ N, n ≤ N → (colsTo ms N).getD j (0, 0) = (colsTo ms n).getD j (0, 0) ∧ (colsTo ms n).length ≤ (colsTo ms N).length := by
  intro N hN
  induction N with
  | zero => obtain rfl : n = 0 := by omega
            exact ⟨rfl, Nat.le_refl _⟩
  | succ N ih =>
    rcases Nat.lt_or_ge n (N + 1) with h | h
    · obtain ⟨h1, h2⟩ := ih (by omega)
      rw [colsTo_succ]
      refine ⟨?_, by rw [List.length_append]; omega⟩
      rw [← h1, List.getD_eq_getElem?_getD, List.getElem?_append_left (by omega)]
      exact (List.getD_eq_getElem?_getD ..).symm
    · obtain rfl : n = N + 1 := by omega
      exact ⟨rfl, Nat.le_refl _⟩
theorem getD_set_eq {xs : List (Option Rat)} {i : Nat} (h : i < xs.length) (x : Option Rat) : (xs.set i x).getD i none = x := by
  rw [List.getD_eq_getElem?_getD, List.getElem?_set_self h]; rfl
theorem getD_set_ne {xs : List (Option Rat)} {i k : Nat} (h : i ≠ k) (x : Option Rat) : (xs.set i x).getD k none = xs.getD k none := by
  rw [List.getD_eq_getElem?_getD, List.getElem?_set_ne h, List.getD_eq_getElem?_getD]
theorem op2_zero_add {x : Option Rat} (h : okQ x) : op2 (· + ·) (some 0) x = x := by
  cases x with
  | none => rfl
  | some q =>
    show fit (0 + q) = some q
    rw [Rat.zero_add]; unfold fit; rw [if_pos (h q rfl)]
theorem op2_zero_sub {x : Option Rat} (h : okQ x) : op2 (· - ·) (some 0) x = x.map (- ·) := by
  have hn := okQ_neg h
  cases x with
  | none => rfl
  | some q =>
    show fit (0 - q) = some (-q)
    rw [Rat.sub_eq_add_neg, Rat.zero_add]; unfold fit; rw [if_pos (hn (-q) rfl)]
theorem op2_add_neg (x y : Option Rat) : op2 (· + ·) x (y.map (- ·)) = op2 (· - ·) x y := by
  cases x with
  | none => rfl
  | some a =>
    cases y with
    | none => rfl
    | some b => show fit (a + -b) = fit (a - b); rw [Rat.sub_eq_add_neg]

def denInv (ms : List Mb) (A B : List (Option Rat)) (n : Nat) : Prop := ∀ k, k < ms.length → (k < n → A.getD k none = B.getD k none) ∧ (n ≤ k → A.getD k none = none ∧ B.getD k none = some 0)
theorem den_step (ms : List Mb) (d : List (Option Rat)) (hd : okL d) (hs : ∀ j, j < (cols ms).length → (d.getD j none).isSome = true) (hk : ∀ m, m ∈ ms → 1 ≤ m.kind ∧ m.kind ≤ 3) : ∀ n, n ≤ ms.length → denInv ms (runI ms d (colsTo ms n).length) (runS ms d (colsTo ms n).length) n := by
  intro n
  induction n with
  | zero =>
    intro _ k hk
    refine ⟨fun h => by omega, fun _ => ?_⟩
    simp [colsTo, runI, runS, hk]
  | succ n ih =>
    intro hn
    have H := ih (by omega)
    have hA := runI_length ms d (colsTo ms n).length
    have hB := runS_length ms d (colsTo ms n).length
    have hmn : ms.getD n default = ms[n] := getD_at _ _ _ (by omega)
    have hkk := hk _ (List.getElem_mem (show n < ms.length by omega))
    have hcs := colsTo_succ ms n
    rw [hmn] at hcs
    have hget : ∀ i, i < (colK ms[n] n).length → (cols ms).getD ((colsTo ms n).length + i) (0, 0) = (colK ms[n] n).getD i (0, 0) ∧ (colsTo ms n).length + i < (cols ms).length := by
      intro i hi
      have h1 := colsTo_get ms (n + 1) ((colsTo ms n).length + i) (by rw [hcs, List.length_append]; omega) ms.length (by omega)
      refine ⟨?_, ?_⟩
      · rw [show cols ms = colsTo ms ms.length from rfl, h1.1, hcs, List.getD_eq_getElem?_getD, List.getD_eq_getElem?_getD, List.getElem?_append_right (by omega)]
        simp
      · have h2 := h1.2
        rw [hcs, List.length_append] at h2
        show _ < (colsTo ms ms.length).length
        omega
    clear ih
    obtain ⟨L, hL⟩ : ∃ L, (colsTo ms n).length = L := ⟨_, rfl⟩
    rw [hL] at hA hB H hget
    have hAn := (H n (by omega)).2 (Nat.le_refl _)
    have one : ∀ A B : List (Option Rat), ∀ x, A.length = ms.length → B.length = ms.length → (∀ k, k < ms.length → k ≠ n → A.getD k none = (runI ms d L).getD k none ∧ B.getD k none = (runS ms d L).getD k none) → A.getD n none = x → B.getD n none = x → denInv ms A B (n + 1) := by
      intro A B x lA lB hne hx hy k hk
      by_cases e : k = n
      · subst e
        exact ⟨fun _ => by rw [hx, hy], fun h => by omega⟩
      · obtain ⟨e1, e2⟩ := hne k hk e
        have := H k hk
        rw [e1, e2]
        exact ⟨fun h => this.1 (by omega), fun h => this.2 (by omega)⟩
    rw [hcs, List.length_append, hL]
    by_cases k1 : ms[n].kind = 1
    · have ec : colK ms[n] n = [((n : Int), 1)] := by unfold colK; rw [k1]; rfl
      have g0 := hget 0 (by rw [ec]; simp)
      rw [ec] at g0 ⊢
      have s0 := hs _ g0.2
      have o0 := getD_ok hd (L + 0)
      simp only [Nat.add_zero] at g0 s0 o0
      show denInv ms (runI ms d (L + 1)) (runS ms d (L + 1)) (n + 1)
      rw [runI_succ, runS_succ, g0.1]
      generalize d.getD L none = x at *
      refine one _ _ x (by simp [stI, hA]) (by simp [stS, hB]) (fun k _ hk => ?_) ?_ ?_
      · unfold stI stS; simp only [List.getD_cons_zero, Int.toNat_natCast]
        rw [getD_set_ne (Ne.symm hk), getD_set_ne (Ne.symm hk)]; exact ⟨rfl, rfl⟩
      · unfold stI; simp only [List.getD_cons_zero, Int.toNat_natCast]
        rw [getD_set_eq (by omega), hAn.1]; rfl
      · unfold stS; simp only [List.getD_cons_zero, Int.toNat_natCast]
        rw [getD_set_eq (by omega), hAn.2, if_pos (by omega)]; exact op2_zero_add o0
    by_cases k2 : ms[n].kind = 2
    · have ec : colK ms[n] n = [((n : Int), -1)] := by unfold colK; rw [k2]; rfl
      have g0 := hget 0 (by rw [ec]; simp)
      rw [ec] at g0 ⊢
      have s0 := hs _ g0.2
      have o0 := getD_ok hd (L + 0)
      simp only [Nat.add_zero] at g0 s0 o0
      show denInv ms (runI ms d (L + 1)) (runS ms d (L + 1)) (n + 1)
      rw [runI_succ, runS_succ, g0.1]
      generalize d.getD L none = x at *
      refine one _ _ (x.map (- ·)) (by simp [stI, hA]) (by simp [stS, hB]) (fun k _ hk => ?_) ?_ ?_
      · unfold stI stS; simp only [List.getD_cons_zero, Int.toNat_natCast]
        rw [getD_set_ne (Ne.symm hk), getD_set_ne (Ne.symm hk)]; exact ⟨rfl, rfl⟩
      · unfold stI; simp only [List.getD_cons_zero, Int.toNat_natCast]
        rw [getD_set_eq (by omega), hAn.1]; rfl
      · unfold stS; simp only [List.getD_cons_zero, Int.toNat_natCast]
        rw [getD_set_eq (by omega), hAn.2, if_neg (by omega)]; exact op2_zero_sub o0
    have ec : colK ms[n] n = [((n : Int), 1), ((n : Int), -1)] := by unfold colK; rw [if_neg k2, if_neg k1]; rfl
    have g0 := hget 0 (by rw [ec]; simp)
    have g1 := hget 1 (by rw [ec]; simp)
    rw [ec] at g0 g1 ⊢
    have s0 := hs _ g0.2
    have s1 := hs _ g1.2
    have o0 := getD_ok hd (L + 0)
    have o1 := getD_ok hd (L + 1)
    simp only [Nat.add_zero] at g0 s0 o0
    show denInv ms (runI ms d (L + 1 + 1)) (runS ms d (L + 1 + 1)) (n + 1)
    rw [runI_succ, runS_succ, runI_succ, runS_succ, g0.1, g1.1]
    generalize d.getD L none = x at *
    generalize d.getD (L + 1) none = y at *
    have eI : (stI (runI ms d L) ((n : Int), 1) x).getD n none = x := by
      unfold stI; simp only [Int.toNat_natCast]
      rw [getD_set_eq (by omega), hAn.1]; rfl
    have eS : (stS (runS ms d L) ((n : Int), 1) x).getD n none = x := by
      unfold stS; simp only [Int.toNat_natCast]
      rw [getD_set_eq (by omega), hAn.2, if_pos (by omega)]; exact op2_zero_add o0
    have lI : (stI (runI ms d L) ((n : Int), 1) x).length = ms.length := by simp [stI, hA]
    have lS : (stS (runS ms d L) ((n : Int), 1) x).length = ms.length := by simp [stS, hB]
    refine one _ _ (op2 (· - ·) x y) (by simp [stI, hA]) (by simp [stS, hB]) (fun k _ hk => ?_) ?_ ?_
    · unfold stI stS; simp only [List.getD_cons_zero, List.getD_cons_succ, Int.toNat_natCast]
      rw [getD_set_ne (Ne.symm hk), getD_set_ne (Ne.symm hk), getD_set_ne (Ne.symm hk), getD_set_ne (Ne.symm hk)]; exact ⟨rfl, rfl⟩
    · show (stI (stI (runI ms d L) ((n : Int), 1) x) ((n : Int), -1) y).getD n none = _
      generalize stI (runI ms d L) ((n : Int), 1) x = A1 at *
      unfold stI; simp only [Int.toNat_natCast]
      rw [getD_set_eq (by omega), eI, if_pos s0, vsg, if_pos (by omega)]; exact op2_add_neg x y
    · show (stS (stS (runS ms d L) ((n : Int), 1) x) ((n : Int), -1) y).getD n none = _
      generalize stS (runS ms d L) ((n : Int), 1) x = B1 at *
      unfold stS; simp only [Int.toNat_natCast]
      rw [getD_set_eq (by omega), eS, if_neg (by omega)]
theorem run_eq (ms : List Mb) (d : List (Option Rat)) (hd : okL d) (hs : ∀ j, j < (cols ms).length → (d.getD j none).isSome = true) (hk : ∀ m, m ∈ ms → 1 ≤ m.kind ∧ m.kind ≤ 3) : runI ms d (cols ms).length = runS ms d (cols ms).length := by
  have H := den_step ms d hd hs hk ms.length (Nat.le_refl _)
  change denInv ms (runI ms d (cols ms).length) (runS ms d (cols ms).length) ms.length at H
  apply List.ext_getElem (by rw [runI_length, runS_length])
  intro k h1 h2
  have h3 := (H k (by rwa [runI_length] at h1)).1 (by rwa [runI_length] at h1)
  rw [getD_at _ _ _ h1, getD_at _ _ _ h2] at h3
  exact h3
end Go.Proofs.YthhjmaianlmfpaaGreat.Vm

namespace Go.Proofs.YthhjmaianlmfpaaGreat.Vm
open Go Go.Proofs
set_option linter.unusedSimpArgs false
set_option linter.unusedVariables false

theorem dT_sc (r : RT) (b : Bool) : (dT r b).sc = true := by simp [dT, D.sc, D.scL, dRT_sc, dR_sc, V.ow]
theorem dT_dep (r : RT) (b : Bool) : (dT r b).dep 3 := by
  unfold dT; rw [D.dep]; exact ⟨by omega, by simp [D.depL, D.dep, dR_dep]⟩
theorem dT_fz (r : RT) (b : Bool) : (dT r b).fz = .tup [.agg r.c, .bool b] := by simp [dT, D.fz, D.fzL, dR_fz]
end Go.Proofs.YthhjmaianlmfpaaGreat.Vm

namespace Go.Proofs.YthhjmaianlmfpaaGreat.Vm
open Go Go.Proofs
set_option linter.unusedSimpArgs false
set_option linter.unusedVariables false

def apX (s : Str) (d : List (Option Rat)) (m : Mb) : Option Rat := op2 (· - ·) (dX s.js d m.b.toNat) (dX s.js d m.a.toNat)
def apY (s : Str) (d : List (Option Rat)) (m : Mb) : Option Rat := op2 (· - ·) (dY s.js d m.b.toNat) (dY s.js d m.a.toNat)
def strQ (s : Str) (d : List (Option Rat)) (k : Nat) : Option Rat := op2 (· + ·) (op2 (· * ·) (some (vx s (mat s k) : Rat)) (apX s d (mat s k))) (op2 (· * ·) (some (vy s (mat s k) : Rat)) (apY s d (mat s k)))
theorem strQ_ok (s : Str) (d : List (Option Rat)) (k : Nat) : okQ (strQ s d k) := okQ_op2 _ _ _
theorem apart_ro (s : Str) (d : List (Option Rat)) (k : Nat) (hs : SOk s) (hd : okL d) (hk : k < s.ms.length) : RO Tryz.prog 137 [.ptr s.c, .int .i64 k, .sl (fvs (dspF s.js d))] (.tup [fv (apX s d (mat s k)), fv (apY s d (mat s k))]) := by
  have hm := mat_at s k hk
  obtain ⟨⟨a1, a2⟩, ⟨b1, b2⟩⟩ := hs.ix _ (List.getElem_mem hk)
  have hnj := hs.nj
  rw [hm]
  obtain ⟨a, ha⟩ : ∃ a : Nat, s.ms[k].a = a := ⟨s.ms[k].a.toNat, by omega⟩
  obtain ⟨b, hb⟩ : ∃ b : Nat, s.ms[k].b = b := ⟨s.ms[k].b.toNat, by omega⟩
  rw [ha] at a1 a2
  rw [hb] at b1 b2
  have ha' : a < s.js.length := by omega
  have hb' : b < s.js.length := by omega
  have w1 : IntKind.i64.wrap (2 * (a : Int)) = 2 * a := i64_in (by omega) (by omega)
  have w2 : IntKind.i64.wrap (2 * (a : Int) + 1) = 2 * a + 1 := i64_in (by omega) (by omega)
  have w3 : IntKind.i64.wrap (2 * (b : Int)) = 2 * b := i64_in (by omega) (by omega)
  have w4 : IntKind.i64.wrap (2 * (b : Int) + 1) = 2 * b + 1 := i64_in (by omega) (by omega)
  have p1 : 2 * a < 2 * s.js.length := by omega
  have p2 : 2 * a + 1 < 2 * s.js.length := by omega
  have p3 : 2 * b < 2 * s.js.length := by omega
  have p4 : 2 * b + 1 < 2 * s.js.length := by omega
  have p5 : 2 * (a : Int) < 2 * (s.js.length : Int) := by omega
  have p6 : 2 * (a : Int) + 1 < 2 * (s.js.length : Int) := by omega
  have p7 : 2 * (b : Int) < 2 * (s.js.length : Int) := by omega
  have p8 : 2 * (b : Int) + 1 < 2 * (s.js.length : Int) := by omega
  have x1 := dspF_X s.js d a ha' (by simpa using p1)
  have x2 := dspF_Y s.js d a ha' (by simpa using p2)
  have x3 := dspF_X s.js d b hb' (by simpa using p3)
  have x4 := dspF_Y s.js d b hb' (by simpa using p4)
  have hX := sub_ro _ _ (dX_ok s.js hd b) (dX_ok s.js hd a)
  have hY := sub_ro _ _ (dY_ok s.js hd b) (dY_ok s.js hd a)
  have eX : op2 (· - ·) (dX s.js d b) (dX s.js d a) = apX s d s.ms[k] := by unfold apX; rw [ha, hb]; rfl
  have eY : op2 (· - ·) (dY s.js d b) (dY s.js d a) = apY s d s.ms[k] := by unfold apY; rw [ha, hb]; rfl
  rw [eX] at hX
  rw [eY] at hY
  refine ro_of2 Tryz.func137 rfl rfl (by rw [Tryz.ntmps137]; simp) fun bl => ?_
  rw [Tryz.ntmps137, Tryz.results137]
  refine AW_runA ?_
  simp
  refine AW_runA ?_
  simp [Str.c, hk, Mb.c]
  intro g hg0 hg
  refine AW_run ?_
  refine AW_quiet mixedO (by kernel_rfl) ?_
  simp [ha, hb, w1, w2, w3, w4, p1, p2, p3, p4, p5, p6, p7, p8, x1, x2, x3, x4, two0, two1, twoN0, twoN1]
  refine hcQ_ro hX ?_
  simp [ha, hb, w1, w2, w3, w4, p1, p2, p3, p4, p5, p6, p7, p8, x1, x2, x3, x4, two0, two1, twoN0, twoN1]
  refine hcQ_ro hY ?_
  simp
  exact retRO [fv (apX s d s.ms[k]), fv (apY s d s.ms[k])] 1 (by simp) (by simp [frz, frzL]) (by simp [hg])
theorem stretch_ro (s : Str) (d : List (Option Rat)) (k : Nat) (hs : SOk s) (hd : okL d) (hk : k < s.ms.length) : RO Tryz.prog 85 [.ptr s.c, .int .i64 k, .sl (fvs (dspF s.js d))] (fv (strQ s d k)) := by
  have hm := mat_at s k hk
  have hnm := hs.nm
  have hle := vxy_le hs (List.getElem_mem hk)
  rw [← hm] at hle
  obtain ⟨⟨l1, l2⟩, ⟨l3, l4⟩⟩ := hle
  refine ro_of2 Tryz.func85 rfl rfl (by rw [Tryz.ntmps85]; simp) fun bl => ?_
  rw [Tryz.ntmps85, Tryz.results85]
  refine AW_run ?_
  simp
  refine callP_ro (vector_ro s k hs (by omega) (by omega)) ?_
  simp
  refine callP_ro (apart_ro s d k hs hd hk) ?_
  simp
  refine callP_ro (whole_ro (vx s (mat s k)) (by omega)) ?_
  simp
  refine callP_ro (mul_ro _ _ (okQ_int (by omega)) (okQ_op2 _ _ _)) ?_
  simp
  refine callP_ro (whole_ro (vy s (mat s k)) (by omega)) ?_
  simp
  refine callP_ro (mul_ro _ _ (okQ_int (by omega)) (okQ_op2 _ _ _)) ?_
  simp
  refine callP_ro (add_ro _ _ (okQ_op2 _ _ _) (okQ_op2 _ _ _)) ?_
  simp
  exact retRO [fv (strQ s d k)] 0 (by simp [strQ]) (frz_cl (fv_cl _)) (Sub.refl _)

/-- The stretch of member k, if there is one. -/
def strOk (s : Str) (k : Int) (d : List RT) : Bool := movOk s d && (decide (0 ≤ k) && decide (k < s.ms.length))
def strW (s : Str) (k : Int) (d : List RT) : Option Rat := if strOk s k d = true then strQ s (rdAll d) k.toNat else none
theorem strW_ok (s : Str) (k : Int) (d : List RT) : okQ (strW s k d) := by
  unfold strW; split
  · exact strQ_ok _ _ _
  · exact fun _ e => by cases e
theorem movOk_of {s : Str} {d : List RT} (h : movOk s d = true) : SOk s ∧ d.length = 2 * (frees s.js).length ∧ allOk d = true := by
  unfold movOk at h
  simp only [Bool.and_eq_true, decide_eq_true_eq] at h
  exact ⟨sOk_of h.1.1, h.1.2, h.2⟩
theorem impl_StretchOf_nw (s : Str) (k : Int) (d : List RT) (hj : s.js.length ≤ 140737488351232) (hm : s.ms.length ≤ 140737488351232) (hn : ∀ j, j ∈ s.js → j.name.size ≤ 140737488351232) (hd : fitQ d 1048576) : NW Tryz.prog 32 [.agg s.c, .int .i64 k, .sl (rv d)] (dT (ro (strW s k d)) (strW s k d).isSome) := by
  refine nw_of Tryz.func32 rfl rfl (by rw [Tryz.ntmps32]; simp) fun bl => ?_
  rw [Tryz.ntmps32, Tryz.results32]
  refine AW_runA ?_
  simp [Str.c]
  intro g hg0 hg g6 hg6 h6g hb6
  refine AW_frzAt 1 3 (.ptr s.c) (upd bl g6 (some ⟨3, [[.bool false, .nils, .nils]]⟩)) (by intro z b hz; simp only [upd_apply] at hz ⊢; grind) (by simp [frz, dropB, hg, h6g, Ne.symm h6g, Str.c, V.cl]) ?_
  refine AW_run ?_
  simp
  refine callP_ro (displacements_ro s d hj hm hn hd) ?_
  simp
  refine AW_way0 [(1, .int .i64 k), (2, .sl (rv d)), (3, .ptr s.c), (6, .loc g6 3 0 0), (7, .bool false), (8, .sl (fvs (if movOk s d = true then dspF s.js (rdAll d) else []))), (9, .bool (movOk s d))] _ (upd bl g6 (some ⟨3, [[.bool false, .nils, .nils]]⟩)) 27 (.bool (!strOk s k d)) ⟨rfl, by simp, Sub.refl _⟩ rfl ?_ ?_
  · cases hp : movOk s d
    · simp [strOk, hp]
    simp [strOk, hp, Str.c]
    by_cases h0 : 0 ≤ k
    · have h1 : ¬ k < 0 := by omega
      simp [h0, h1, Str.c]
      rw [Bool.eq_iff_iff]
      simp
    · have h1 : k < 0 := by omega
      simp [h0, h1]
  cases hw : strOk s k d
  · have hz : strW s k d = none := by unfold strW; rw [hw]; rfl
    rw [hz]
    simp
    refine retNW [.agg [.bool false, .nils, .nils], .bool false] [] (by simp) ?_ (by simp) (by simp [hb6])
    exact own_dT.2 ⟨_, rfl, own_rtL.2 ⟨.nils, .nils, [], [], rfl, rfl, by simp, own_iv.2 (.inl ⟨rfl, rfl, rfl⟩), own_iv.2 (.inl ⟨rfl, rfl, rfl⟩)⟩⟩
  have hz : strW s k d = strQ s (rdAll d) k.toNat := by unfold strW; rw [hw]; rfl
  unfold strOk at hw
  simp only [Bool.and_eq_true, decide_eq_true_eq] at hw
  obtain ⟨hmv, h0, h1⟩ := hw
  obtain ⟨hs, hlen, hall⟩ := movOk_of hmv
  obtain ⟨i, rfl⟩ : ∃ i : Nat, k = i := ⟨k.toNat, by omega⟩
  have hS := stretch_ro s (rdAll d) i hs (rdAll_ok d) (by omega)
  rw [show ((i : Int).toNat) = i from rfl] at hz
  rw [← hz] at hS
  have ho := strW_ok s i d
  rw [hmv]
  generalize strW s i d = x at *
  simp
  refine callP_ro hS ?_
  simp
  refine callP_new (told_nw x ho) fun v gs b' o f fr => ?_
  obtain ⟨vs, rfl, ol⟩ := own_dT.1 o
  obtain ⟨vm, vd, ga, gb, rfl, rfl, hd', om, od⟩ := own_rtL.1 ol
  obtain ⟨c1, c2⟩ := om.one
  obtain ⟨d1, d2⟩ := od.one
  have e1 : ∀ x, x ∈ ga ++ gb → x ≠ g6 ∧ bl x = none := fun x hx => by have := f x hx; simp only [upd_apply] at this; split at this <;> simp_all
  have n2 : b' g6 = some ⟨3, [[.bool false, .nils, .nils]]⟩ := new_keep f fr (by simp)
  have hsb : Sub bl b' := fun x y hy => by
    have z2 : x ≠ g6 := fun h => by rw [h, hb6] at hy; cases hy
    exact new_keep f fr (by simp [upd_apply, z2, hy])
  simp [n2, c1, d1]
  refine retNW [.agg [.bool (ro x).neg, vm, vd], .bool x.isSome] (ga ++ gb) (by simp [c1, d1]) ?_ (fun x hx => (e1 x hx).2) (hsb.upd hb6 _)
  refine own_dT.2 ⟨_, rfl, (own_rtL.2 ⟨vm, vd, ga, gb, rfl, rfl, hd', om, od⟩).frame fun x hx => by simp [upd_apply, (e1 x hx).1]⟩
theorem impl_StretchOf_ro (s : Str) (k : Int) (d : List RT) (hj : s.js.length ≤ 140737488351232) (hm : s.ms.length ≤ 140737488351232) (hn : ∀ j, j ∈ s.js → j.name.size ≤ 140737488351232) (hd : fitQ d 1048576) : RO Tryz.prog 32 [.agg s.c, .int .i64 k, .sl (rv d)] (.tup [.agg (ro (strW s k d)).c, .bool (strW s k d).isSome]) := by
  have := ro_of_nw 3 (impl_StretchOf_nw s k d hj hm hn hd) (dT_dep _ _)
  rwa [dT_fz] at this
end Go.Proofs.YthhjmaianlmfpaaGreat.Vm

namespace Go.Proofs.YthhjmaianlmfpaaGreat.Vm
open Go Go.Proofs
set_option linter.unusedSimpArgs false
set_option linter.unusedVariables false

def fineQ (rs : List RT) : Bool := rs.all fun r => !decide (r.d = [])
theorem fine_ro (zs : List (Option Rat)) : fineQ (roAll zs) = allSome zs := by
  unfold fineQ roAll allSome
  rw [List.all_map]
  congr 1
  funext x
  cases x with
  | none => simp [ro, rz]
  | some q => simp [ro, rq, lim_nil, q.den_nz]
def pairOk (a b : List RT) : Bool := (vecOk a && vecOk b) && decide (a.length = b.length)
/-! ### Results -/
def addQs (a b : List RT) : List (Option Rat) := if pairOk a b = true then List.zipWith (op2 (· + ·)) (rdAll a) (rdAll b) else [none]
theorem pairOk_len {a b : List RT} (h : pairOk a b = true) : a.length = b.length ∧ a.length ≤ 24 ∧ allOk a = true ∧ allOk b = true := by
  unfold pairOk vecOk at h
  simp at h
  exact ⟨h.2, h.1.1.1, h.1.1.2, h.1.2.2⟩
theorem zip_ok (f : Rat → Rat → Rat) (xs ys : List (Option Rat)) : okL (List.zipWith (op2 f) xs ys) := by
  intro x hx
  obtain ⟨i, hi, rfl⟩ := List.getElem_of_mem hx
  rw [List.getElem_zipWith]
  exact okQ_op2 _ _ _
theorem addQs_ok (a b : List RT) : okL (addQs a b) ∧ (addQs a b).length ≤ 24 := by
  unfold addQs; split
  · rename_i h; exact ⟨zip_ok _ _ _, by have := pairOk_len h; simp; omega⟩
  · exact ⟨okL_none, by simp⟩
theorem ro_of_ok {rs : List RT} (h : allOk rs = true) (i : Nat) (hi : i < rs.length) : ∃ q, rd rs[i] = some q ∧ rs[i] = ro (some q) ∧ okQ (some q) := by
  have := List.all_eq_true.1 h rs[i] (List.getElem_mem hi)
  obtain ⟨q, hq⟩ := Option.isSome_iff_exists.1 this
  obtain ⟨h1, h2⟩ := rd_some hq
  exact ⟨q, hq, h1, fun x hx => by cases hx; exact h2⟩
def sclQs (r : RT) (q : List RT) : List (Option Rat) := if (r.ok ∧ vecOk q = true) then (rdAll q).map (op2 (· * ·) (rd r)) else [none]
theorem vecOk_len {q : List RT} (h : vecOk q = true) : q.length ≤ 24 ∧ allOk q = true := by
  unfold vecOk at h; simp at h; exact h
theorem sclQs_ok (r : RT) (q : List RT) : okL (sclQs r q) ∧ (sclQs r q).length ≤ 24 := by
  unfold sclQs; split
  · rename_i h
    refine ⟨fun x hx => ?_, by have := vecOk_len h.2; simp; omega⟩
    obtain ⟨y, _, rfl⟩ := List.mem_map.1 hx
    exact okQ_op2 _ _ _
  · exact ⟨okL_none, by simp⟩
end Go.Proofs.YthhjmaianlmfpaaGreat.Vm

namespace Go.Proofs.YthhjmaianlmfpaaGreat.Vm
open Go Go.Proofs
set_option linter.unusedSimpArgs false
set_option linter.unusedVariables false

theorem l15Moves_ro (s : Str) (d : List RT) (hj : s.js.length ≤ 140737488351232) (hm : s.ms.length ≤ 140737488351232) (hn : ∀ j, j ∈ s.js → j.name.size ≤ 140737488351232) (hd : fitQ d 1048576) : RO Tryz.prog 80 [.agg s.c, .sl (rv d)] (.bool (movOk s d)) := by
  refine ro_of2 Tryz.func80 rfl rfl (by rw [Tryz.ntmps80]; simp) fun bl => ?_
  rw [Tryz.ntmps80, Tryz.results80]
  refine AW_run ?_
  simp [Str.c]
  intro g hg0 hg
  refine AW_way [(1, .sl (rv d)), (2, .loc g 2 0 0)] _ (upd bl g (some ⟨2, [s.c]⟩)) 4 (.bool (movOk s d)) (upd bl g (some ⟨2, [s.c]⟩)) ⟨rfl, by simp, sub_eq (by simp [Str.c])⟩ rfl ?_ ?_
  · simp [Str.c]
    refine callP_ro (spec_StructureOk_ro s hj hm hn) ?_
    cases hk : sOk s
    · simp [movOk, hk]
    have hs := sOk_of hk
    have hnj := hs.nj
    have hfl := freesTo_le s.js s.js.length
    change (frees s.js).length ≤ s.js.length at hfl
    simp [Str.c]
    refine callP_ro (l12Free_ro s (by omega)) ?_
    simp
    rw [i64_in (by omega) (by omega)]
    by_cases h : d.length = 2 * (frees s.js).length
    · have h' : (d.length : Int) = 2 * ((frees s.js).length : Int) := by omega
      simp [h, h']
      refine callP_ro (l09Valid_ro d hd) ?_
      simp [movOk, hk, h]
    · have h' : ¬ (d.length : Int) = 2 * ((frees s.js).length : Int) := by omega
      simp [h, h', movOk, hk]
  simp
  exact retRO [.bool (movOk s d)] 0 (by simp) (by simp [frz]) (by simp [hg])

theorem idx_succ (js : List J) (k : Nat) : idx js (k + 1) = idx js k + (if fxd js k = true then 0 else 1) := by
  unfold idx fxd
  rw [freesTo_succ]
  split <;> simp
theorem idx_le (js : List J) (k : Nat) : idx js k ≤ k := freesTo_le js k
def atW (s : Str) (i : Nat) : Int := if fxd s.js i = true then -1 else (idx s.js i : Int)
theorem l15At_ro (s : Str) (i : Nat) (hi : i < s.js.length) (hj : s.js.length ≤ 1000) : RO Tryz.prog 136 [.agg s.c, .int .i64 i] (.int .i64 (atW s i)) := by
  refine ro_of2 Tryz.func136 rfl rfl (by rw [Tryz.ntmps136]; simp) fun bl => ?_
  rw [Tryz.ntmps136, Tryz.results136]
  refine AW_runA ?_
  simp [Str.c]
  intro g hg0 hg
  refine AW_frzAt 1 2 (.ptr s.c) bl (by simp [hg]) (by simp [frz, dropB, hg, Str.c, V.cl]) ?_
  refine AW_run ?_
  simp [Str.c]
  refine AW_for (fun k : Nat => [(1, .int .i64 i), (5, .int .i64 (idx s.js k : Nat)), (9, .sl (jv s.js)), (10, .int .i64 s.js.length), (11, .int .i64 k)]) (fun _ => bl) (fun k => k ≤ i) (fun k => s.js.length - k) _ 0 (Nat.zero_le _) ⟨rfl, by simp [idx, freesTo], Sub.refl _⟩ ?_
  intro k hk
  have hle := idx_le s.js k
  have wi : IntKind.i64.wrap ((idx s.js k : Int) + 1) = (idx s.js k : Int) + 1 := i64_in (by omega) (by omega)
  have wk : IntKind.i64.wrap ((k : Int) + 1) = (k : Int) + 1 := i64_in (by omega) (by omega)
  refine AW_run ?_
  simp
  refine ⟨fun h => ?_, fun h => ?_⟩
  · have hfx : fxd s.js k = s.js[k].fixed := by unfold fxd; rw [getD_at _ _ _ h]
    have hsu := idx_succ s.js k
    simp [h]
    intro g7 hg7 hb7
    refine ⟨by simp [J.c], fun he => ?_, fun he => ?_⟩
    · obtain rfl : k = i := by omega
      simp [J.c]
      refine ⟨fun hf => ?_, fun hf => ?_⟩
      · have : atW s k = -1 := by unfold atW; rw [hfx, hf]; rfl
        exact retRO [.int .i64 (-1)] 0 (by simp) (by simp [frz, this]) (by simp [hb7])
      · have : atW s k = (idx s.js k : Int) := by unfold atW; rw [hfx, hf]; rfl
        exact retRO [.int .i64 (idx s.js k : Int)] 0 (by simp) (by simp [frz, this]) (by simp [hb7])
    · cases hf : s.js[k].fixed
      · rw [hfx, hf] at hsu
        simp [J.c, hf, wi, wk, loopQ_normal]
        refine ⟨k + 1, by omega, by omega, rfl, by simp [hsu], by simp [hb7]⟩
      · rw [hfx, hf] at hsu
        simp [J.c, hf, wi, wk, loopQ_normal]
        refine ⟨k + 1, by omega, by omega, rfl, by simp [hsu], by simp [hb7]⟩
  · omega

theorem ro_rd {rs : List RT} (h : allOk rs = true) (i : Nat) (hi : i < rs.length) : ro (rd rs[i]) = rs[i] := by
  obtain ⟨q, e1, e2, _⟩ := ro_of_ok h i hi
  rw [e1]; exact e2.symm
theorem l15Move_ro (s : Str) (d : List RT) (i : Nat) (h : movOk s d = true) (hi : i < s.js.length) : RO Tryz.prog 81 [.agg s.c, .sl (rv d), .int .i64 i] (.tup [.agg (ro (dX s.js (rdAll d) i)).c, .agg (ro (dY s.js (rdAll d) i)).c]) := by
  obtain ⟨hs, hlen, hall⟩ := movOk_of h
  have hnj := hs.nj
  have hA := l15At_ro s i hi (by omega)
  have w0 := RatFromInt_ro 0 (by omega)
  rw [zero_cast] at w0
  refine ro_of2 Tryz.func81 rfl rfl (by rw [Tryz.ntmps81]; simp) fun bl => ?_
  rw [Tryz.ntmps81, Tryz.results81]
  refine AW_runA ?_
  simp [Str.c]
  intro g hg0 hg g6 hg6 h6g hb6 g7 hg7 h76 h7g hb7
  refine AW_frzAt 1 3 (.ptr s.c) (upd (upd bl g6 (some ⟨3, [[.bool false, .nils, .nils]]⟩)) g7 (some ⟨3, [[.bool false, .nils, .nils]]⟩)) (by intro z b hz; simp only [upd_apply] at hz ⊢; grind) (by simp [frz, dropB, hg, h6g, Ne.symm h6g, h7g, Ne.symm h7g, Str.c, V.cl]) ?_
  refine AW_run ?_
  simp [Str.c]
  refine callP_ro hA ?_
  cases hf : fxd s.js i
  · have ha : atW s i = (idx s.js i : Int) := by unfold atW; rw [hf]; rfl
    have hil := idx_ltf hi hf
    have hle := idx_le s.js i
    rw [ha]
    obtain ⟨t, et⟩ : ∃ t, idx s.js i = t := ⟨_, rfl⟩
    rw [et] at hil hle ⊢
    have w3 : IntKind.i64.wrap (2 * (t : Int)) = 2 * t := i64_in (by omega) (by omega)
    have w4 : IntKind.i64.wrap (2 * (t : Int) + 1) = 2 * t + 1 := i64_in (by omega) (by omega)
    have p3 : 2 * t < d.length := by omega
    have p4 : 2 * t + 1 < d.length := by omega
    have p7 : 2 * (t : Int) < d.length := by omega
    have p8 : 2 * (t : Int) + 1 < d.length := by omega
    have eX : ro (dX s.js (rdAll d) i) = d[2 * t] := by
      unfold dX; rw [hf, et, if_neg (by simp), getD_at _ _ _ (by simpa using p3), ← ro_rd hall _ p3]; simp [rdAll]
    have eY : ro (dY s.js (rdAll d) i) = d[2 * t + 1] := by
      unfold dY; rw [hf, et, if_neg (by simp), getD_at _ _ _ (by simpa using p4), ← ro_rd hall _ p4]; simp [rdAll]
    rw [eX, eY]
    have n0 : ¬ (t : Int) < 0 := by omega
    simp [n0]
    refine AW_mixedB mixedO bl (by intro z b hz; simp only [upd_apply] at hz ⊢; grind) [0, 1, 2, 3, 4, 5, 6, 7, 8, 9, 10] 2 (by kernel_rfl) ?_
    simp [w3, w4, p3, p4, p7, p8, two0, two1, twoN0, twoN1, RT.c]
    refine DAny_one (i := 11) (by kernel_rfl) rfl rfl ?_
    simp [RT.c, h76, Ne.symm h76]
    refine ⟨by intro z b hz; simp only [upd_apply] at hz ⊢; grind, DAny_one (i := 12) (by kernel_rfl) rfl rfl ?_⟩
    simp [RT.c, h76, Ne.symm h76]
    refine ⟨by intro z b hz; simp only [upd_apply] at hz ⊢; grind, DAny_done (by kernel_rfl) ?_⟩
    simp
    exact retRO [.agg d[2 * t].c, .agg d[2 * t + 1].c] 2 (by simp [RT.c, h76, Ne.symm h76]) (by simp [frz, RT.c, V.cl]) (by intro z b hz; simp only [upd_apply] at hz ⊢; grind)
  · have ha : atW s i = -1 := by unfold atW; rw [hf]; rfl
    have eX : dX s.js (rdAll d) i = some 0 := by unfold dX; rw [hf]; rfl
    have eY : dY s.js (rdAll d) i = some 0 := by unfold dY; rw [hf]; rfl
    rw [ha, eX, eY]
    generalize ro (some 0) = z at *
    simp
    refine callP_ro w0 ?_
    simp
    refine callP_ro w0 ?_
    simp [RT.c, h76, Ne.symm h76]
    exact retRO [.agg z.c, .agg z.c] 2 (by simp [RT.c, h76, Ne.symm h76]) (by simp [frz, RT.c, V.cl]) (by intro z b hz; simp only [upd_apply] at hz ⊢; grind)
end Go.Proofs.YthhjmaianlmfpaaGreat.Vm

namespace Go.Proofs.YthhjmaianlmfpaaGreat.Vm
open Go Go.Proofs
set_option linter.unusedSimpArgs false
set_option linter.unusedVariables false

theorem subC (x y : Option Rat) (hx : okQ x) (hy : okQ y) : RO Tryz.prog 82 [.agg (ro x).c, .agg (ro y).c] (.agg (ro (op2 (· - ·) x y)).c) := by
  have h1 := ro_le hx
  have h2 := ro_le hy
  have := RatSub_ro (ro x) (ro y) ⟨by omega, by omega⟩ ⟨by omega, by omega⟩
  rwa [rd_ro hx, rd_ro hy] at this
theorem mulO (x y : Option Rat) (hx : okQ x) (hy : okQ y) : RO Tryz.prog 54 [.agg (ro x).c, .agg (ro y).c] (.agg (ro (op2 (· * ·) x y)).c) := by
  have h1 := ro_le hx
  have h2 := ro_le hy
  have := RatMul_ro (ro x) (ro y) ⟨by omega, by omega⟩ ⟨by omega, by omega⟩
  rwa [rd_ro hx, rd_ro hy] at this
/-- Two new cells of three. -/
def twoNew (bl : Int → Option Blk) (g6 : Int) (p : Int × Int) : Prop := 0 ≤ p.1 ∧ 0 ≤ p.2 ∧ ¬ p.1 = p.2 ∧ ¬ p.1 = g6 ∧ ¬ p.2 = g6 ∧ bl p.1 = none ∧ bl p.2 = none
theorem spec_StretchOf_ro (s : Str) (k : Int) (d : List RT) (hj : s.js.length ≤ 140737488351232) (hm0 : s.ms.length ≤ 140737488351232) (hn : ∀ j, j ∈ s.js → j.name.size ≤ 140737488351232) (hd : fitQ d 1048576) : RO Tryz.prog 31 [.agg s.c, .int .i64 k, .sl (rv d)] (.tup [.agg (ro (strW s k d)).c, .bool (strW s k d).isSome]) := by
  refine ro_of2 Tryz.func31 rfl rfl (by rw [Tryz.ntmps31]; simp) fun bl => ?_
  rw [Tryz.ntmps31, Tryz.results31]
  refine AW_runA ?_
  simp [Str.c]
  intro g hg0 hg g6 hg6 h6g hb6
  refine AW_frzAt 1 3 (.ptr s.c) (upd bl g6 (some ⟨3, [[.bool false, .nils, .nils]]⟩)) (by intro z b hz; simp only [upd_apply] at hz ⊢; grind) (by simp [frz, dropB, hg, h6g, Ne.symm h6g, Str.c, V.cl]) ?_
  refine AW_runA ?_
  simp
  refine AW_way0 [(1, .int .i64 k), (2, .sl (rv d)), (3, .ptr s.c), (6, .loc g6 3 0 0), (7, .bool false)] _ (upd bl g6 (some ⟨3, [[.bool false, .nils, .nils]]⟩)) 27 (.bool (!strOk s k d)) ⟨rfl, by simp, Sub.refl _⟩ rfl ?_ ?_
  · simp [Str.c]
    refine callP_ro (l15Moves_ro s d hj hm0 hn hd) ?_
    cases hp : movOk s d
    · simp [strOk, hp]
    simp [strOk, hp, Str.c]
    rw [i64_in (by omega) (by omega)]
    refine callP_ro (l01In_ro _ _ _) ?_
    simp [strOk, hp]
    rw [Bool.eq_iff_iff]
    simp
    omega
  cases hw : strOk s k d
  · have hz : strW s k d = none := by unfold strW; rw [hw]; rfl
    rw [hz]
    simp
    exact retRO [.agg [.bool false, .nils, .nils], .bool false] 2 (by simp) (by simp [frz, V.cl, ro, rz, RT.c, iv]) (by simp [hb6])
  have hz : strW s k d = strQ s (rdAll d) k.toNat := by unfold strW; rw [hw]; rfl
  unfold strOk at hw
  simp only [Bool.and_eq_true, decide_eq_true_eq] at hw
  obtain ⟨hmv, h0, h1⟩ := hw
  obtain ⟨hs, hlen, hall⟩ := movOk_of hmv
  obtain ⟨i, rfl⟩ : ∃ i : Nat, k = i := ⟨k.toNat, by omega⟩
  have hk : i < s.ms.length := by omega
  have hnm := hs.nm
  have hnj := hs.nj
  have hm := mat_at s i hk
  obtain ⟨⟨a1, a2⟩, ⟨b1, b2⟩⟩ := hs.ix _ (List.getElem_mem hk)
  obtain ⟨a, ha⟩ : ∃ a : Nat, s.ms[i].a = a := ⟨s.ms[i].a.toNat, by omega⟩
  obtain ⟨b, hb⟩ : ∃ b : Nat, s.ms[i].b = b := ⟨s.ms[i].b.toNat, by omega⟩
  rw [ha] at a1 a2
  rw [hb] at b1 b2
  have hMA := l15Move_ro s d a hmv (by omega)
  have hMB := l15Move_ro s d b hmv (by omega)
  have hle := vxy_le hs (List.getElem_mem hk)
  obtain ⟨⟨l1, l2⟩, ⟨l3, l4⟩⟩ := hle
  have hV := l12Vector_ro s i hs (by omega) (by omega)
  rw [hm] at hV
  have hIX := RatFromInt_ro (vx s s.ms[i]) (by omega)
  have hIY := RatFromInt_ro (vy s s.ms[i]) (by omega)
  have ox : okQ (some (vx s s.ms[i] : Rat)) := okQ_int (by omega)
  have oy : okQ (some (vy s s.ms[i] : Rat)) := okQ_int (by omega)
  have hz2 : strW s i d = op2 (· + ·) (op2 (· * ·) (some (vx s s.ms[i] : Rat)) (op2 (· - ·) (dX s.js (rdAll d) b) (dX s.js (rdAll d) a))) (op2 (· * ·) (some (vy s s.ms[i] : Rat)) (op2 (· - ·) (dY s.js (rdAll d) b) (dY s.js (rdAll d) a))) := by
    rw [hz]; unfold strQ apX apY; rw [show ((i : Int).toNat : Int) = i from rfl, hm, ha, hb]; rfl
  have oxa := dX_ok s.js (rdAll_ok d) a
  have oya := dY_ok s.js (rdAll_ok d) a
  have oxb := dX_ok s.js (rdAll_ok d) b
  have oyb := dY_ok s.js (rdAll_ok d) b
  generalize dX s.js (rdAll d) a = xa at *
  generalize dY s.js (rdAll d) a = ya at *
  generalize dX s.js (rdAll d) b = xb at *
  generalize dY s.js (rdAll d) b = yb at *
  generalize some (vx s s.ms[i] : Rat) = cx at *
  generalize some (vy s s.ms[i] : Rat) = cy at *
  generalize vx s s.ms[i] = nx at *
  generalize vy s s.ms[i] = ny at *
  have hSX := subC xb xa oxb oxa
  have hSY := subC yb ya oyb oya
  have hPX := mulO cx _ ox (okQ_op2 (· - ·) xb xa)
  have hPY := mulO cy _ oy (okQ_op2 (· - ·) yb ya)
  have hA := addC _ _ (okQ_op2 (· * ·) cx (op2 (· - ·) xb xa)) (okQ_op2 (· * ·) cy (op2 (· - ·) yb ya))
  rw [← hz2] at hA
  have oR := strW_ok s i d
  have hK := okC _ oR
  clear hz hz2
  generalize strW s i d = r at *
  generalize op2 (· - ·) xb xa = sx at *
  generalize op2 (· - ·) yb ya = sy at *
  generalize op2 (· * ·) cx sx = px at *
  generalize op2 (· * ·) cy sy = py at *
  simp
  refine AW_runA ?_
  simp [Str.c]
  refine callP_ro hV ?_
  simp
  refine AW_mid (fun p : Int × Int => [(1, .int .i64 i), (2, .sl (rv d)), (3, .ptr s.c), (6, .loc g6 3 0 0), (7, .bool false), (8, .int .i64 nx), (9, .int .i64 ny), (10, .loc p.1 3 0 0), (11, .loc p.2 3 0 0)]) (fun p => upd (upd (upd bl g6 (some ⟨3, [[.bool false, .nils, .nils]]⟩)) p.1 (some ⟨3, [(ro xa).c]⟩)) p.2 (some ⟨3, [(ro ya).c]⟩)) (twoNew bl g6) 75 ?_ ?_
  · refine AW_mixedB mixedO (upd bl g6 (some ⟨3, [[.bool false, .nils, .nils]]⟩)) (Sub.refl _) [0, 1, 2, 3, 4, 5, 6, 7, 8, 9, 10, 11] 4 (by kernel_rfl) ?_
    simp [Str.c, hk, Mb.c, ha]
    refine hcQ_ro hMA ?_
    simp
    refine DAny_two (i := 12) (j := 13) (by kernel_rfl) rfl rfl rfl rfl ?_ ?_
    · simp
      intro u hu huf hbu
      refine ⟨by intro z b hz; simp only [upd_apply] at hz ⊢; grind, DAny_one (i := 13) (by kernel_rfl) rfl rfl ?_⟩
      simp [huf, Ne.symm huf]
      intro v hv hvu hvf hbv
      refine ⟨by intro z b hz; simp only [upd_apply] at hz ⊢; grind, DAny_one (i := 14) (by kernel_rfl) rfl rfl ?_⟩
      simp [RT.c, huf, Ne.symm huf, hvu, Ne.symm hvu, hvf, Ne.symm hvf]
      refine ⟨by intro z b hz; simp only [upd_apply] at hz ⊢; grind, DAny_one (i := 15) (by kernel_rfl) rfl rfl ?_⟩
      simp [RT.c, huf, Ne.symm huf, hvu, Ne.symm hvu, hvf, Ne.symm hvf]
      refine ⟨by intro z b hz; simp only [upd_apply] at hz ⊢; grind, DAny_done (by kernel_rfl) ?_⟩
      simp [midQ_normal]
      refine ⟨u, v, by unfold twoNew; simp [*, Ne.symm hvu], rfl, by simp, by intro z b hz; simp only [upd_apply, RT.c] at hz ⊢; grind⟩
    · simp
      intro u hu huf hbu
      refine ⟨by intro z b hz; simp only [upd_apply] at hz ⊢; grind, DAny_one (i := 12) (by kernel_rfl) rfl rfl ?_⟩
      simp [huf, Ne.symm huf]
      intro v hv hvu hvf hbv
      refine ⟨by intro z b hz; simp only [upd_apply] at hz ⊢; grind, DAny_one (i := 14) (by kernel_rfl) rfl rfl ?_⟩
      simp [RT.c, huf, Ne.symm huf, hvu, Ne.symm hvu, hvf, Ne.symm hvf]
      refine ⟨by intro z b hz; simp only [upd_apply] at hz ⊢; grind, DAny_one (i := 15) (by kernel_rfl) rfl rfl ?_⟩
      simp [RT.c, huf, Ne.symm huf, hvu, Ne.symm hvu, hvf, Ne.symm hvf]
      refine ⟨by intro z b hz; simp only [upd_apply] at hz ⊢; grind, DAny_done (by kernel_rfl) ?_⟩
      simp [midQ_normal]
      refine ⟨v, u, by unfold twoNew; simp [*, Ne.symm hvu], rfl, by simp, by intro z b hz; simp only [upd_apply, RT.c] at hz ⊢; grind⟩
  rintro ⟨p1, p2⟩ ⟨n1, n2, n3, n4, n5, n6, n7⟩
  simp only at n1 n2 n3 n4 n5 n6 n7 ⊢
  refine AW_frzAt 1 10 (.ptr (ro xa).c) (upd (upd bl g6 (some ⟨3, [[.bool false, .nils, .nils]]⟩)) p2 (some ⟨3, [(ro ya).c]⟩)) (by intro z b hz; simp only [upd_apply] at hz ⊢; grind) (by simp [frz, dropB, n6, n3, n4, Ne.symm n3, RT.c, V.cl]) ?_
  refine AW_frzAt 1 11 (.ptr (ro ya).c) (upd bl g6 (some ⟨3, [[.bool false, .nils, .nils]]⟩)) (by intro z b hz; simp only [upd_apply] at hz ⊢; grind) (by simp [frz, dropB, n7, n5, Ne.symm n5, RT.c, V.cl]) ?_
  refine AW_mid (fun p : Int × Int => [(1, .int .i64 i), (2, .sl (rv d)), (3, .ptr s.c), (6, .loc g6 3 0 0), (7, .bool false), (8, .int .i64 nx), (9, .int .i64 ny), (10, .ptr (ro xa).c), (11, .ptr (ro ya).c), (12, .loc p.1 3 0 0), (13, .loc p.2 3 0 0)]) (fun p => upd (upd (upd bl g6 (some ⟨3, [[.bool false, .nils, .nils]]⟩)) p.1 (some ⟨3, [(ro xb).c]⟩)) p.2 (some ⟨3, [(ro yb).c]⟩)) (twoNew bl g6) 75 ?_ ?_
  · refine AW_mixedB mixedO (upd bl g6 (some ⟨3, [[.bool false, .nils, .nils]]⟩)) (Sub.refl _) [0, 1, 2, 3, 4, 5, 6, 7, 8, 9, 10, 11] 4 (by kernel_rfl) ?_
    simp [Str.c, hk, Mb.c, hb]
    refine hcQ_ro hMB ?_
    simp
    refine DAny_two (i := 12) (j := 13) (by kernel_rfl) rfl rfl rfl rfl ?_ ?_
    · simp
      intro u hu huf hbu
      refine ⟨by intro z b hz; simp only [upd_apply] at hz ⊢; grind, DAny_one (i := 13) (by kernel_rfl) rfl rfl ?_⟩
      simp [huf, Ne.symm huf]
      intro v hv hvu hvf hbv
      refine ⟨by intro z b hz; simp only [upd_apply] at hz ⊢; grind, DAny_one (i := 14) (by kernel_rfl) rfl rfl ?_⟩
      simp [RT.c, huf, Ne.symm huf, hvu, Ne.symm hvu, hvf, Ne.symm hvf]
      refine ⟨by intro z b hz; simp only [upd_apply] at hz ⊢; grind, DAny_one (i := 15) (by kernel_rfl) rfl rfl ?_⟩
      simp [RT.c, huf, Ne.symm huf, hvu, Ne.symm hvu, hvf, Ne.symm hvf]
      refine ⟨by intro z b hz; simp only [upd_apply] at hz ⊢; grind, DAny_done (by kernel_rfl) ?_⟩
      simp [midQ_normal]
      refine ⟨u, v, by unfold twoNew; simp [*, Ne.symm hvu], rfl, by simp, by intro z b hz; simp only [upd_apply, RT.c] at hz ⊢; grind⟩
    · simp
      intro u hu huf hbu
      refine ⟨by intro z b hz; simp only [upd_apply] at hz ⊢; grind, DAny_one (i := 12) (by kernel_rfl) rfl rfl ?_⟩
      simp [huf, Ne.symm huf]
      intro v hv hvu hvf hbv
      refine ⟨by intro z b hz; simp only [upd_apply] at hz ⊢; grind, DAny_one (i := 14) (by kernel_rfl) rfl rfl ?_⟩
      simp [RT.c, huf, Ne.symm huf, hvu, Ne.symm hvu, hvf, Ne.symm hvf]
      refine ⟨by intro z b hz; simp only [upd_apply] at hz ⊢; grind, DAny_one (i := 15) (by kernel_rfl) rfl rfl ?_⟩
      simp [RT.c, huf, Ne.symm huf, hvu, Ne.symm hvu, hvf, Ne.symm hvf]
      refine ⟨by intro z b hz; simp only [upd_apply] at hz ⊢; grind, DAny_done (by kernel_rfl) ?_⟩
      simp [midQ_normal]
      refine ⟨v, u, by unfold twoNew; simp [*, Ne.symm hvu], rfl, by simp, by intro z b hz; simp only [upd_apply, RT.c] at hz ⊢; grind⟩
  rintro ⟨p1, p2⟩ ⟨n1, n2, n3, n4, n5, n6, n7⟩
  simp only at n1 n2 n3 n4 n5 n6 n7 ⊢
  refine AW_frzAt 1 12 (.ptr (ro xb).c) (upd (upd bl g6 (some ⟨3, [[.bool false, .nils, .nils]]⟩)) p2 (some ⟨3, [(ro yb).c]⟩)) (by intro z b hz; simp only [upd_apply] at hz ⊢; grind) (by simp [frz, dropB, n6, n3, n4, Ne.symm n3, RT.c, V.cl]) ?_
  refine AW_frzAt 1 13 (.ptr (ro yb).c) (upd bl g6 (some ⟨3, [[.bool false, .nils, .nils]]⟩)) (by intro z b hz; simp only [upd_apply] at hz ⊢; grind) (by simp [frz, dropB, n7, n5, Ne.symm n5, RT.c, V.cl]) ?_
  refine AW_run ?_
  refine AW_mixedB mixedO (upd bl g6 (some ⟨3, [[.bool false, .nils, .nils]]⟩)) (Sub.refl _) [0, 1, 2, 3, 4, 5, 6, 7, 8, 9, 10, 11, 12] 2 (by kernel_rfl) ?_
  simp
  refine hcQ_ro hIX ?_
  simp [RT.c]
  refine hcQ_ro hSX ?_
  simp [RT.c]
  refine hcQ_ro hPX ?_
  simp [RT.c]
  refine hcQ_ro hIY ?_
  simp [RT.c]
  refine hcQ_ro hSY ?_
  simp [RT.c]
  refine hcQ_ro hPY ?_
  simp [RT.c]
  refine hcQ_ro hA ?_
  simp [RT.c]
  refine DAny_one (i := 13) (by kernel_rfl) rfl rfl ?_
  simp
  intro g8 hg8 h86 hb8
  refine ⟨by intro z b hz; simp only [upd_apply] at hz ⊢; grind, DAny_one (i := 14) (by kernel_rfl) rfl rfl ?_⟩
  simp [RT.c, h86, Ne.symm h86]
  refine ⟨by intro z b hz; simp only [upd_apply] at hz ⊢; grind, DAny_done (by kernel_rfl) ?_⟩
  try simp
  refine AW_mixedB mixedO (upd bl g8 (some ⟨3, [(ro r).c]⟩)) (by intro z b hz; simp only [upd_apply, RT.c] at hz ⊢; grind) [0, 1, 2] 2 (by kernel_rfl) ?_
  simp [RT.c, h86, Ne.symm h86]
  refine hcQ_ro hK ?_
  simp [RT.c, h86, Ne.symm h86]
  refine DAny_one (i := 3) (by kernel_rfl) rfl rfl ?_
  simp [RT.c, h86, Ne.symm h86]
  refine ⟨by intro z b hz; simp only [upd_apply] at hz ⊢; grind, DAny_one (i := 4) (by kernel_rfl) rfl rfl ?_⟩
  simp
  refine ⟨by intro z b hz; simp only [upd_apply] at hz ⊢; grind, DAny_done (by kernel_rfl) ?_⟩
  try simp
  exact retRO [.agg (ro r).c, .bool r.isSome] 2 (by simp [RT.c]) (by simp [frz, RT.c, V.cl]) (by intro z b hz; simp only [upd_apply] at hz ⊢; grind)
end Go.Proofs.YthhjmaianlmfpaaGreat.Vm

namespace Go.Proofs.YthhjmaianlmfpaaGreat.Vm
open Go Go.Proofs
set_option linter.unusedSimpArgs false
set_option linter.unusedVariables false

def refBad (m : Mb) (x : Option Rat) : Bool := (!x.isSome || (decide (m.kind ≠ 2) && decide (0 < sgq x))) || (decide (m.kind ≠ 1) && decide (sgq x < 0))
def memsOk (s : Str) (d : List (Option Rat)) : Bool := (List.range s.ms.length).all fun k => !refBad (mat s k) (strQ s d k)
def memsTo (s : Str) (d : List (Option Rat)) (n : Nat) : Prop := ∀ k : Nat, k < n → refBad (mat s k) (strQ s d k) = false
theorem memsOk_yes {s : Str} {d : List (Option Rat)} (h : memsTo s d s.ms.length) : memsOk s d = true := by
  unfold memsOk
  rw [List.all_eq_true]
  intro k hk
  rw [h k (by simpa using hk)]; rfl
theorem memsOk_no {s : Str} {d : List (Option Rat)} (k : Nat) (hk : k < s.ms.length) (h : refBad (mat s k) (strQ s d k) = true) : memsOk s d = false := by
  unfold memsOk
  rw [List.all_eq_false]
  exact ⟨k, by simpa using hk, by rw [h]; simp⟩
/-- The work of the load before free joint t. -/
def wkTo (s : Str) (l : List Int) (d : List (Option Rat)) : Nat → Option Rat
  | 0 => some 0
  | t + 1 => op2 (· + ·) (op2 (· + ·) (wkTo s l d t) (op2 (· * ·) (some (lN l (2 * ((frees s.js).getD t 0).toNat) : Rat)) (d.getD (2 * t) none))) (op2 (· * ·) (some (lN l (2 * ((frees s.js).getD t 0).toNat + 1) : Rat)) (d.getD (2 * t + 1) none))
theorem wkTo_ok (s : Str) (l : List Int) (d : List (Option Rat)) : ∀ t, okQ (wkTo s l d t)
  | 0 => okQ_zero
  | t + 1 => okQ_op2 _ _ _
def wkW (s : Str) (l : List Int) (d : List (Option Rat)) : Option Rat := wkTo s l d (frees s.js).length
def refW (s : Str) (l : List Int) (d : List RT) : Bool := (movOk s d && fitsL s.js l) && (memsOk s (rdAll d) && decide (0 < sgq (wkW s l (rdAll d))))

theorem impl_IsRefusal_ro (s : Str) (l : List Int) (d : List RT) (hj : s.js.length ≤ 140737488351232) (hm0 : s.ms.length ≤ 140737488351232) (hn : ∀ j, j ∈ s.js → j.name.size ≤ 140737488351232) (hl : l.length ≤ 140737488351232) (hd : fitQ d 1048576) : RO Tryz.prog 37 [.agg s.c, .sl (iv l), .sl (rv d)] (.bool (refW s l d)) := by
  have w0 := whole_ro 0 (by omega)
  rw [zero_cast] at w0
  refine ro_of2 Tryz.func37 rfl rfl (by rw [Tryz.ntmps37]; simp) fun bl => ?_
  rw [Tryz.ntmps37, Tryz.results37]
  refine AW_runA ?_
  simp [Str.c]
  intro g hg0 hg
  refine AW_frzAt 1 3 (.ptr s.c) bl (by simp [hg]) (by simp [frz, dropB, hg, Str.c, V.cl]) ?_
  refine AW_run ?_
  simp
  refine callP_ro (displacements_ro s d hj hm0 hn hd) ?_
  simp
  refine AW_way0 [(1, .sl (iv l)), (3, .ptr s.c), (6, .bool false), (7, .sl (fvs (if movOk s d = true then dspF s.js (rdAll d) else []))), (8, .bool (movOk s d))] _ bl 26 (.bool (!(movOk s d && fitsL s.js l))) ⟨rfl, by simp, Sub.refl _⟩ rfl ?_ ?_
  · cases hf : movOk s d
    · simp
    simp
    refine callP_ro (fitsLoad_ro s l hj hl) ?_
    simp
  cases hp : (movOk s d && fitsL s.js l)
  · have hz : refW s l d = false := by unfold refW; rw [hp]; rfl
    rw [hz]
    simp
    exact retRO [.bool false] 0 (by simp) (by simp [frz]) (Sub.refl _)
  have hb : refW s l d = (memsOk s (rdAll d) && decide (0 < sgq (wkW s l (rdAll d)))) := by unfold refW; rw [hp]; rfl
  rw [Bool.and_eq_true] at hp
  obtain ⟨hs, hlen, hall⟩ := movOk_of hp.1
  obtain ⟨hll, hlb⟩ := fitsL_lN hp.2
  have hnj := hs.nj
  have hnm := hs.nm
  have hfl := freesTo_le s.js s.js.length
  change (frees s.js).length ≤ s.js.length at hfl
  have hD := rdAll_ok d
  have hDl : (rdAll d).length = 2 * (frees s.js).length := by simpa using hlen
  rw [hb, hp.1]
  generalize rdAll d = D at *
  simp [Str.c]
  refine AW_for (fun k : Nat => [(1, .sl (iv l)), (3, .ptr s.c), (7, .sl (fvs (dspF s.js D))), (28, .sl (mv s.ms)), (29, .int .i64 s.ms.length), (30, .int .i64 k)]) (fun _ => bl) (fun k => k ≤ s.ms.length ∧ memsTo s D k) (fun k => s.ms.length - k) _ 0 ⟨Nat.zero_le _, fun k h0 => by omega⟩ ⟨rfl, by simp [Str.c], Sub.refl _⟩ ?_
  rintro k ⟨hk, hc⟩
  have wk : IntKind.i64.wrap ((k : Int) + 1) = (k : Int) + 1 := i64_in (by omega) (by omega)
  refine AW_run ?_
  simp
  refine ⟨fun h => ?_, fun h => ?_⟩
  · have hm := mat_at s k h
    have hS := stretch_ro s D k hs hD h
    obtain ⟨x, ex⟩ : ∃ x, strQ s D k = x := ⟨_, rfl⟩
    rw [ex] at hS
    simp [h, Mb.c]
    intro g2 hg2 hb2
    refine callP_ro hS ?_
    simp
    refine AW_way [(1, .sl (iv l)), (3, .ptr s.c), (7, .sl (fvs (dspF s.js D))), (28, .sl (mv s.ms)), (29, .int .i64 s.ms.length), (30, .int .i64 k), (10, .loc g2 3 0 0), (11, fv x)] _ (upd bl g2 (some ⟨3, [s.ms[k].c]⟩)) 59 (.bool (refBad s.ms[k] x)) (upd bl g2 (some ⟨3, [s.ms[k].c]⟩)) ⟨rfl, by simp, sub_eq (by simp [Mb.c])⟩ rfl ?_ ?_
    · rcases x with _ | a
      · simp [fv, refBad]
      have hG := Sign_ro a
      have hbad : refBad s.ms[k] (some a) = ((decide (s.ms[k].kind ≠ 2) && decide (0 < a.num.sign)) || (decide (s.ms[k].kind ≠ 1) && decide (a.num.sign < 0))) := by simp [refBad, sgq]
      rw [hbad]
      generalize a.num.sign = z at hG ⊢
      have c1 : (rq a).c.length = 3 := rfl
      by_cases k2 : s.ms[k].kind = 2
      · simp [fv, Mb.c, k2]
        refine callP_ro hG ?_
        simp [Mb.c, k2]
      · by_cases k1 : s.ms[k].kind = 1
        · simp [fv, Mb.c, k1]
          refine callP_ro hG ?_
          by_cases z1 : 0 < z
          · simp [Mb.c, k1, z1]
          · simp [Mb.c, k1, z1]
        · simp [fv, Mb.c, k1, k2]
          refine callP_ro hG ?_
          by_cases z1 : 0 < z
          · simp [Mb.c, k1, k2, z1]
          · simp [Mb.c, k1, k2, z1]
            refine callP_ro hG ?_
            simp [Mb.c, k1, k2, z1]
    cases hbb : refBad s.ms[k] x
    · simp [wk, loopQ_normal]
      refine ⟨k + 1, ⟨by omega, fun i hi => ?_⟩, by omega, rfl, by simp, by simp [hb2]⟩
      rcases Nat.lt_or_ge i k with hlt | hge
      · exact hc i hlt
      · obtain rfl : i = k := by omega
        rw [hm, ex]; exact hbb
    · have hno : memsOk s D = false := memsOk_no k h (by rw [hm, ex]; exact hbb)
      rw [hno]
      simp
      exact retRO [.bool false] 0 (by simp) (by simp [frz]) (by simp [hb2])
  · have hk2 : k = s.ms.length := by omega
    subst hk2
    rw [memsOk_yes hc, Bool.true_and]
    simp
    refine callP_ro w0 ?_
    simp
    refine callP_ro (freeJoints_ro s (by omega)) ?_
    simp
    refine AW_for (fun t : Nat => [(1, .sl (iv l)), (7, .sl (fvs (dspF s.js D))), (12, fv (wkTo s l D t)), (62, .sl (iv (frees s.js))), (63, .int .i64 (frees s.js).length), (64, .int .i64 t)]) (fun _ => bl) (fun t => t ≤ (frees s.js).length) (fun t => (frees s.js).length - t) _ 0 (Nat.zero_le _) ⟨rfl, by simp [wkTo], Sub.refl _⟩ ?_
    intro t ht
    refine AW_run ?_
    simp
    refine ⟨fun h => ?_, fun h => ?_⟩
    · obtain ⟨i, ei, hi, hf, hx⟩ := frees_at s.js t h
      have b1 := hlb (2 * i) (by omega)
      have b2 := hlb (2 * i + 1) (by omega)
      have w1 : IntKind.i64.wrap (2 * (i : Int)) = 2 * i := i64_in (by omega) (by omega)
      have w2 : IntKind.i64.wrap (2 * (i : Int) + 1) = 2 * i + 1 := i64_in (by omega) (by omega)
      have wt : IntKind.i64.wrap ((t : Int) + 1) = t + 1 := i64_in (by omega) (by omega)
      have p1 : 2 * i < l.length := by omega
      have p2 : 2 * i + 1 < l.length := by omega
      have p3 : 2 * (i : Int) < l.length := by omega
      have p4 : 2 * (i : Int) + 1 < l.length := by omega
      have p5 : 2 * i < 2 * s.js.length := by omega
      have p6 : 2 * i + 1 < 2 * s.js.length := by omega
      have p7 : 2 * (i : Int) < 2 * (s.js.length : Int) := by omega
      have p8 : 2 * (i : Int) + 1 < 2 * (s.js.length : Int) := by omega
      have q1 := lN_at p1
      have q2 := lN_at p2
      have x1 := dspF_X s.js D i hi (by simpa using p5)
      have x2 := dspF_Y s.js D i hi (by simpa using p6)
      have d1 : dX s.js D i = D.getD (2 * t) none := by unfold dX; rw [hf, hx]; rfl
      have d2 : dY s.js D i = D.getD (2 * t + 1) none := by unfold dY; rw [hf, hx]; rfl
      rw [d1] at x1
      rw [d2] at x2
      have efr : ((frees s.js).getD t 0).toNat = i := by rw [getD_at _ _ _ h, ei]; rfl
      have ew : wkTo s l D (t + 1) = op2 (· + ·) (op2 (· + ·) (wkTo s l D t) (op2 (· * ·) (some (lN l (2 * i) : Rat)) (D.getD (2 * t) none))) (op2 (· * ·) (some (lN l (2 * i + 1) : Rat)) (D.getD (2 * t + 1) none)) := by
        rw [wkTo, efr]
      have oy1 := getD_ok hD (2 * t)
      have oy2 := getD_ok hD (2 * t + 1)
      have ow := wkTo_ok s l D t
      generalize D.getD (2 * t) none = y1 at *
      generalize D.getD (2 * t + 1) none = y2 at *
      generalize wkTo s l D t = wt0 at *
      have hW1 := whole_ro (lN l (2 * i)) (by omega)
      have hW2 := whole_ro (lN l (2 * i + 1)) (by omega)
      have hM1 := mul_ro (some (lN l (2 * i) : Rat)) y1 (okQ_int (by omega)) oy1
      have hM2 := mul_ro (some (lN l (2 * i + 1) : Rat)) y2 (okQ_int (by omega)) oy2
      have hA1 := add_ro wt0 _ ow (okQ_op2 (· * ·) (some (lN l (2 * i) : Rat)) y1)
      have hA2 := add_ro _ _ (okQ_op2 (· + ·) wt0 (op2 (· * ·) (some (lN l (2 * i) : Rat)) y1)) (okQ_op2 (· * ·) (some (lN l (2 * i + 1) : Rat)) y2)
      rw [← ew] at hA2
      rw [q1] at hW1 hM1
      rw [q2] at hW2 hM2
      rw [q1] at hA1 hA2
      rw [q2] at hA2
      simp [h, ei]
      refine AW_quiet mixedO (by kernel_rfl) ?_
      simp [w1, w2, p1, p2, p3, p4, p5, p6, p7, p8, x1, x2, two0, two1, twoN0, twoN1]
      refine hcQ_ro hW1 ?_
      simp [w1, w2, p1, p2, p3, p4, p5, p6, p7, p8, x1, x2, two0, two1, twoN0, twoN1]
      refine hcQ_ro hM1 ?_
      simp
      refine hcQ_ro hA1 ?_
      simp
      refine AW_quiet mixedO (by kernel_rfl) ?_
      simp [w1, w2, p1, p2, p3, p4, p5, p6, p7, p8, x1, x2, two0, two1, twoN0, twoN1]
      refine hcQ_ro hW2 ?_
      simp [w1, w2, p1, p2, p3, p4, p5, p6, p7, p8, x1, x2, two0, two1, twoN0, twoN1]
      refine hcQ_ro hM2 ?_
      simp
      refine hcQ_ro hA2 ?_
      simp [wt, loopQ_normal]
      exact ⟨t + 1, by omega, by omega, rfl, by simp, Sub.refl _⟩
    · have hi2 : t = (frees s.js).length := by omega
      subst hi2
      obtain ⟨x, ex⟩ : ∃ x, wkW s l D = x := ⟨_, rfl⟩
      rw [ex]
      change wkTo s l D (frees s.js).length = x at ex
      rw [ex]
      refine AW_way0 [(12, fv x)] _ bl 6 (.bool (decide (0 < sgq x))) ⟨rfl, by simp, Sub.refl _⟩ rfl ?_ ?_
      · rcases x with _ | a
        · simp [fv, sgq]
        have hG := Sign_ro a
        have hbad : sgq (some a) = a.num.sign := rfl
        rw [hbad]
        generalize a.num.sign = z at hG ⊢
        have c1 : (rq a).c.length = 3 := rfl
        simp [fv]
        refine callP_ro hG ?_
        simp
      simp
      exact retRO [.bool (decide (0 < sgq x))] 0 (by simp) (by simp [frz]) (Sub.refl _)

theorem spec_IsRefusal_ro (s : Str) (l : List Int) (d : List RT) (hj : s.js.length ≤ 140737488351232) (hm0 : s.ms.length ≤ 140737488351232) (hn : ∀ j, j ∈ s.js → j.name.size ≤ 140737488351232) (hl : l.length ≤ 140737488351232) (hd : fitQ d 1048576) : RO Tryz.prog 36 [.agg s.c, .sl (iv l), .sl (rv d)] (.bool (refW s l d)) := by
  have w0 := RatFromInt_ro 0 (by omega)
  rw [zero_cast] at w0
  refine ro_of2 Tryz.func36 rfl rfl (by rw [Tryz.ntmps36]; simp) fun bl => ?_
  rw [Tryz.ntmps36, Tryz.results36]
  refine AW_runA ?_
  simp [Str.c]
  intro g hg0 hg
  refine AW_frzAt 1 3 (.ptr s.c) bl (by simp [hg]) (by simp [frz, dropB, hg, Str.c, V.cl]) ?_
  refine AW_runA ?_
  simp
  refine AW_way0 [(1, .sl (iv l)), (2, .sl (rv d)), (3, .ptr s.c), (6, .bool false)] _ bl 24 (.bool (!(movOk s d && fitsL s.js l))) ⟨rfl, by simp, Sub.refl _⟩ rfl ?_ ?_
  · simp [Str.c]
    refine callP_ro (spec_LoadOk_ro s l hj hm0 hn hl) ?_
    have hlo : lOk s l = (sOk s && fitsL s.js l) := rfl
    cases h1 : sOk s
    · simp [hlo, h1, movOk]
    cases h2 : fitsL s.js l
    · simp [hlo, h1, h2]
    simp [hlo, h1, h2, Str.c]
    refine callP_ro (l15Moves_ro s d hj hm0 hn hd) ?_
    simp
  cases hp : (movOk s d && fitsL s.js l)
  · have hz : refW s l d = false := by unfold refW; rw [hp]; rfl
    rw [hz]
    simp
    exact retRO [.bool false] 0 (by simp) (by simp [frz]) (Sub.refl _)
  have hb : refW s l d = (memsOk s (rdAll d) && decide (0 < sgq (wkW s l (rdAll d)))) := by unfold refW; rw [hp]; rfl
  rw [Bool.and_eq_true] at hp
  obtain ⟨hs, hlen, hall⟩ := movOk_of hp.1
  obtain ⟨hll, hlb⟩ := fitsL_lN hp.2
  have hnj := hs.nj
  have hnm := hs.nm
  have hfl := freesTo_le s.js s.js.length
  change (frees s.js).length ≤ s.js.length at hfl
  have hD := rdAll_ok d
  have hDl : (rdAll d).length = 2 * (frees s.js).length := by simpa using hlen
  rw [hb]
  simp
  refine AW_run ?_
  simp [Str.c]
  refine AW_for (fun k : Nat => [(1, .sl (iv l)), (2, .sl (rv d)), (3, .ptr s.c), (26, .sl (mv s.ms)), (27, .int .i64 s.ms.length), (28, .int .i64 k)]) (fun _ => bl) (fun k => k ≤ s.ms.length ∧ memsTo s (rdAll d) k) (fun k => s.ms.length - k) _ 0 ⟨Nat.zero_le _, fun k h0 => by omega⟩ ⟨rfl, by simp [Str.c], Sub.refl _⟩ ?_
  rintro k ⟨hk, hc⟩
  have wk : IntKind.i64.wrap ((k : Int) + 1) = (k : Int) + 1 := i64_in (by omega) (by omega)
  refine AW_run ?_
  simp
  refine ⟨fun h => ?_, fun h => ?_⟩
  · have hm := mat_at s k h
    have hS := spec_StretchOf_ro s k d hj hm0 hn hd
    have hso : strOk s k d = true := by unfold strOk; rw [hp.1]; simp; exact h
    have hsw : strW s k d = strQ s (rdAll d) k := by unfold strW; rw [hso]; rfl
    have ox := strQ_ok s (rdAll d) k
    rw [hsw] at hS
    obtain ⟨x, ex⟩ : ∃ x, strQ s (rdAll d) k = x := ⟨_, rfl⟩
    rw [ex] at hS ox
    have hle := ro_le ox
    have hG := RatSign_ro (ro x) (by omega) (by omega)
    rw [rd_ro ox] at hG
    simp [h, Mb.c, Str.c]
    intro g2 hg2 hb2
    refine callP_ro hS ?_
    simp [RT.c]
    intro g9 hg9 h92 hb9
    try simp [RT.c, h92, Ne.symm h92]
    refine callP_ro hG ?_
    try simp
    refine AW_way [(1, .sl (iv l)), (2, .sl (rv d)), (3, .ptr s.c), (26, .sl (mv s.ms)), (27, .int .i64 s.ms.length), (28, .int .i64 k), (8, .loc g2 3 0 0), (10, .bool x.isSome), (11, .int .i64 (sgq x))] _ (upd bl g2 (some ⟨3, [s.ms[k].c]⟩)) 61 (.bool (refBad s.ms[k] x)) (upd bl g2 (some ⟨3, [s.ms[k].c]⟩)) ⟨rfl, by simp [Str.c], by intro z b hz; simp only [upd_apply, Mb.c] at hz ⊢; grind⟩ rfl ?_ ?_
    · have hbad : refBad s.ms[k] x = ((!x.isSome || (decide (s.ms[k].kind ≠ 2) && decide (0 < sgq x))) || (decide (s.ms[k].kind ≠ 1) && decide (sgq x < 0))) := rfl
      rw [hbad]
      generalize sgq x = z
      generalize x.isSome = y
      cases y
      · simp
      by_cases k2 : s.ms[k].kind = 2
      · simp [Mb.c, k2]
      · by_cases k1 : s.ms[k].kind = 1
        · by_cases z1 : 0 < z
          · simp [Mb.c, k1, z1]
          · simp [Mb.c, k1, z1]
        · by_cases z1 : 0 < z
          · simp [Mb.c, k1, k2, z1]
          · simp [Mb.c, k1, k2, z1]
    cases hbb : refBad s.ms[k] x
    · simp [wk, loopQ_normal]
      refine ⟨k + 1, ⟨by omega, fun i hi => ?_⟩, by omega, rfl, by simp [Str.c], by simp [hb2]⟩
      rcases Nat.lt_or_ge i k with hlt | hge
      · exact hc i hlt
      · obtain rfl : i = k := by omega
        rw [hm, ex]; exact hbb
    · have hno : memsOk s (rdAll d) = false := memsOk_no k h (by rw [hm, ex]; exact hbb)
      rw [hno]
      simp
      exact retRO [.bool false] 0 (by simp) (by simp [frz]) (by simp [hb2])
  · have hk2 : k = s.ms.length := by omega
    subst hk2
    rw [memsOk_yes hc, Bool.true_and]
    generalize hz0 : ro (some 0) = z0 at w0
    simp
    refine callP_ro w0 ?_
    simp [RT.c, Str.c]
    intro g12 hg12 hb12
    refine callP_ro (l12Free_ro s (by omega)) ?_
    simp
    refine AW_for (fun t : Nat => [(1, .sl (iv l)), (2, .sl (rv d)), (12, .loc g12 3 0 0), (65, .sl (iv (frees s.js))), (66, .int .i64 (frees s.js).length), (67, .int .i64 t)]) (fun t => upd bl g12 (some ⟨3, [(ro (wkTo s l (rdAll d) t)).c]⟩)) (fun t => t ≤ (frees s.js).length) (fun t => (frees s.js).length - t) _ 0 (Nat.zero_le _) ⟨rfl, by simp, by rw [wkTo, hz0]; exact sub_eq (by simp [RT.c])⟩ ?_
    intro t ht
    refine AW_run ?_
    simp
    refine ⟨fun h => ?_, fun h => ?_⟩
    · obtain ⟨i, ei, hi, hf, hx⟩ := frees_at s.js t h
      have b1 := hlb (2 * i) (by omega)
      have b2 := hlb (2 * i + 1) (by omega)
      have w1 : IntKind.i64.wrap (2 * (i : Int)) = 2 * i := i64_in (by omega) (by omega)
      have w2 : IntKind.i64.wrap (2 * (i : Int) + 1) = 2 * i + 1 := i64_in (by omega) (by omega)
      have w3 : IntKind.i64.wrap (2 * (t : Int)) = 2 * t := i64_in (by omega) (by omega)
      have w4 : IntKind.i64.wrap (2 * (t : Int) + 1) = 2 * t + 1 := i64_in (by omega) (by omega)
      have wt : IntKind.i64.wrap ((t : Int) + 1) = t + 1 := i64_in (by omega) (by omega)
      have p1 : 2 * i < l.length := by omega
      have p2 : 2 * i + 1 < l.length := by omega
      have p3 : 2 * (i : Int) < l.length := by omega
      have p4 : 2 * (i : Int) + 1 < l.length := by omega
      have p5 : 2 * t < d.length := by omega
      have p6 : 2 * t + 1 < d.length := by omega
      have p7 : 2 * (t : Int) < d.length := by omega
      have p8 : 2 * (t : Int) + 1 < d.length := by omega
      have q1 := lN_at p1
      have q2 := lN_at p2
      have x1 : ro ((rdAll d).getD (2 * t) none) = d[2 * t] := by rw [getD_at _ _ _ (by simpa using p5), ← ro_rd hall _ p5]; simp [rdAll]
      have x2 : ro ((rdAll d).getD (2 * t + 1) none) = d[2 * t + 1] := by rw [getD_at _ _ _ (by simpa using p6), ← ro_rd hall _ p6]; simp [rdAll]
      have efr : ((frees s.js).getD t 0).toNat = i := by rw [getD_at _ _ _ h, ei]; rfl
      have ew : wkTo s l (rdAll d) (t + 1) = op2 (· + ·) (op2 (· + ·) (wkTo s l (rdAll d) t) (op2 (· * ·) (some (lN l (2 * i) : Rat)) ((rdAll d).getD (2 * t) none))) (op2 (· * ·) (some (lN l (2 * i + 1) : Rat)) ((rdAll d).getD (2 * t + 1) none)) := by
        rw [wkTo, efr]
      have oy1 := getD_ok hD (2 * t)
      have oy2 := getD_ok hD (2 * t + 1)
      have ow := wkTo_ok s l (rdAll d) t
      generalize (rdAll d).getD (2 * t) none = y1 at *
      generalize (rdAll d).getD (2 * t + 1) none = y2 at *
      generalize ewt : wkTo s l (rdAll d) (t + 1) = wt1 at *
      generalize wkTo s l (rdAll d) t = wt0 at *
      have hW1 := RatFromC_ro (lN l (2 * i)) b1
      have hW2 := RatFromC_ro (lN l (2 * i + 1)) b2
      have hM1 := mulO (some (lN l (2 * i) : Rat)) y1 (okQ_int (by omega)) oy1
      have hM2 := mulO (some (lN l (2 * i + 1) : Rat)) y2 (okQ_int (by omega)) oy2
      have hA1 := addC wt0 _ ow (okQ_op2 (· * ·) (some (lN l (2 * i) : Rat)) y1)
      have hA2 := addC _ _ (okQ_op2 (· + ·) wt0 (op2 (· * ·) (some (lN l (2 * i) : Rat)) y1)) (okQ_op2 (· * ·) (some (lN l (2 * i + 1) : Rat)) y2)
      rw [← ew] at hA2
      rw [q1] at hW1 hM1 hA1 hA2
      rw [q2] at hW2 hM2 hA2
      rw [x1] at hM1
      rw [x2] at hM2
      generalize op2 (· * ·) (some (l[2 * i] : Rat)) y1 = pr1 at *
      generalize op2 (· * ·) (some (l[2 * i + 1] : Rat)) y2 = pr2 at *
      generalize op2 (· + ·) wt0 pr1 = sm1 at *
      generalize some (l[2 * i] : Rat) = f1 at *
      generalize some (l[2 * i + 1] : Rat) = f2 at *
      simp [h, ei]
      refine AW_mixedT mixedO [0, 1, 2, 3, 4, 5, 6, 7, 8, 9, 10, 11, 12, 13] 1 14 (by kernel_rfl) ?_
      simp [RT.c, w1, w2, w3, w4, p1, p2, p3, p4, p5, p6, p7, p8, two0, two1, twoN0, twoN1]
      refine hcQ_ro hW1 ?_
      simp [RT.c, w1, w2, w3, w4, p1, p2, p3, p4, p5, p6, p7, p8, two0, two1, twoN0, twoN1]
      refine hcQ_ro hM1 ?_
      simp [RT.c]
      refine hcQ_ro hA1 ?_
      simp [RT.c]
      refine DAny_last (i := 14) (by kernel_rfl) rfl rfl rfl ?_
      simp [RT.c]
      refine DAny_done (by kernel_rfl) ?_
      try simp
      refine AW_mixedT mixedO [0, 1, 2, 3, 4, 5, 6, 7, 8, 9, 10, 11, 12, 13, 14, 15] 1 16 (by kernel_rfl) ?_
      simp [RT.c, w1, w2, w3, w4, p1, p2, p3, p4, p5, p6, p7, p8, two0, two1, twoN0, twoN1]
      refine hcQ_ro hW2 ?_
      simp [RT.c, w1, w2, w3, w4, p1, p2, p3, p4, p5, p6, p7, p8, two0, two1, twoN0, twoN1]
      refine hcQ_ro hM2 ?_
      simp [RT.c]
      refine hcQ_ro hA2 ?_
      simp [RT.c]
      refine DAny_last (i := 16) (by kernel_rfl) rfl rfl rfl ?_
      simp [RT.c]
      refine DAny_done (by kernel_rfl) ?_
      try simp
      simp [wt, loopQ_normal]
      exact ⟨t + 1, by omega, by omega, rfl, by simp, by rw [ewt]; intro z b hz; simp only [upd_apply, RT.c] at hz ⊢; grind⟩
    · have hi2 : t = (frees s.js).length := by omega
      subst hi2
      have ox := wkTo_ok s l (rdAll d) (frees s.js).length
      obtain ⟨x, ex⟩ : ∃ x, wkW s l (rdAll d) = x := ⟨_, rfl⟩
      rw [ex]
      change wkTo s l (rdAll d) (frees s.js).length = x at ex
      rw [ex] at ox ⊢
      have hle := ro_le ox
      have hG := RatSign_ro (ro x) (by omega) (by omega)
      rw [rd_ro ox] at hG
      simp [RT.c]
      refine callP_ro hG ?_
      simp
      exact retRO [.bool (decide (0 < sgq x))] 0 (by simp) (by simp [frz]) (by simp [hb12])

end Go.Proofs.YthhjmaianlmfpaaGreat.Vm
