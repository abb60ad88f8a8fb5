/- FnExactReactionAt: for every structure and list of numbers and list of fractions and number the program's ReactionAt returns what the reference's returns; no condition. -/



import Derived.Test.YthhjmaianlmfpaaGreatQCFnExactReactionAt7

namespace Go.Proofs.YthhjmaianlmfpaaGreat.Vm
open Go Go.Proofs
set_option linter.unusedSimpArgs false
set_option linter.unusedVariables false

theorem neg_ro (x : Option Rat) : RO Tryz.prog 79 [fv x] (fv (x.map (- ·))) := by
  cases x with
  | none =>
    refine ro_of2 Tryz.func79 rfl rfl (by rw [Tryz.ntmps79]; simp) fun bl => ?_
    rw [Tryz.ntmps79, Tryz.results79]
    refine AW_run ?_
    simp [fv]
    exact retRO0 (by simp) rfl rfl
  | some q =>
    have hop := opposite_ro q.num
    rw [biC_def, biC_def, Int.natAbs_neg] at hop
    refine ro_of2 Tryz.func79 rfl rfl (by rw [Tryz.ntmps79]; simp) fun bl => ?_
    rw [Tryz.ntmps79, Tryz.results79]
    refine AW_run ?_
    rw [show fv (some q) = .ptr (rq q).c from rfl, rqc_def, show fv ((some q).map (- ·)) = .ptr [.bool (decide (-q.num < 0)), .sl (iv (lim q.num.natAbs)), .sl (iv (lim q.den))] by
      show V.ptr (rq (-q)).c = _
      rw [rqc_def]
      show V.ptr [.bool (decide (-q.num < 0)), .sl (iv (lim (-q.num).natAbs)), .sl (iv (lim q.den))] = _
      rw [Int.natAbs_neg]]
    simp
    refine AW_mixedB mixedO bl (Sub.refl _) [0, 1, 2, 3, 4, 5, 6, 7, 8] 3 (by kernel_rfl) ?_
    simp
    refine hcQ_ro hop ?_
    simp
    refine DAny_one (i := 9) (by kernel_rfl) rfl rfl ?_
    simp
    refine DAny_one (i := 10) (by kernel_rfl) rfl rfl ?_
    simp
    intro g hg0 hg
    refine ⟨by simp [hg], DAny_one (i := 11) (by kernel_rfl) rfl rfl ?_⟩
    simp
    refine ⟨by simp [hg], DAny_done (by kernel_rfl) ?_⟩
    simp
    refine retRO [.loc g 3 0 0] 1 (by simp) ?_ (by simp [hg])
    show frz _ 1 (.loc g 3 0 0) = _
    rw [frz_loc0 (e := [.bool (decide (0 < q.num)), .sl (iv (lim q.num.natAbs)), .sl (iv (lim q.den))]) (by simp [dropB, hg])]
    rfl

def reOk (s : Str) (l : List Int) (q : List RT) (j : Int) : Bool := (fitsQ s q && fitsL s.js l) && ((decide (0 ≤ j) && decide (j < s.js.length)) && (s.js.getD j.toNat default).fixed)
def reQs (s : Str) (l : List Int) (q : List RT) (j : Int) : List (Option Rat) := if reOk s l q j = true then [(fX s l (rdAll q) j.toNat).map (- ·), (fY s l (rdAll q) j.toNat).map (- ·)] else [none]
theorem reQs_ok (s : Str) (l : List Int) (q : List RT) (j : Int) : okL (reQs s l q j) ∧ (reQs s l q j).length ≤ 24 := by
  unfold reQs; split
  · refine ⟨fun x hx => ?_, by simp⟩
    rcases List.mem_cons.1 hx with rfl | hx
    · exact okQ_neg (fX_ok _ _ _ _)
    · obtain rfl : x = _ := by simpa using hx
      exact okQ_neg (fY_ok _ _ _ _)
  · exact ⟨okL_none, by simp⟩
theorem impl_ReactionAt_nw (s : Str) (l : List Int) (q : List RT) (j : Int) (hj : s.js.length ≤ 140737488351232) (hm : s.ms.length ≤ 140737488351232) (hn : ∀ j, j ∈ s.js → j.name.size ≤ 140737488351232) (hl : l.length ≤ 140737488351232) (hq : fitQ q 1048576) : NW Tryz.prog 29 [.agg s.c, .sl (iv l), .sl (rv q), .int .i64 j] (dV (stQ (reQs s l q j)) (allSome (reQs s l q j))) := by
  refine nw_of Tryz.func29 rfl rfl (by rw [Tryz.ntmps29]; simp) fun bl => ?_
  rw [Tryz.ntmps29, Tryz.results29]
  refine AW_runA ?_
  simp [Str.c]
  intro g hg0 hg
  refine AW_frzAt 1 4 (.ptr s.c) bl (by simp [hg]) (by simp [frz, dropB, hg, Str.c, V.cl]) ?_
  refine AW_run ?_
  simp
  refine callP_ro (densities_ro s q hj hm hn hq) ?_
  simp
  refine AW_way0 [(1, .sl (iv l)), (3, .int .i64 j), (4, .ptr s.c), (8, .nils), (9, .bool false), (10, .sl (fvs (if fitsQ s q = true then rdAll q else []))), (11, .bool (fitsQ s q))] _ bl 45 (.bool (!reOk s l q j)) ⟨rfl, by simp, Sub.refl _⟩ rfl ?_ ?_
  · cases hf : fitsQ s q
    · simp [reOk, hf]
    simp
    refine callP_ro (fitsLoad_ro s l hj hl) ?_
    cases h1 : fitsL s.js l
    · simp [reOk, hf, h1]
    by_cases h2 : j < 0
    · have h3 : ¬ 0 ≤ j := by omega
      simp [reOk, hf, h1, h2, h3]
    have h3 : 0 ≤ j := by omega
    by_cases h4 : j < s.js.length
    · have h5 : ¬ (s.js.length : Int) ≤ j := by omega
      have h6 : j.toNat < s.js.length := by omega
      simp [reOk, hf, h1, h2, h3, h4, h5, h6, Str.c, J.c]
    · have h5 : (s.js.length : Int) ≤ j := by omega
      simp [reOk, hf, h1, h2, h3, h4, h5, Str.c]
  cases hp : reOk s l q j
  · have hz : reQs s l q j = [none] := by unfold reQs; rw [hp]; rfl
    rw [hz]
    simp
    exact retNW [.nils, .bool false] [] (by simp) (own_dV0 _) (by simp) (Sub.refl _)
  have hz : reQs s l q j = [(fX s l (rdAll q) j.toNat).map (- ·), (fY s l (rdAll q) j.toNat).map (- ·)] := by unfold reQs; rw [hp]; rfl
  unfold reOk at hp
  simp only [Bool.and_eq_true, decide_eq_true_eq] at hp
  obtain ⟨⟨hf, hfl⟩, ⟨h0, h1⟩, hfix⟩ := hp
  obtain ⟨i, rfl⟩ : ∃ i : Nat, j = i := ⟨j.toNat, by omega⟩
  have hi : i < s.js.length := by omega
  obtain ⟨hs, hlen, hall⟩ := fitsQ_of hf
  obtain ⟨hll, hlb⟩ := fitsL_of hfl
  have hnj := hs.nj
  obtain ⟨hzo, _⟩ := reQs_ok s l q i
  rw [hz] at hzo
  simp only [Int.toNat_natCast] at hz hzo
  rw [hz, hf]
  have b1 := hlb (2 * i) (by omega)
  have b2 := hlb (2 * i + 1) (by omega)
  have w1 : IntKind.i64.wrap (2 * (i : Int)) = 2 * i := i64_in (by omega) (by omega)
  have w2 : IntKind.i64.wrap (2 * (i : Int) + 1) = 2 * i + 1 := i64_in (by omega) (by omega)
  have p1 : 2 * i < l.length := by omega
  have p2 : 2 * i + 1 < l.length := by omega
  have p3 : 2 * (i : Int) < l.length := by omega
  have p4 : 2 * (i : Int) + 1 < l.length := by omega
  have p5 : 0 ≤ 2 * (i : Int) := by omega
  have p6 : 0 ≤ 2 * (i : Int) + 1 := by omega
  have p7 : (2 * (i : Int)).toNat = 2 * i := by omega
  have p8 : (2 * (i : Int) + 1).toNat = 2 * i + 1 := by omega
  have q1 := lN_at p1
  have q2 := lN_at p2
  have hWX := whole_ro (lN l (2 * i)) (by omega)
  have hWY := whole_ro (lN l (2 * i + 1)) (by omega)
  have hAX := add_ro (pX s (rdAll q) i) (some (lN l (2 * i) : Rat)) (pTo_ok _ _ _ _ _) (okQ_int (by omega))
  have hAY := add_ro (pY s (rdAll q) i) (some (lN l (2 * i + 1) : Rat)) (pTo_ok _ _ _ _ _) (okQ_int (by omega))
  change RO Tryz.prog _ _ (fv (fX s l (rdAll q) i)) at hAX
  change RO Tryz.prog _ _ (fv (fY s l (rdAll q) i)) at hAY
  rw [q1] at hWX hAX
  rw [q2] at hWY hAY
  have hNX := neg_ro (fX s l (rdAll q) i)
  have hNY := neg_ro (fY s l (rdAll q) i)
  simp
  refine callP_ro (pull_ro s (rdAll q) i hs (rdAll_ok q) (by simpa using hlen)) ?_
  generalize (fX s l (rdAll q) i).map (- ·) = nx at *
  generalize (fY s l (rdAll q) i).map (- ·) = ny at *
  simp
  refine AW_mixedB mixedO bl (Sub.refl _) [0, 1, 2, 3, 4, 5, 6, 7, 8, 9, 10, 11, 12, 13, 14, 15, 16, 17, 18] 6 (by kernel_rfl) ?_
  simp [w1, w2, p1, p2, p3, p4, p5, p6, p7, p8]
  refine hcQ_ro hWX ?_
  simp
  refine hcQ_ro hAX ?_
  simp
  refine hcQ_ro hNX ?_
  simp [w1, w2, p1, p2, p3, p4, p5, p6, p7, p8]
  refine hcQ_ro hWY ?_
  simp
  refine hcQ_ro hAY ?_
  simp
  refine hcQ_ro hNY ?_
  simp
  refine DAny_one (i := 19) (by kernel_rfl) rfl rfl ?_
  simp [show List.range 2 = [0, 1] from rfl]
  intro g2 hg2 hb2
  refine ⟨by simp [hb2], DAny_one (i := 20) (by kernel_rfl) rfl rfl ?_⟩
  simp
  refine callP_lend 1 (ys := [.sl (fvs [nx, ny])]) (by simp [frz, fvs, Int.not_lt.2 hg2]) (stores_nw [nx, ny] hzo (by simp)) (dV_sc _ _) fun v gs b' o f fr => ?_
  obtain ⟨w, rfl, ow, w1', w2'⟩ := own_dV o
  have hs1 : Sub bl b' := fun x y hy => new_keep f fr (by rw [upd_apply, if_neg (fun e => by rw [e, hb2] at hy; cases hy)]; exact hy)
  have fin : ∀ σ : St, σ.n = 75 → σ.sl 8 = w → σ.sl 9 = .bool (allSome [nx, ny]) → σ.bl = b' → retK Tryz.prog [ResultVar.tmp 8, ResultVar.tmp 9] (MadeK bl (dV (stQ [nx, ny]) (allSome [nx, ny]))) .ret σ := fun σ e0 e1 e2 e3 => by
    refine retNW [w, .bool (allSome [nx, ny])] gs (by simp [e0, e1, e2]) (by rw [e3]; exact o) (fun x hx => by have := f x hx; simp [upd_apply] at this; exact this.2) (by rw [e3]; exact hs1)
  refine ⟨hs1, DAny_two (i := 21) (j := 22) (by kernel_rfl) rfl rfl rfl rfl ?_ ?_⟩
  · simp
    refine ⟨hs1, DAny_one (i := 22) (by kernel_rfl) rfl rfl ?_⟩
    simp
    refine ⟨hs1, DAny_one (i := 23) (by kernel_rfl) rfl rfl ?_⟩
    simp
    refine ⟨hs1, DAny_one (i := 24) (by kernel_rfl) rfl rfl ?_⟩
    simp
    refine ⟨hs1, DAny_done (by kernel_rfl) ?_⟩
    simp
    exact fin _ rfl (by simp) (by simp) rfl
  · simp
    refine ⟨hs1, DAny_one (i := 21) (by kernel_rfl) rfl rfl ?_⟩
    simp
    refine ⟨hs1, DAny_one (i := 23) (by kernel_rfl) rfl rfl ?_⟩
    simp
    refine ⟨hs1, DAny_one (i := 24) (by kernel_rfl) rfl rfl ?_⟩
    simp
    refine ⟨hs1, DAny_done (by kernel_rfl) ?_⟩
    simp
    exact fin _ rfl (by simp) (by simp) rfl

theorem impl_ReactionAt_ro (s : Str) (l : List Int) (q : List RT) (j : Int) (hj : s.js.length ≤ 140737488351232) (hm : s.ms.length ≤ 140737488351232) (hn : ∀ j, j ∈ s.js → j.name.size ≤ 140737488351232) (hl : l.length ≤ 140737488351232) (hq : fitQ q 1048576) : RO Tryz.prog 29 [.agg s.c, .sl (iv l), .sl (rv q), .int .i64 j] (.tup [.sl (rv (stQ (reQs s l q j))), .bool (allSome (reQs s l q j))]) := by
  have := ro_of_nw 3 (impl_ReactionAt_nw s l q j hj hm hn hl hq) (dV_dep _ _ 0)
  rwa [dV_fz] at this
theorem spec_ReactionAt_ro (s : Str) (l : List Int) (q : List RT) (j : Int) (hj : s.js.length ≤ 140737488351232) (hm : s.ms.length ≤ 140737488351232) (hn : ∀ j, j ∈ s.js → j.name.size ≤ 140737488351232) (hl : l.length ≤ 140737488351232) (hq : fitQ q 1048576) : RO Tryz.prog 28 [.agg s.c, .sl (iv l), .sl (rv q), .int .i64 j] (.tup [.sl (rv (stQ (reQs s l q j))), .bool (allSome (reQs s l q j))]) := by
  refine ro_of2 Tryz.func28 rfl rfl (by rw [Tryz.ntmps28]; simp) fun bl => ?_
  rw [Tryz.ntmps28, Tryz.results28]
  refine AW_run ?_
  simp [Str.c]
  intro g hg0 hg
  refine AW_way [(1, .sl (iv l)), (2, .sl (rv q)), (3, .int .i64 j), (4, .loc g 2 0 0), (8, .nils), (9, .bool false)] _ (upd bl g (some ⟨2, [s.c]⟩)) 39 (.bool (!reOk s l q j)) (upd bl g (some ⟨2, [s.c]⟩)) ⟨rfl, by simp, sub_eq (by simp [Str.c])⟩ rfl ?_ ?_
  · simp [Str.c]
    refine callP_ro (spec_LoadOk_ro s l hj hm hn hl) ?_
    have hlo : lOk s l = (sOk s && fitsL s.js l) := rfl
    cases h1 : sOk s
    · simp [hlo, h1, fitsQ, reOk]
    cases h2 : fitsL s.js l
    · simp [hlo, h1, h2, reOk]
    simp [hlo, h1, h2, Str.c]
    refine callP_ro (l14Fits_ro s q hj hm hn hq) ?_
    cases h3 : fitsQ s q
    · simp [reOk, h3]
    simp [Str.c]
    rw [i64_in (by omega) (by omega)]
    refine callP_ro (l01In_ro _ _ _) ?_
    by_cases h4 : 0 ≤ j
    · by_cases h5 : j < s.js.length
      · have h6 : j ≤ (s.js.length : Int) - 1 := by omega
        have h7 : j.toNat < s.js.length := by omega
        simp [reOk, h2, h3, h4, h5, h6, h7, Str.c, J.c]
      · have h6 : ¬ j ≤ (s.js.length : Int) - 1 := by omega
        simp [reOk, h2, h3, h4, h5, h6]
    · simp [reOk, h2, h3, h4]
  cases hp : reOk s l q j
  · have hz : reQs s l q j = [none] := by unfold reQs; rw [hp]; rfl
    rw [hz]
    simp
    exact retRO [.nils, .bool false] 1 (by simp) (by simp [frz, V.cl, stQ, allSome, rv]) (by simp [hg])
  have hz : reQs s l q j = [(fX s l (rdAll q) j.toNat).map (- ·), (fY s l (rdAll q) j.toNat).map (- ·)] := by unfold reQs; rw [hp]; rfl
  unfold reOk at hp
  simp only [Bool.and_eq_true, decide_eq_true_eq] at hp
  obtain ⟨⟨hf, hfl⟩, ⟨h0, h1⟩, hfix⟩ := hp
  obtain ⟨i, rfl⟩ : ∃ i : Nat, j = i := ⟨j.toNat, by omega⟩
  have hi : i < s.js.length := by omega
  simp only [Int.toNat_natCast] at hz
  rw [hz]
  simp [Str.c]
  refine callP_ro (l14Force_ro s l q i hj hm hn hq hf hfl hi) ?_
  have okX := fX_ok s l (rdAll q) i
  have okY := fY_ok s l (rdAll q) i
  cases hfb : frcB s l q i
  · have hall : allSome [(fX s l (rdAll q) i).map (- ·), (fY s l (rdAll q) i).map (- ·)] = false := by
      unfold frcB allSome at hfb
      simp only [List.all_cons, List.all_nil, Bool.and_true] at hfb
      unfold allSome
      simp only [List.all_cons, List.all_nil, Bool.and_true, Option.isSome_map]
      exact hfb
    have hst : stQ [(fX s l (rdAll q) i).map (- ·), (fY s l (rdAll q) i).map (- ·)] = [] := by unfold stQ; rw [hall]; rfl
    rw [hall, hst]
    simp
    exact retRO [.nils, .bool false] 1 (by simp) (by simp [frz, V.cl, rv]) (by simp [hg])
  have ha : allSome [pX s (rdAll q) i, pY s (rdAll q) i] = true := by
    rcases h1 : allSome [pX s (rdAll q) i, pY s (rdAll q) i] with _ | _
    · rw [frcB_no h1] at hfb; cases hfb
    · rfl
  have eL : frcL s l q i = [ro (fX s l (rdAll q) i), ro (fY s l (rdAll q) i)] := by unfold frcL; rw [ha]; rfl
  have hall : allSome [(fX s l (rdAll q) i).map (- ·), (fY s l (rdAll q) i).map (- ·)] = true := by
    unfold frcB allSome at hfb
    simp only [List.all_cons, List.all_nil, Bool.and_true] at hfb
    unfold allSome
    simp only [List.all_cons, List.all_nil, Bool.and_true, Option.isSome_map]
    exact hfb
  have hst : stQ [(fX s l (rdAll q) i).map (- ·), (fY s l (rdAll q) i).map (- ·)] = [ro ((fX s l (rdAll q) i).map (- ·)), ro ((fY s l (rdAll q) i).map (- ·))] := by unfold stQ; rw [hall]; rfl
  have hNX := l04Neg_ro _ okX
  have hNY := l04Neg_ro _ okY
  rw [hall, hst, eL, rv_two, rv_two]
  generalize (fX s l (rdAll q) i).map (- ·) = nx at *
  generalize (fY s l (rdAll q) i).map (- ·) = ny at *
  simp
  refine AW_mixedB mixedO bl (by simp [hg]) [0, 1, 2, 3, 4, 5, 6, 7] 3 (by kernel_rfl) ?_
  simp [RT.c]
  refine hcQ_ro hNX ?_
  simp [RT.c]
  refine hcQ_ro hNY ?_
  simp [RT.c]
  refine DAny_one (i := 8) (by kernel_rfl) rfl rfl ?_
  simp [show List.range 2 = [0, 1] from rfl, RT.c]
  intro g4 hg4
  intros
  have h4g : ¬ g4 = g := by assumption
  have hb4 : bl g4 = none := by assumption
  have hs1 : ∀ X : Option Blk, Sub bl (upd (upd bl g (some ⟨2, [s.c]⟩)) g4 X) := fun X => by
    intro z b hz; simp only [upd_apply] at hz ⊢; grind
  simp only [Str.c] at hs1
  refine ⟨hs1 _, DAny_one (i := 9) (by kernel_rfl) rfl rfl ?_⟩
  simp
  refine ⟨hs1 _, DAny_one (i := 10) (by kernel_rfl) rfl rfl ?_⟩
  simp
  refine ⟨hs1 _, DAny_done (by kernel_rfl) ?_⟩
  simp
  refine retRO [.lsl g4 3 0 2, .bool true] 2 (by simp) (frz_tup2 (frz_slice (sz := 3) (n := 2) hg4 hb4 (els := [nx, ny].map fun x => (ro x).c) (by simp [RT.c]) (by simp) (by simp [RT.c, V.cl]))) (hs1 _)

end Go.Proofs.YthhjmaianlmfpaaGreat.Vm

namespace Go.Proofs.YthhjmaianlmfpaaGreat.Vm
open Go Go.Proofs
set_option linter.unusedSimpArgs false
set_option linter.unusedVariables false

theorem law_ReactionAt_ro (s : Str) (l : List Int) (q : List RT) (j : Int) (hs : s.sz) (hl : l.length ≤ 140737488351232) (hq : fitQ q 140737488351232) (hj : -9223372036854775808 ≤ j ∧ j ≤ 9223372036854775807) : RO Tryz.prog 6 [.agg s.c, .sl (iv l), .sl (rv q), .int .i64 j] (.bool true) := by
  refine ro_of2 Tryz.func6 rfl rfl (by rw [Tryz.ntmps6]; simp) fun bl => ?_
  rw [Tryz.ntmps6, Tryz.results6]
  refine AW_run ?_
  simp [Str.c]
  intro gx0 hgx0 hbgx0
  have kp := kp_of (bl := bl) hbgx0 (some ⟨2, [[.sl (jv s.js), .sl (mv s.ms)]]⟩)
  have egx0 : upd bl gx0 (some ⟨2, [[.sl (jv s.js), .sl (mv s.ms)]]⟩) gx0 = some ⟨2, [[.sl (jv s.js), .sl (mv s.ms)]]⟩ := by simp
  have sb1 : Sub bl (upd bl gx0 (some ⟨2, [[.sl (jv s.js), .sl (mv s.ms)]]⟩)) := fun x y hx => kp x y ((Sub.refl _) x y hx)
  generalize upd bl gx0 (some ⟨2, [[.sl (jv s.js), .sl (mv s.ms)]]⟩) = b1 at *
  clear kp
  refine ⟨fun h => ?_, fun hl1 => ?_⟩
  · exact retRO [_] 0 rfl rfl sb1
  have hl2 : l.length ≤ 1048576 := by omega
  refine callP_ro (szStructure_ro s _ (by omega) hs.js hs.ms hs.nm) ?_
  try simp [egx0]
  refine ⟨fun h => ?_, fun hzs => ?_⟩
  · exact retRO [_] 0 rfl rfl sb1
  obtain ⟨l1s, l2s, l3s⟩ := szStr_le (s := s) (left := 1048576) (by omega) (by omega)
  have hles : -1 ≤ (szStr s 1048576) ∧ (szStr s 1048576) ≤ 1048576 := by omega
  have jss : s.js.length ≤ 1048576 := by omega
  have mss : s.ms.length ≤ 1048576 := by omega
  refine callP_ro (szRatS_ro q _ hles hq) ?_
  try simp [egx0]
  refine ⟨fun h => ?_, fun hzq => ?_⟩
  · exact retRO [_] 0 rfl rfl sb1
  obtain ⟨qq, qsq⟩ := szQs_n (rs := q) (left := (szStr s 1048576)) hles (by omega)
  have hleq := szQs_le (rs := q) (left := (szStr s 1048576)) hles
  have ts := toStructure_ro s jss mss
  have tl := toIntS_ro l hl2
  have tq := toRatS_ro q qq
  have hS := spec_ReactionAt_ro s l q j hs.js hs.ms hs.nm (by omega) qq
  have hI := impl_ReactionAt_nw s l q j hs.js hs.ms hs.nm (by omega) qq
  have hJ := impl_ReactionAt_ro s l q j hs.js hs.ms hs.nm (by omega) qq
  have wl := stQ_fit (reQs_ok s l q j).1 (by have := (reQs_ok s l q j).2; omega)
  generalize allSome (reQs s l q j) = ob at hS hI hJ
  generalize stQ (reQs s l q j) = w at hS hI hJ wl
  obtain ⟨wq, ws⟩ := wl
  have we := eqRatS_ro w wq
  refine callP_ro ts ?_
  try simp [egx0]
  refine callP_ro tl ?_
  try simp [egx0]
  refine callP_ro tq ?_
  try simp [egx0]
  refine callP_ro hS ?_
  try simp [egx0]
  refine callP_new (toStructure_nw s jss mss) fun va0 ga0 cb0 ot fa0 fra0 => ?_
  obtain ⟨va0a, va0b, rfl, oa0, c1, c2, c3, c4⟩ := own_agg ot
  clear ot
  have m_gx0_ga0 : gx0 ∉ ga0 := fun hh => by have hz := fa0 _ hh; rw [egx0] at hz; cases hz
  have fr_ga0 : ∀ x, x ∈ ga0 → bl x = none := fun x hx => fresh_of sb1 (fa0 x hx)
  have egx0 := new_keep fa0 fra0 egx0
  have scb0 : Sub bl cb0 := fun x y hx => new_keep fa0 fra0 (sb1 x y hx)
  try simp [egx0, c1, c2, c3, c4]
  intro gx1 hgx1 hbgx1
  have kp := kp_of (bl := cb0) hbgx1 (some ⟨2, [[va0a, va0b]]⟩)
  have egx1 : upd cb0 gx1 (some ⟨2, [[va0a, va0b]]⟩) gx1 = some ⟨2, [[va0a, va0b]]⟩ := by simp
  have sb2 : Sub bl (upd cb0 gx1 (some ⟨2, [[va0a, va0b]]⟩)) := fun x y hx => kp x y (scb0 x y hx)
  generalize upd cb0 gx1 (some ⟨2, [[va0a, va0b]]⟩) = b2 at *
  have egx0 := kp _ _ egx0
  have m_gx1_ga0 : gx1 ∉ ga0 := oa0.not hbgx1
  have oa0 := oa0.keep (bl' := b2) fun x _ y hy => kp x y hy
  clear kp
  try simp [egx0, egx1, c1, c2, c3, c4]
  refine callP_new (toIntS_nw l hl2) fun va1 ga1 cb1 oa1 fa1 fra1 => ?_
  obtain ⟨c1, c2⟩ := oa1.one
  have m_gx0_ga1 : gx0 ∉ ga1 := fun hh => by have hz := fa1 _ hh; rw [egx0] at hz; cases hz
  have m_gx1_ga1 : gx1 ∉ ga1 := fun hh => by have hz := fa1 _ hh; rw [egx1] at hz; cases hz
  have n_ga1_ga0 : ∀ x, x ∈ ga1 → x ∉ ga0 := fun x hx => oa0.not (fa1 x hx)
  have fr_ga1 : ∀ x, x ∈ ga1 → bl x = none := fun x hx => fresh_of sb2 (fa1 x hx)
  have egx0 := new_keep fa1 fra1 egx0
  have egx1 := new_keep fa1 fra1 egx1
  have oa0 := oa0.keep (bl' := cb1) fun x _ y hy => new_keep fa1 fra1 hy
  have scb1 : Sub bl cb1 := fun x y hx => new_keep fa1 fra1 (sb2 x y hx)
  try simp [egx0, egx1, c1, c2]
  refine callP_new (toRatS_nw q qq) fun va2 ga2 cb2 oa2 fa2 fra2 => ?_
  obtain ⟨c1, c2⟩ := own_rs1 oa2
  have m_gx0_ga2 : gx0 ∉ ga2 := fun hh => by have hz := fa2 _ hh; rw [egx0] at hz; cases hz
  have m_gx1_ga2 : gx1 ∉ ga2 := fun hh => by have hz := fa2 _ hh; rw [egx1] at hz; cases hz
  have n_ga2_ga0 : ∀ x, x ∈ ga2 → x ∉ ga0 := fun x hx => oa0.not (fa2 x hx)
  have n_ga2_ga1 : ∀ x, x ∈ ga2 → x ∉ ga1 := fun x hx => oa1.not (fa2 x hx)
  have fr_ga2 : ∀ x, x ∈ ga2 → bl x = none := fun x hx => fresh_of scb1 (fa2 x hx)
  have egx0 := new_keep fa2 fra2 egx0
  have egx1 := new_keep fa2 fra2 egx1
  have oa0 := oa0.keep (bl' := cb2) fun x _ y hy => new_keep fa2 fra2 hy
  have oa1 := oa1.keep (bl' := cb2) fun x _ y hy => new_keep fa2 fra2 hy
  have scb2 : Sub bl cb2 := fun x y hx => new_keep fa2 fra2 (scb1 x y hx)
  try simp [egx0, egx1, c1, c2]
  refine callP_lend 3 (ys := [.agg s.c, .sl (iv l), .sl (rv q), .int .i64 j]) (by simp [frz_str oa0 1, frz_iv oa1 2, frz_rs oa2 1]; try simp [frz]) hI (dV_sc _ _) fun vr gr d0 oT fr0 frr0 => ?_
  obtain ⟨w0, rfl, oR, p1, p2⟩ := own_dV oT
  clear oT
  have m_gx0_gr : gx0 ∉ gr := fun hh => by have hz := fr0 _ hh; rw [egx0] at hz; cases hz
  have m_gx1_gr : gx1 ∉ gr := fun hh => by have hz := fr0 _ hh; rw [egx1] at hz; cases hz
  have n_gr_ga0 : ∀ x, x ∈ gr → x ∉ ga0 := fun x hx => oa0.not (fr0 x hx)
  have n_gr_ga1 : ∀ x, x ∈ gr → x ∉ ga1 := fun x hx => oa1.not (fr0 x hx)
  have n_gr_ga2 : ∀ x, x ∈ gr → x ∉ ga2 := fun x hx => oa2.not (fr0 x hx)
  have fr_gr : ∀ x, x ∈ gr → bl x = none := fun x hx => fresh_of scb2 (fr0 x hx)
  have egx0 := new_keep fr0 frr0 egx0
  have egx1 := new_keep fr0 frr0 egx1
  have oa0 := oa0.keep (bl' := d0) fun x _ y hy => new_keep fr0 frr0 hy
  have oa1 := oa1.keep (bl' := d0) fun x _ y hy => new_keep fr0 frr0 hy
  have oa2 := oa2.keep (bl' := d0) fun x _ y hy => new_keep fr0 frr0 hy
  have sd0 : Sub bl d0 := fun x y hx => new_keep fr0 frr0 (scb2 x y hx)
  try simp [egx0, egx1, p1, p2]
  refine AW_way0 [(4, .loc gx0 2 0 0), (1, .sl (iv l)), (2, .sl (rv q)), (3, .int .i64 j), (12, .loc gx1 2 0 0), (13, va1), (14, va2), (10, .sl (rv w)), (11, .bool ob), (15, w0), (16, .bool ob)] _ d0 68 (.bool false) ⟨rfl, by simp, Sub.refl _⟩ rfl ?_ ?_
  · simp [egx0, egx1]
    refine callP_borrow 3 (ys := [.sl (rv w), .sl (rv w)]) (by simp [frz_rs oR 1]; simp [frz]) we rfl ?_
    simp
  try simp [egx0, egx1]
  refine AW_quiet mixedO (by kernel_rfl) ?_
  simp [egx0, egx1]
  refine hcQ_ro ts ?_
  try simp
  refine hcQ_of 3 (eqStructure_ro s s hs.js hs.ms) (by simp [frz_str oa0 1]; simp [frz, Str.c, V.cl]) rfl ?_
  try simp [egx0, egx1]
  refine callP_ro tl ?_
  try simp [egx0, egx1]
  refine callP_borrow 3 (ys := [.sl (iv l), .sl (iv l)]) (by simp [frz_iv oa1 2]; simp [frz]) (eqIntS_ro l l hl) rfl ?_
  try simp [egx0, egx1]
  refine callP_ro tq ?_
  try simp [egx0, egx1]
  refine callP_borrow 3 (ys := [.sl (rv q), .sl (rv q)]) (by simp [frz_rs oa2 1]; simp [frz]) (eqRatS_ro q qq) rfl ?_
  try simp [egx0, egx1]
  have bd0 : (mkN 1 s) ≤ 4611686018427387000 := by simp only [mkN]; omega
  refine markStructure_cp s 1 _ ga0 oa0 bd0 fun mb0 oa0 k0 => ?_
  have egx0 := k0 gx0 m_gx0_ga0 _ egx0
  have egx1 := k0 gx1 m_gx1_ga0 _ egx1
  have oa1 := oa1.keep (bl' := mb0) fun x hx y hy => k0 x (n_ga1_ga0 x hx) y hy
  have oa2 := oa2.keep (bl' := mb0) fun x hx y hy => k0 x (n_ga2_ga0 x hx) y hy
  have oR := oR.keep (bl' := mb0) fun x hx y hy => k0 x (n_gr_ga0 x hx) y hy
  have smb0 : Sub bl mb0 := fun x y hx => k0 x (fun h => by rw [fr_ga0 x h] at hx; cases hx) y (sd0 x y hx)
  try simp [egx0, egx1]
  have bd1 : ((mkN 1 s) + l.length) ≤ 4611686018427387000 := by simp only [mkN]; omega
  refine markIntS_cpN l (mkN 1 s) _ ga1 oa1 bd1 fun mb1 oa1 k1 => ?_
  have egx0 := k1 gx0 m_gx0_ga1 _ egx0
  have egx1 := k1 gx1 m_gx1_ga1 _ egx1
  have oa0 := oa0.keep (bl' := mb1) fun x hx y hy => k1 x (fun hh => n_ga1_ga0 x hh hx) y hy
  have oa2 := oa2.keep (bl' := mb1) fun x hx y hy => k1 x (n_ga2_ga1 x hx) y hy
  have oR := oR.keep (bl' := mb1) fun x hx y hy => k1 x (n_gr_ga1 x hx) y hy
  have smb1 : Sub bl mb1 := fun x y hx => k1 x (fun h => by rw [fr_ga1 x h] at hx; cases hx) y (smb0 x y hx)
  try simp [egx0, egx1]
  have bd2 : (mkQsN ((mkN 1 s) + l.length) q) ≤ 4611686018427387000 := by simp only [mkN, mkQsN_sum]; omega
  refine markRatS_cp q ((mkN 1 s) + l.length) _ ga2 oa2 bd2 fun mb2 oa2 k2 => ?_
  have egx0 := k2 gx0 m_gx0_ga2 _ egx0
  have egx1 := k2 gx1 m_gx1_ga2 _ egx1
  have oa0 := oa0.keep (bl' := mb2) fun x hx y hy => k2 x (fun hh => n_ga2_ga0 x hh hx) y hy
  have oa1 := oa1.keep (bl' := mb2) fun x hx y hy => k2 x (fun hh => n_ga2_ga1 x hh hx) y hy
  have oR := oR.keep (bl' := mb2) fun x hx y hy => k2 x (n_gr_ga2 x hx) y hy
  have smb2 : Sub bl mb2 := fun x y hx => k2 x (fun h => by rw [fr_ga2 x h] at hx; cases hx) y (smb1 x y hx)
  try simp [egx0, egx1]
  refine AW_way0 [(4, .loc gx0 2 0 0), (1, .sl (iv l)), (2, .sl (rv q)), (3, .int .i64 j), (12, .loc gx1 2 0 0), (13, va1), (14, va2), (10, .sl (rv w)), (11, .bool ob), (15, w0), (16, .bool ob), (17, .int .i64 ((mkQsN ((mkN 1 s) + l.length) q) : Nat))] _ mb2 105 (.bool false) ⟨rfl, by simp, Sub.refl _⟩ rfl ?_ ?_
  · simp [egx0, egx1]
    refine callP_borrow 3 (ys := [.sl (rv w), .sl (rv w)]) (by simp [frz_rs oR 1]; simp [frz]) we rfl ?_
    simp
  try simp [egx0, egx1]
  have bw : mkQsN 1 w ≤ 4611686018427387000 := by have := wq.1; rw [mkQsN_sum]; omega
  refine markRatS_cp w 1 _ gr oR bw fun f0 oR kr => ?_
  have egx0 := kr gx0 m_gx0_gr _ egx0
  have egx1 := kr gx1 m_gx1_gr _ egx1
  have oa0 := oa0.keep (bl' := f0) fun x hx y hy => kr x (fun hh => n_gr_ga0 x hh hx) y hy
  have oa1 := oa1.keep (bl' := f0) fun x hx y hy => kr x (fun hh => n_gr_ga1 x hh hx) y hy
  have oa2 := oa2.keep (bl' := f0) fun x hx y hy => kr x (fun hh => n_gr_ga2 x hh hx) y hy
  have sf0 : Sub bl f0 := fun x y hx => kr x (fun h => by rw [fr_gr x h] at hx; cases hx) y (smb2 x y hx)
  have hh := heldRatS_ro w 1 bw
  have hneg : ¬ (mkQsN 1 w : Int) < 0 := by omega
  try simp [egx0, egx1]
  refine callP_borrow 3 (ys := [.sl (rv (mkQs 1 w)), .int .i64 1]) (by simp [frz_rs oR 1]; simp [frz]) hh rfl ?_
  try simp [egx0, egx1, hneg]
  refine callP_ro ts ?_
  try simp [egx0, egx1]
  refine callP_ro tl ?_
  try simp [egx0, egx1]
  refine callP_ro tq ?_
  try simp [egx0, egx1]
  refine callP_ro hJ ?_
  try simp [egx0, egx1]
  refine AW_way0 [(4, .loc gx0 2 0 0), (1, .sl (iv l)), (2, .sl (rv q)), (3, .int .i64 j), (12, .loc gx1 2 0 0), (13, va1), (14, va2), (10, .sl (rv w)), (11, .bool ob), (15, w0), (16, .bool ob), (18, .int .i64 (mkQsN 1 w : Nat)), (20, .sl (rv w)), (21, .bool ob)] _ f0 136 (.bool false) ⟨rfl, by simp, Sub.refl _⟩ rfl ?_ ?_
  · simp [egx0, egx1]
    refine callP_ro we ?_
    simp
  try simp [egx0, egx1]
  refine callP_borrow 3 (ys := [.sl (rv (mkQs 1 w)), .int .i64 1]) (by simp [frz_rs oR 1]; simp [frz]) hh rfl ?_
  try simp [egx0, egx1, hneg]
  exact retRO [_] 0 rfl rfl sf0

end Go.Proofs.YthhjmaianlmfpaaGreat.Vm

namespace Go.Proofs.YthhjmaianlmfpaaGreat.lawReactionAt
open Go Go.RowKit Go.ChangeShapes Go.WideShapes Vm
theorem body (xs : List V) (h : ArgsOk Tryz.prog Tryz.f6.params.toList xs) : RO Tryz.prog 6 xs (.bool true) := by
  rw [Tryz.params6] at h
  obtain ⟨c0, ys, rfl, h0, h⟩ := args_cons h
  obtain ⟨c1, ys, rfl, h1, h⟩ := args_cons h
  obtain ⟨c2, ys, rfl, h2, h⟩ := args_cons h
  obtain ⟨c3, ys, rfl, h3, h⟩ := args_cons h
  obtain rfl := args_nil h
  obtain ⟨x0, rfl, y0⟩ := str_of_co h0
  obtain ⟨x1, rfl, y1, z1⟩ := iv_of_co h1
  obtain ⟨x2, rfl, y2⟩ := rv_of_co h2
  obtain ⟨x3, rfl, y3⟩ := co_int Tryz.underlying3 h3
  rw [toV_struct Tryz.underlying25, toV_slice Tryz.underlying43, toV_slice Tryz.underlying26, toV_int Tryz.underlying3]
  exact law_ReactionAt_ro x0 x1 x2 x3 ⟨y0.js, y0.ms, y0.names⟩ (by omega) (fitQ_mono y2 (by omega)) (wf_i64 y3)
set_option maxRecDepth 100000 in
theorem lifted (os : Os) (started : os.Started) (H : Type) (enc : TypeId × Value → H) :
    ReturnsInHanded {} Tryz.checked os 6 .any (Rows.fnExactReactionAtSpec.pre6 enc Tryz.prog Tryz.f6 Rows.fnExactReactionAtRow.domain false) (Rows.fnExactReactionAtSpec.post enc Tryz.prog Tryz.f6 false true false false) := by
  refine returnsInHanded_of_change_sized (C := Tryz.checked) own started (by kernel_rfl) Tryz.func6
    (ChangeSpec.witness6 (enc := enc) (C := Tryz.checked) false ⟨#[], #[.agg #[.slice none 0 0, .slice none 0 0], .slice none 0 0, .slice none 0 0, .int .i64 0], []⟩ 8 (by kernel_rfl) (by kernel_rfl) (by kernel_rfl) (by kernel_rfl)) ?_
  intro W base args ds gs before hval hW hcnd hsz _
  refine law_calls (tb := 4) rfl rfl Tryz.underlying4 laidOut (by kernel_rfl) (fun ds hds => ?_) body W base args ds gs before hval hW hsz
  rw [Tryz.params6] at hds
  first
    | (match ds, hds with | [a], _ => rfl)
    | (match ds, hds with | [a, b], _ => rfl)
    | (match ds, hds with | [a, b, c], _ => rfl)
    | (match ds, hds with | [a, b, c, d], _ => rfl)
    | (match ds, hds with | [a, b, c, d, e], _ => rfl)
    | (match ds, hds with | [a, b, c, d, e, f], _ => rfl)
theorem over : Rows.fnExactReactionAtRow.holds Tryz.pinned (OpenSpec.ofChange Rows.fnExactReactionAtSpec) :=
  OpenClaim.holds_of_wide 6 Tryz.f6 rfl rfl rfl rfl rfl rfl rfl ⟨rfl, rfl, rfl, rfl, rfl⟩ rfl rfl rfl rfl rfl (by kernel_rfl) Tryz.func6 (facts (by kernel_rfl))
    (of_decide_eq_true (by kernel_rfl)) (by unfold Func.isWrapper; first | (rw [if_pos (by decide +kernel)]; kernel_rfl) | (rw [if_neg (by decide +kernel)]; exact ⟨rfl, rfl⟩))
    (fun os started H enc _ => lifted os started H enc)
theorem proved : Rows.FnExactReactionAtSaid := over
#print axioms proved
end Go.Proofs.YthhjmaianlmfpaaGreat.lawReactionAt
