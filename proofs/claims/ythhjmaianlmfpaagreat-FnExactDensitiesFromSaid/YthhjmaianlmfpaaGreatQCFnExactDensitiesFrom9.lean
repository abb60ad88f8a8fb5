/- FnExactDensitiesFrom: for every structure and list of fractions the program's DensitiesFrom returns what the reference's returns; no condition. -/



import Derived.Test.YthhjmaianlmfpaaGreatQCFnExactDensitiesFrom8

namespace Go.Proofs.YthhjmaianlmfpaaGreat.Vm
open Go Go.Proofs
set_option linter.unusedSimpArgs false
set_option linter.unusedVariables false

theorem cv_getE (cs : List (Int × Int)) (i : Nat) (h : i < (cv cs).length) : (cv cs)[i] = [.int .i64 (cs[i]'(by simpa using h)).1, .int .i64 (cs[i]'(by simpa using h)).2] := by simp [cv]
theorem fvs_set (xs : List (Option Rat)) (i : Nat) (x : Option Rat) : (fvs xs).set i [fv x] = fvs (xs.set i x) := by simp [fvs, List.map_set]
theorem from_ro (s : Str) (D : List (Option Rat)) (hm : s.ms.length ≤ 8) (hD : okL D) (hl : D.length = (cols s.ms).length) : RO Tryz.prog 98 [.ptr s.c, .sl (fvs D)] (.sl (fvs (runI s.ms D (cols s.ms).length))) := by
  have hcl := colsTo_le s.ms s.ms.length
  change (cols s.ms).length ≤ 2 * s.ms.length at hcl
  refine ro_of2 Tryz.func98 rfl rfl (by rw [Tryz.ntmps98]; simp) fun bl => ?_
  rw [Tryz.ntmps98, Tryz.results98]
  refine AW_run ?_
  simp [Str.c]
  refine ⟨by omega, by unfold maxLen; omega, fun g hg0 hg => ?_⟩
  refine callP_ro (columns_ro s hm) ?_
  simp
  refine AW_for (fun j : Nat => [(1, .sl (fvs D)), (5, .lsl g 1 0 s.ms.length), (16, .sl (cv (cols s.ms))), (17, .int .i64 (cols s.ms).length), (18, .int .i64 j)]) (fun j => upd bl g (some ⟨1, fvs (runI s.ms D j)⟩)) (fun j => j ≤ (cols s.ms).length) (fun j => (cols s.ms).length - j) _ 0 (Nat.zero_le _) ⟨rfl, by simp, sub_eq (by simp [runI, fvs, fv])⟩ ?_
  intro j hj
  have wj : IntKind.i64.wrap ((j : Int) + 1) = (j : Int) + 1 := i64_in (by omega) (by omega)
  refine AW_run ?_
  simp
  refine ⟨fun h => ?_, fun h => ?_⟩
  · have hmem : (cols s.ms)[j] ∈ cols s.ms := List.getElem_mem h
    obtain ⟨k, e1, hk, hsg⟩ := cols_mem s.ms.length (Nat.le_refl _) hmem
    have h2 : j < D.length := by omega
    have hrl := runI_length s.ms D j
    have hkA : k < (runI s.ms D j).length := by omega
    have oj := hD _ (List.getElem_mem h2)
    have okk := runI_ok s.ms hD j _ (List.getElem_mem hkA)
    have hst := runI_succ s.ms D j
    rw [getD_at _ _ _ h, getD_at _ _ _ h2, stI, e1, Int.toNat_natCast, getD_at _ _ _ hkA] at hst
    have hns := neg_ro D[j]
    have hA1 := add_ro (runI s.ms D j)[k] D[j] okk oj
    have hA2 := add_ro (runI s.ms D j)[k] (D[j].map (- ·)) okk (okQ_neg oj)
    rcases hsg with e2 | e2
    · rcases eA : (runI s.ms D j)[k] with _ | a
      · rw [eA, if_neg (by simp), e2, vsg, if_neg (by omega)] at hst
        simp [h, cv_getE, e1, e2]
        intro g7 hg7 h7g hb7
        simp [h7g, Ne.symm h7g, h2]
        simp [h7g, Ne.symm h7g, hrl, hk, hkA, eA, show fv none = .nilp from rfl, show ∀ a, fv (some a) = .ptr (rq a).c from fun _ => rfl]
        simp [wj, loopQ_normal, fvs_set]
        exact ⟨j + 1, by omega, by omega, rfl, by simp, by rw [hst]; intro z b hz; simp only [upd_apply] at hz ⊢; grind⟩
      · rw [eA, if_pos (by rfl), ← eA, e2, vsg, if_neg (by omega)] at hst
        simp [h, cv_getE, e1, e2]
        intro g7 hg7 h7g hb7
        simp [h7g, Ne.symm h7g, h2]
        simp [h7g, Ne.symm h7g, hrl, hk, hkA, eA, show fv none = .nilp from rfl, show ∀ a, fv (some a) = .ptr (rq a).c from fun _ => rfl]
        refine AW_mixedT mixedO [0, 1, 2, 3, 4, 5, 6, 7, 8, 9, 10] 1 11 (by kernel_rfl) ?_
        simp [h7g, Ne.symm h7g, hrl, hk, hkA]
        refine hcQ_ro hA1 ?_
        simp [h7g, Ne.symm h7g, hrl, hk, hkA]
        refine DAny_last (i := 11) (by kernel_rfl) rfl rfl rfl ?_
        simp [h7g, Ne.symm h7g, hrl, hk, hkA]
        refine DAny_done (by kernel_rfl) ?_
        try simp
        simp [wj, loopQ_normal, fvs_set]
        exact ⟨j + 1, by omega, by omega, rfl, by simp, by rw [hst]; intro z b hz; simp only [upd_apply] at hz ⊢; grind⟩
    · rcases eA : (runI s.ms D j)[k] with _ | a
      · rw [eA, if_neg (by simp), e2, vsg, if_pos (by omega)] at hst
        simp [h, cv_getE, e1, e2]
        intro g7 hg7 h7g hb7
        simp [h7g, Ne.symm h7g, h2]
        refine callP_ro hns ?_
        simp [h7g, Ne.symm h7g, h2]
        simp [h7g, Ne.symm h7g, hrl, hk, hkA, eA, show fv none = .nilp from rfl, show ∀ a, fv (some a) = .ptr (rq a).c from fun _ => rfl]
        simp [wj, loopQ_normal, fvs_set]
        exact ⟨j + 1, by omega, by omega, rfl, by simp, by rw [hst]; intro z b hz; simp only [upd_apply] at hz ⊢; grind⟩
      · rw [eA, if_pos (by rfl), ← eA, e2, vsg, if_pos (by omega)] at hst
        simp [h, cv_getE, e1, e2]
        intro g7 hg7 h7g hb7
        simp [h7g, Ne.symm h7g, h2]
        refine callP_ro hns ?_
        simp [h7g, Ne.symm h7g, h2]
        simp [h7g, Ne.symm h7g, hrl, hk, hkA, eA, show fv none = .nilp from rfl, show ∀ a, fv (some a) = .ptr (rq a).c from fun _ => rfl]
        refine AW_mixedT mixedO [0, 1, 2, 3, 4, 5, 6, 7, 8, 9, 10] 1 11 (by kernel_rfl) ?_
        simp [h7g, Ne.symm h7g, hrl, hk, hkA]
        refine hcQ_ro hA2 ?_
        simp [h7g, Ne.symm h7g, hrl, hk, hkA]
        refine DAny_last (i := 11) (by kernel_rfl) rfl rfl rfl ?_
        simp [h7g, Ne.symm h7g, hrl, hk, hkA]
        refine DAny_done (by kernel_rfl) ?_
        try simp
        simp [wj, loopQ_normal, fvs_set]
        exact ⟨j + 1, by omega, by omega, rfl, by simp, by rw [hst]; intro z b hz; simp only [upd_apply] at hz ⊢; grind⟩
  · have hj2 : j = (cols s.ms).length := by omega
    subst hj2
    have hrl := runI_length s.ms D (cols s.ms).length
    exact retRO [.lsl g 1 0 s.ms.length] 1 (by simp) (frz_slice (sz := 1) (n := s.ms.length) hg0 hg (els := fvs (runI s.ms D (cols s.ms).length)) (by simp) (by simpa using hrl) (fvs_cl _)) (by simp [hg])

/-! ### Densities from columns -/
def denOk (s : Str) (d : List RT) : Bool := sOk s && (decide (d.length = (cols s.ms).length) && allOk d)
def denQ (s : Str) (d : List RT) : List (Option Rat) := if denOk s d = true then runI s.ms (rdAll d) (cols s.ms).length else [none]
theorem denOk_of {s : Str} {d : List RT} (h : denOk s d = true) : SOk s ∧ d.length = (cols s.ms).length ∧ allOk d = true := by
  unfold denOk at h
  simp only [Bool.and_eq_true, decide_eq_true_eq] at h
  exact ⟨sOk_of h.1, h.2.1, h.2.2⟩
theorem denQ_ok (s : Str) (d : List RT) : okL (denQ s d) ∧ (denQ s d).length ≤ 24 := by
  unfold denQ; split
  · rename_i h
    obtain ⟨hs, _, _⟩ := denOk_of h
    have := hs.nm
    exact ⟨runI_ok s.ms (rdAll_ok d) _, by rw [runI_length]; omega⟩
  · exact ⟨okL_none, by simp⟩
theorem impl_DensitiesFrom_nw (s : Str) (d : List RT) (hj : s.js.length ≤ 140737488351232) (hm : s.ms.length ≤ 140737488351232) (hn : ∀ j, j ∈ s.js → j.name.size ≤ 140737488351232) (hd : fitQ d 1048576) : NW Tryz.prog 39 [.agg s.c, .sl (rv d)] (dV (stQ (denQ s d)) (allSome (denQ s d))) := by
  refine nw_of Tryz.func39 rfl rfl (by rw [Tryz.ntmps39]; simp) fun bl => ?_
  rw [Tryz.ntmps39, Tryz.results39]
  refine AW_runA ?_
  simp [Str.c]
  intro g hg0 hg
  refine AW_frzAt 1 2 (.ptr s.c) bl (by simp [hg]) (by simp [frz, dropB, hg, Str.c, V.cl]) ?_
  refine AW_run ?_
  simp [Str.c]
  refine callP_ro (impl_StructureOk_ro s hj hm hn) ?_
  cases hk : sOk s
  · have hz : denQ s d = [none] := by unfold denQ denOk; rw [hk]; rfl
    rw [hz]
    simp
    exact retNW [.nils, .bool false] [] (by simp) (own_dV0 _) (by simp) (Sub.refl _)
  have hs := sOk_of hk
  have hnm := hs.nm
  have hL := loadsOf_ro d (cols s.ms).length hd
  have hz : denOk s d = (decide (d.length = (cols s.ms).length) && allOk d) := by unfold denOk; rw [hk]; rfl
  rw [← hz] at hL
  simp
  refine callP_ro (columns_ro s hnm) ?_
  simp
  refine callP_ro hL ?_
  cases hp : denOk s d
  · have hz : denQ s d = [none] := by unfold denQ; rw [hp]; rfl
    rw [hz]
    simp
    exact retNW [.nils, .bool false] [] (by simp) (own_dV0 _) (by simp) (Sub.refl _)
  have hq : denQ s d = runI s.ms (rdAll d) (cols s.ms).length := by unfold denQ; rw [hp]; rfl
  obtain ⟨ho, hlen⟩ := denQ_ok s d
  obtain ⟨_, hdl, _⟩ := denOk_of hp
  have hF := from_ro s (rdAll d) hnm (rdAll_ok d) (by simpa using hdl)
  rw [← hq] at hF
  simp
  refine callP_ro hF ?_
  simp
  refine callP_new (stores_nw (denQ s d) ho (by omega)) fun v gs b' o f fr => ?_
  obtain ⟨w, rfl, ow, w1, w2⟩ := own_dV o
  simp
  exact retNW [w, .bool (allSome (denQ s d))] gs (by simp) o (fun x hx => f x hx) (fun x y hy => new_keep f fr hy)
theorem impl_DensitiesFrom_ro (s : Str) (d : List RT) (hj : s.js.length ≤ 140737488351232) (hm : s.ms.length ≤ 140737488351232) (hn : ∀ j, j ∈ s.js → j.name.size ≤ 140737488351232) (hd : fitQ d 1048576) : RO Tryz.prog 39 [.agg s.c, .sl (rv d)] (.tup [.sl (rv (stQ (denQ s d))), .bool (allSome (denQ s d))]) := by
  have := ro_of_nw 3 (impl_DensitiesFrom_nw s d hj hm hn hd) (dV_dep _ _ 0)
  rwa [dV_fz] at this

/-! ### The reference -/
theorem l05Zero_ro : RO Tryz.prog 180 [] (.agg (ro (some 0)).c) := by
  have w0 := RatFromInt_ro 0 (by omega)
  rw [zero_cast] at w0
  refine ro_of2 Tryz.func180 rfl rfl (by rw [Tryz.ntmps180]; simp) fun bl => ?_
  rw [Tryz.ntmps180, Tryz.results180]
  refine AW_run ?_
  generalize ro (some 0) = z at *
  simp
  intro g hg0 hg
  refine callP_ro w0 ?_
  simp [RT.c]
  exact retRO [.agg z.c] 1 (by simp [RT.c]) (by simp [frz, RT.c, V.cl]) (by simp [hg])
theorem rv_takeall (rs : List RT) : (rv rs).take rs.length = rv rs := by rw [← rv_length rs, List.take_length]
theorem rv_len3 (rs : List RT) : ∀ r, r ∈ rv rs → r.length = 3 := fun r hr => by
  obtain ⟨x, _, rfl⟩ := List.mem_map.1 hr; rfl
theorem own_rvF {bl : Int → Option Blk} {rs : List RT} {v : V} {gs : List Int} : OwnD bl (fl 3 (rv rs)) v gs ↔ (rs = [] ∧ v = .nils ∧ gs = []) ∨ ∃ g, v = .lsl g 3 0 rs.length ∧ gs = [g] ∧ bl g = some ⟨3, rv rs⟩ ∧ (g < 0 → rs = []) := by
  rw [own_fl (rv_cl rs) (rv_len3 rs)]
  simp [rv]
def zeros (n : Nat) : List RT := List.replicate n (ro (some 0))
theorem zeros_succ (n : Nat) : zeros (n + 1) = zeros n ++ [ro (some 0)] := by unfold zeros; rw [List.replicate_succ']
@[simp] theorem zeros_length (n : Nat) : (zeros n).length = n := by simp [zeros]
theorem l05Zeros_nw (n : Nat) (hn : n ≤ 1000) : NW Tryz.prog 142 [.int .i64 n] (fl 3 (rv (zeros n))) := by
  refine nw_of Tryz.func142 rfl rfl (by rw [Tryz.ntmps142]; simp) fun bl => ?_
  rw [Tryz.ntmps142, Tryz.results142]
  refine AW_run ?_
  simp
  intro g00 hg00 hb00
  refine AW_for (fun p : Nat × Int => [(0, .int .i64 n), (3, .lsl p.2 3 0 p.1)]) (fun p => upd bl p.2 (some ⟨3, rv (zeros p.1)⟩)) (fun p => p.1 ≤ n ∧ bl p.2 = none ∧ (p.2 < 0 → p.1 = 0)) (fun p => n - p.1) _ (0, g00) ⟨Nat.zero_le _, hb00, fun _ => rfl⟩ ⟨rfl, by simp, sub_eq (by simp [zeros, rv])⟩ ?_
  rintro ⟨i, g⟩ ⟨hi, hg, h0⟩
  simp only at hi hg h0
  refine AW_run ?_
  simp
  refine ⟨fun h => ?_, fun h => ?_⟩
  · refine callP_ro l05Zero_ro ?_
    have hz := zeros_succ i
    generalize ro (some 0) = z at *
    simp [RT.c]
    intro g2 hg2 h2g hb2
    simp [h2g, Ne.symm h2g, appV, elsV, Int.not_lt.2 hg2]
    refine ⟨by omega, fun g3 hg3 hb3 => ?_⟩
    have hb3' : bl g3 = none := by grind
    simp [loopQ_normal]
    refine ⟨i + 1, g3, ⟨by omega, hb3', by omega⟩, by omega, rfl, by simp, ?_⟩
    rw [hz, rv_append]
    exact sub_put (by rw [show (rv (zeros i)).take i = rv (zeros i) by have := rv_takeall (zeros i); rwa [zeros_length] at this]; simp [rv, RT.c]) (by simp [hg, hb2, h2g])
  · have hi2 : i = n := by omega
    subst hi2
    refine retNW [.lsl g 3 0 i] [g] (by simp) ?_ (by simpa using hg) (by simp [hg])
    exact own_rvF.2 (.inr ⟨g, by simp, rfl, by simp, fun h => by rw [h0 h]; rfl⟩)
theorem ZeroVector_nw (n : Nat) (hn : n ≤ 24) : NW Tryz.prog 94 [.int .i64 n] (fl 3 (rv (zeros n))) := by
  refine nw_of Tryz.func94 rfl rfl (by rw [Tryz.ntmps94]; simp) fun bl => ?_
  rw [Tryz.ntmps94, Tryz.results94]
  refine AW_run ?_
  simp
  refine callP_ro (l01In_ro _ _ _) ?_
  have h1 : (n : Int) ≤ 24 := by omega
  simp [h1]
  refine callP_new (l05Zeros_nw n (by omega)) fun v gs b' o f fr => ?_
  obtain ⟨c1, c2⟩ := o.one
  simp [c1, c2]
  exact retNW [v] gs (by simp [c1, c2]) o (fun x hx => f x hx) (fun x y hy => new_keep f fr hy)
theorem ZeroVector_ro (n : Nat) (hn : n ≤ 24) : RO Tryz.prog 94 [.int .i64 n] (.sl (rv (zeros n))) := by
  have := ro_of_nw 1 (ZeroVector_nw n hn) (fl_dep _ _ 0)
  simpa using this
end Go.Proofs.YthhjmaianlmfpaaGreat.Vm

namespace Go.Proofs.YthhjmaianlmfpaaGreat.Vm
open Go Go.Proofs
set_option linter.unusedSimpArgs false
set_option linter.unusedVariables false

theorem allOk_roAll {zs : List (Option Rat)} (h : okL zs) : allOk (roAll zs) = allSome zs := by
  unfold allOk roAll allSome
  rw [List.all_map, Bool.eq_iff_iff, List.all_eq_true, List.all_eq_true]
  constructor
  · intro H x hx
    have := H x hx
    rwa [Function.comp, rd_ro (h x hx)] at this
  · intro H x hx
    rw [Function.comp, rd_ro (h x hx)]; exact H x hx
theorem roAll_fit {zs : List (Option Rat)} (h : okL zs) (hl : zs.length ≤ 1048576) : fitQ (roAll zs) 1048576 := by
  refine ⟨by simpa using hl, fun r hr => ?_⟩
  obtain ⟨x, hx, rfl⟩ := List.mem_map.1 hr
  have := ro_le (h x hx)
  exact ⟨by omega, by omega⟩
theorem rv_set (xs : List (Option Rat)) (i : Nat) (x : Option Rat) : (rv (roAll xs)).set i (ro x).c = rv (roAll (xs.set i x)) := by simp [rv, roAll, List.map_set]
theorem roAll_getE (xs : List (Option Rat)) (i : Nat) (h : i < (roAll xs).length) : (roAll xs)[i] = ro (xs[i]'(by simpa using h)) := by simp [roAll]
theorem zeros_roAll (n : Nat) : zeros n = roAll (List.replicate n (some 0)) := by simp [zeros, roAll]
theorem spec_DensitiesFrom_ro (s : Str) (d : List RT) (hj : s.js.length ≤ 140737488351232) (hm : s.ms.length ≤ 140737488351232) (hn : ∀ j, j ∈ s.js → j.name.size ≤ 140737488351232) (hd : fitQ d 1048576) : RO Tryz.prog 38 [.agg s.c, .sl (rv d)] (.tup [.sl (rv (stQ (denQ s d))), .bool (allSome (denQ s d))]) := by
  refine ro_of2 Tryz.func38 rfl rfl (by rw [Tryz.ntmps38]; simp) fun bl => ?_
  rw [Tryz.ntmps38, Tryz.results38]
  refine AW_runA ?_
  simp [Str.c]
  intro g hg0 hg
  refine AW_frzAt 1 2 (.ptr s.c) bl (by simp [hg]) (by simp [frz, dropB, hg, Str.c, V.cl]) ?_
  refine AW_run ?_
  simp [Str.c]
  refine callP_ro (spec_StructureOk_ro s hj hm hn) ?_
  cases hk : sOk s
  · have hz : denQ s d = [none] := by unfold denQ denOk; rw [hk]; rfl
    rw [hz]
    simp
    exact retRO [.nils, .bool false] 1 (by simp) (by simp [frz, V.cl, stQ, allSome, rv]) (Sub.refl _)
  have hs := sOk_of hk
  have hnm := hs.nm
  have hz : denOk s d = (decide (d.length = (cols s.ms).length) && allOk d) := by unfold denOk; rw [hk]; rfl
  have hwl : (who s).length = (cols s.ms).length := by simp [who]
  simp [Str.c]
  refine callP_ro (l15Columns_ro s hnm) ?_
  simp
  refine AW_way0 [(1, .sl (rv d)), (2, .ptr s.c), (4, .nils), (5, .bool false), (6, .sl (iv (who s))), (7, .sl (iv (sgn s)))] _ bl 28 (.bool (!denOk s d)) ⟨rfl, by simp [Str.c], Sub.refl _⟩ rfl ?_ ?_
  · simp [hwl]
    by_cases h : d.length = (cols s.ms).length
    · have h' : (d.length : Int) = ((cols s.ms).length : Int) := by omega
      simp [h, h']
      refine callP_ro (l09Valid_ro d hd) ?_
      simp [hz, h]
    · have h' : ¬ (d.length : Int) = ((cols s.ms).length : Int) := by omega
      simp [h, h', hz]
  cases hp : denOk s d
  · have hz : denQ s d = [none] := by unfold denQ; rw [hp]; rfl
    rw [hz]
    simp
    exact retRO [.nils, .bool false] 1 (by simp) (by simp [frz, V.cl, stQ, allSome, rv]) (Sub.refl _)
  obtain ⟨_, hdl, hall⟩ := denOk_of hp
  have hD := rdAll_ok d
  have hDl : (rdAll d).length = (cols s.ms).length := by simpa using hdl
  have hso : ∀ j, j < (cols s.ms).length → ((rdAll d).getD j none).isSome = true := fun j hj => by
    rw [getD_at _ _ _ (by omega)]
    have := List.all_eq_true.1 hall d[j] (List.getElem_mem (by omega))
    simpa [rdAll] using this
  have hrun := run_eq s.ms (rdAll d) hD hso hs.kd
  have hq : denQ s d = runS s.ms (rdAll d) (cols s.ms).length := by unfold denQ; rw [hp, if_pos rfl, hrun]
  have hcl := colsTo_le s.ms s.ms.length
  change (cols s.ms).length ≤ 2 * s.ms.length at hcl
  have hlR := runS_length s.ms (rdAll d)
  have hoR := runS_ok s.ms (rdAll d)
  have hV := l09Valid_ro (roAll (denQ s d)) (roAll_fit (denQ_ok s d).1 (by have := (denQ_ok s d).2; omega))
  rw [allOk_roAll (denQ_ok s d).1] at hV
  rw [hq] at hV ⊢
  simp [Str.c]
  rcases Nat.eq_zero_or_pos s.ms.length with h0 | hpos
  · have hc0 : (cols s.ms).length = 0 := by omega
    have e0 : runS s.ms (rdAll d) (cols s.ms).length = [] := List.eq_nil_of_length_eq_zero (by rw [hlR, h0])
    rw [e0] at hV ⊢
    have hZ := ZeroVector_ro 0 (by omega)
    rw [h0]
    refine callP_ro hZ ?_
    simp [hwl, hc0]
    refine AW_for (fun j : Nat => [(8, .sl []), (34, .int .i64 0), (35, .int .i64 0)]) (fun _ => bl) (fun j => True) (fun j => j) _ 0 trivial ⟨rfl, by simp [zeros, rv], Sub.refl _⟩ ?_
    intro j _
    refine AW_run ?_
    simp
    refine callP_ro hV ?_
    simp [allSome]
    exact retRO [.sl [], .bool true] 1 (by simp) (by simp [frz, V.cl, stQ, allSome, rv, roAll]) (Sub.refl _)
  refine callP_new (ZeroVector_nw s.ms.length (by omega)) fun v gs b' o f fr => ?_
  rcases own_rvF.1 o with ⟨h1, _, _⟩ | ⟨g8, rfl, rfl, hb8, hg8⟩
  · have h2 : s.ms.length = 0 := by have := congrArg List.length h1; rwa [zeros_length] at this
    omega
  have hn8 : bl g8 = none := f g8 (by simp)
  have hp8 : 0 ≤ g8 := by
    rcases Int.lt_or_le g8 0 with h | h
    · have h2 : s.ms.length = 0 := by have := congrArg List.length (hg8 h); rwa [zeros_length] at this
      omega
    · exact h
  rw [zeros_length]
  simp
  refine AW_for (fun j : Nat => [(1, .sl (rv d)), (6, .sl (iv (who s))), (7, .sl (iv (sgn s))), (8, .lsl g8 3 0 s.ms.length), (33, .sl (iv (who s))), (34, .int .i64 (cols s.ms).length), (35, .int .i64 j)]) (fun j => upd bl g8 (some ⟨3, rv (roAll (runS s.ms (rdAll d) j))⟩)) (fun j => j ≤ (cols s.ms).length) (fun j => (cols s.ms).length - j) _ 0 (Nat.zero_le _) ⟨rfl, by simp [hwl], by
    intro z b hz
    show b' z = some b
    simp only [upd_apply] at hz
    split at hz
    · rename_i e; rw [e, hb8, ← hz, zeros_roAll]; rfl
    · exact new_keep f fr hz⟩ ?_
  intro j hj
  have wj : IntKind.i64.wrap ((j : Int) + 1) = (j : Int) + 1 := i64_in (by omega) (by omega)
  refine AW_run ?_
  simp
  refine ⟨fun h => ?_, fun h => ?_⟩
  · have hmem : (cols s.ms)[j] ∈ cols s.ms := List.getElem_mem h
    obtain ⟨k, e1, hk, hsg⟩ := cols_mem s.ms.length (Nat.le_refl _) hmem
    have h2 : j < d.length := by omega
    have h3 : j < (rdAll d).length := by omega
    have hrl := hlR j
    have hkA : k < (runS s.ms (rdAll d) j).length := by omega
    have hst := runS_succ s.ms (rdAll d) j
    rw [getD_at _ _ _ h, getD_at _ _ _ h3, stS, e1, Int.toNat_natCast, getD_at _ _ _ hkA] at hst
    have ex : ro (rdAll d)[j] = d[j] := by rw [← ro_rd hall _ h2]; simp [rdAll]
    have ok1 := hoR j _ (List.getElem_mem hkA)
    have ok2 := hD _ (List.getElem_mem h3)
    have hA := addC _ _ ok1 ok2
    have hB := subC _ _ ok1 ok2
    have wE : (who s)[j]'(by omega) = (k : Int) := by simp [who, e1]
    have sE : (sgn s)[j]'(by simp [sgn]; omega) = (cols s.ms)[j].2 := by simp [sgn]
    have sl : j < (sgn s).length := by simp [sgn]; omega
    have wl : j < (who s).length := by omega
    have eg := roAll_getE (runS s.ms (rdAll d) j) k (by simpa using hkA)
    rw [ex] at hA hB
    generalize (rdAll d)[j] = dx at *
    obtain ⟨A, eA⟩ : ∃ A, runS s.ms (rdAll d) j = A := ⟨_, rfl⟩
    simp only [eA] at hrl hkA hst hA hB eg ⊢
    rcases hsg with e2 | e2
    · rw [e2, if_pos (by omega)] at hst
      rw [e2] at sE
      simp [h, wE, sE, sl, wl]
      refine AW_mixedT mixedO [0, 1, 2, 3, 4, 5, 6, 7, 8, 9, 10, 11] 1 12 (by kernel_rfl) ?_
      simp [hrl, hk, hkA, h2, eg, RT.c]
      refine hcQ_ro hA ?_
      simp [hrl, hk, hkA, RT.c]
      refine DAny_last (i := 12) (by kernel_rfl) rfl rfl rfl ?_
      simp [hrl, hk, hkA, RT.c]
      refine DAny_done (by kernel_rfl) ?_
      simp [wj, loopQ_normal]
      refine ⟨j + 1, by omega, by omega, rfl, by simp, ?_⟩
      rw [hst, ← rv_set]
      intro z b hz; simp only [upd_apply, RT.c] at hz ⊢; grind
    · rw [e2, if_neg (by omega)] at hst
      rw [e2] at sE
      simp [h, wE, sE, sl, wl]
      refine AW_mixedT mixedO [0, 1, 2, 3, 4, 5, 6, 7, 8, 9, 10, 11] 1 12 (by kernel_rfl) ?_
      simp [hrl, hk, hkA, h2, eg, RT.c]
      refine hcQ_ro hB ?_
      simp [hrl, hk, hkA, RT.c]
      refine DAny_last (i := 12) (by kernel_rfl) rfl rfl rfl ?_
      simp [hrl, hk, hkA, RT.c]
      refine DAny_done (by kernel_rfl) ?_
      simp [wj, loopQ_normal]
      refine ⟨j + 1, by omega, by omega, rfl, by simp, ?_⟩
      rw [hst, ← rv_set]
      intro z b hz; simp only [upd_apply, RT.c] at hz ⊢; grind
  · have hj2 : j = (cols s.ms).length := by omega
    subst hj2
    have hrl := hlR (cols s.ms).length
    have hfz : ∀ (B : Int → Option Blk) (n : Nat), B g8 = some ⟨3, rv (roAll (runS s.ms (rdAll d) (cols s.ms).length))⟩ → frz (dropB B bl) 1 (.lsl g8 3 0 s.ms.length) = some (.sl (rv (roAll (runS s.ms (rdAll d) (cols s.ms).length)))) := fun B n hB =>
      frz_slice (sz := 3) (n := s.ms.length) hp8 hn8 (els := rv (roAll (runS s.ms (rdAll d) (cols s.ms).length))) hB (by simpa using hrl) (rv_cl _)
    generalize runS s.ms (rdAll d) (cols s.ms).length = R at *
    have hfb : frz (upd bl g8 (some ⟨3, rv (roAll R)⟩)) 1 (.lsl g8 3 0 s.ms.length) = some (.sl (rv (roAll R))) := frz_mono (fun z b hz => by
      unfold dropB at hz
      split at hz
      · exact hz
      · cases hz) 1 (hfz (upd bl g8 (some ⟨3, rv (roAll R)⟩)) 0 (by simp))
    simp
    refine callP_borrow 1 (ys := [.sl (rv (roAll R))]) (by simp [hfb]) hV rfl ?_
    cases ha : allSome R
    · simp
      exact retRO [.nils, .bool false] 1 (by simp) (by simp [frz, V.cl, stQ, ha, rv]) (by simp [hn8])
    · simp
      refine retRO [.lsl g8 3 0 s.ms.length, .bool true] 2 (by simp) (frz_tup2 ?_) (by simp [hn8])
      have hst : stQ R = roAll R := by unfold stQ; rw [ha]; rfl
      rw [hst]
      exact hfz _ 0 (by simp)
end Go.Proofs.YthhjmaianlmfpaaGreat.Vm

namespace Go.Proofs.YthhjmaianlmfpaaGreat.Vm
open Go Go.Proofs
set_option linter.unusedSimpArgs false
set_option linter.unusedVariables false

theorem law_DensitiesFrom_ro (s : Str) (q : List RT) (hs : s.sz) (hq : fitQ q 140737488351232) : RO Tryz.prog 9 [.agg s.c, .sl (rv q)] (.bool true) := by
  refine ro_of2 Tryz.func9 rfl rfl (by rw [Tryz.ntmps9]; simp) fun bl => ?_
  rw [Tryz.ntmps9, Tryz.results9]
  refine AW_run ?_
  simp [Str.c]
  intro gx0 hgx0 hbgx0
  have kp := kp_of (bl := bl) hbgx0 (some ⟨2, [[.sl (jv s.js), .sl (mv s.ms)]]⟩)
  have egx0 : upd bl gx0 (some ⟨2, [[.sl (jv s.js), .sl (mv s.ms)]]⟩) gx0 = some ⟨2, [[.sl (jv s.js), .sl (mv s.ms)]]⟩ := by simp
  have sb1 : Sub bl (upd bl gx0 (some ⟨2, [[.sl (jv s.js), .sl (mv s.ms)]]⟩)) := fun x y hx => kp x y ((Sub.refl _) x y hx)
  generalize upd bl gx0 (some ⟨2, [[.sl (jv s.js), .sl (mv s.ms)]]⟩) = b1 at *
  clear kp
  refine callP_ro (szStructure_ro s _ (by omega) hs.js hs.ms hs.nm) ?_
  try simp [egx0]
  refine ⟨fun h => ?_, fun hzs => ?_⟩
  · exact retRO [_] 0 rfl rfl sb1
  obtain ⟨l1s, l2s, l3s⟩ := szStr_le (s := s) (left := 1048576) (by omega) (by omega)
  have hles : -1 ≤ (szStr s 1048576) ∧ (szStr s 1048576) ≤ 1048576 := by omega
  have jss : s.js.length ≤ 1048576 := by omega
  have mss : s.ms.length ≤ 1048576 := by omega
  refine callP_ro (szRatS_ro q _ hles hq) ?_
  try simp [egx0]
  refine ⟨fun h => ?_, fun hzq => ?_⟩
  · exact retRO [_] 0 rfl rfl sb1
  obtain ⟨qq, qsq⟩ := szQs_n (rs := q) (left := (szStr s 1048576)) hles (by omega)
  have hleq := szQs_le (rs := q) (left := (szStr s 1048576)) hles
  have ts := toStructure_ro s jss mss
  have tq := toRatS_ro q qq
  have hS := spec_DensitiesFrom_ro s q hs.js hs.ms hs.nm qq
  have hI := impl_DensitiesFrom_nw s q hs.js hs.ms hs.nm qq
  have hJ := impl_DensitiesFrom_ro s q hs.js hs.ms hs.nm qq
  have wl := stQ_fit (denQ_ok s q).1 (by have := (denQ_ok s q).2; omega)
  generalize allSome (denQ s q) = ob at hS hI hJ
  generalize stQ (denQ s q) = w at hS hI hJ wl
  obtain ⟨wq, ws⟩ := wl
  have we := eqRatS_ro w wq
  refine callP_ro ts ?_
  try simp [egx0]
  refine callP_ro tq ?_
  try simp [egx0]
  refine callP_ro hS ?_
  try simp [egx0]
  refine callP_new (toStructure_nw s jss mss) fun va0 ga0 cb0 ot fa0 fra0 => ?_
  obtain ⟨va0a, va0b, rfl, oa0, c1, c2, c3, c4⟩ := own_agg ot
  clear ot
  have m_gx0_ga0 : gx0 ∉ ga0 := fun hh => by have hz := fa0 _ hh; rw [egx0] at hz; cases hz
  have fr_ga0 : ∀ x, x ∈ ga0 → bl x = none := fun x hx => fresh_of sb1 (fa0 x hx)
  have egx0 := new_keep fa0 fra0 egx0
  have scb0 : Sub bl cb0 := fun x y hx => new_keep fa0 fra0 (sb1 x y hx)
  try simp [egx0, c1, c2, c3, c4]
  intro gx1 hgx1 hbgx1
  have z_gx1_gx0 : gx0 ≠ gx1 := fun e => by rw [← e, egx0] at hbgx1; cases hbgx1
  try simp [z_gx1_gx0, Ne.symm z_gx1_gx0, egx0]
  have kp := kp_of (bl := cb0) hbgx1 (some ⟨2, [[va0a, va0b]]⟩)
  have egx1 : upd cb0 gx1 (some ⟨2, [[va0a, va0b]]⟩) gx1 = some ⟨2, [[va0a, va0b]]⟩ := by simp
  have sb2 : Sub bl (upd cb0 gx1 (some ⟨2, [[va0a, va0b]]⟩)) := fun x y hx => kp x y (scb0 x y hx)
  generalize upd cb0 gx1 (some ⟨2, [[va0a, va0b]]⟩) = b2 at *
  have egx0 := kp _ _ egx0
  have m_gx1_ga0 : gx1 ∉ ga0 := oa0.not hbgx1
  have oa0 := oa0.keep (bl' := b2) fun x _ y hy => kp x y hy
  clear kp
  try simp [egx0, egx1, c1, c2, c3, c4]
  refine callP_new (toRatS_nw q qq) fun va1 ga1 cb1 oa1 fa1 fra1 => ?_
  obtain ⟨c1, c2⟩ := own_rs1 oa1
  have m_gx0_ga1 : gx0 ∉ ga1 := fun hh => by have hz := fa1 _ hh; rw [egx0] at hz; cases hz
  have m_gx1_ga1 : gx1 ∉ ga1 := fun hh => by have hz := fa1 _ hh; rw [egx1] at hz; cases hz
  have n_ga1_ga0 : ∀ x, x ∈ ga1 → x ∉ ga0 := fun x hx => oa0.not (fa1 x hx)
  have fr_ga1 : ∀ x, x ∈ ga1 → bl x = none := fun x hx => fresh_of sb2 (fa1 x hx)
  have egx0 := new_keep fa1 fra1 egx0
  have egx1 := new_keep fa1 fra1 egx1
  have oa0 := oa0.keep (bl' := cb1) fun x _ y hy => new_keep fa1 fra1 hy
  have scb1 : Sub bl cb1 := fun x y hx => new_keep fa1 fra1 (sb2 x y hx)
  try simp [egx0, egx1, c1, c2]
  refine callP_lend 3 (ys := [.agg s.c, .sl (rv q)]) (by simp [frz_str oa0 1, frz_rs oa1 1]; try simp [frz]) hI (dV_sc _ _) fun vr gr d0 oT fr0 frr0 => ?_
  obtain ⟨w0, rfl, oR, p1, p2⟩ := own_dV oT
  clear oT
  have m_gx0_gr : gx0 ∉ gr := fun hh => by have hz := fr0 _ hh; rw [egx0] at hz; cases hz
  have m_gx1_gr : gx1 ∉ gr := fun hh => by have hz := fr0 _ hh; rw [egx1] at hz; cases hz
  have n_gr_ga0 : ∀ x, x ∈ gr → x ∉ ga0 := fun x hx => oa0.not (fr0 x hx)
  have n_gr_ga1 : ∀ x, x ∈ gr → x ∉ ga1 := fun x hx => oa1.not (fr0 x hx)
  have fr_gr : ∀ x, x ∈ gr → bl x = none := fun x hx => fresh_of scb1 (fr0 x hx)
  have egx0 := new_keep fr0 frr0 egx0
  have egx1 := new_keep fr0 frr0 egx1
  have oa0 := oa0.keep (bl' := d0) fun x _ y hy => new_keep fr0 frr0 hy
  have oa1 := oa1.keep (bl' := d0) fun x _ y hy => new_keep fr0 frr0 hy
  have sd0 : Sub bl d0 := fun x y hx => new_keep fr0 frr0 (scb1 x y hx)
  try simp [egx0, egx1, p1, p2]
  refine AW_way0 [(2, .loc gx0 2 0 0), (1, .sl (rv q)), (8, .loc gx1 2 0 0), (9, va1), (6, .sl (rv w)), (7, .bool ob), (10, w0), (11, .bool ob)] _ d0 53 (.bool false) ⟨rfl, by simp, Sub.refl _⟩ rfl ?_ ?_
  · simp [egx0, egx1]
    refine callP_borrow 3 (ys := [.sl (rv w), .sl (rv w)]) (by simp [frz_rs oR 1]; simp [frz]) we rfl ?_
    simp
  try simp [egx0, egx1]
  refine AW_quiet mixedO (by kernel_rfl) ?_
  simp [egx0, egx1]
  refine hcQ_ro ts ?_
  try simp
  refine hcQ_of 3 (eqStructure_ro s s hs.js hs.ms) (by simp [frz_str oa0 1]; simp [frz, Str.c, V.cl]) rfl ?_
  try simp [egx0, egx1]
  refine callP_ro tq ?_
  try simp [egx0, egx1]
  refine callP_borrow 3 (ys := [.sl (rv q), .sl (rv q)]) (by simp [frz_rs oa1 1]; simp [frz]) (eqRatS_ro q qq) rfl ?_
  try simp [egx0, egx1]
  have bd0 : (mkN 1 s) ≤ 4611686018427387000 := by simp only [mkN]; omega
  refine markStructure_cp s 1 _ ga0 oa0 bd0 fun mb0 oa0 k0 => ?_
  have egx0 := k0 gx0 m_gx0_ga0 _ egx0
  have egx1 := k0 gx1 m_gx1_ga0 _ egx1
  have oa1 := oa1.keep (bl' := mb0) fun x hx y hy => k0 x (n_ga1_ga0 x hx) y hy
  have oR := oR.keep (bl' := mb0) fun x hx y hy => k0 x (n_gr_ga0 x hx) y hy
  have smb0 : Sub bl mb0 := fun x y hx => k0 x (fun h => by rw [fr_ga0 x h] at hx; cases hx) y (sd0 x y hx)
  try simp [egx0, egx1]
  have bd1 : (mkQsN (mkN 1 s) q) ≤ 4611686018427387000 := by simp only [mkN, mkQsN_sum]; omega
  refine markRatS_cp q (mkN 1 s) _ ga1 oa1 bd1 fun mb1 oa1 k1 => ?_
  have egx0 := k1 gx0 m_gx0_ga1 _ egx0
  have egx1 := k1 gx1 m_gx1_ga1 _ egx1
  have oa0 := oa0.keep (bl' := mb1) fun x hx y hy => k1 x (fun hh => n_ga1_ga0 x hh hx) y hy
  have oR := oR.keep (bl' := mb1) fun x hx y hy => k1 x (n_gr_ga1 x hx) y hy
  have smb1 : Sub bl mb1 := fun x y hx => k1 x (fun h => by rw [fr_ga1 x h] at hx; cases hx) y (smb0 x y hx)
  try simp [egx0, egx1]
  refine AW_way0 [(2, .loc gx0 2 0 0), (1, .sl (rv q)), (8, .loc gx1 2 0 0), (9, va1), (6, .sl (rv w)), (7, .bool ob), (10, w0), (11, .bool ob), (12, .int .i64 ((mkQsN (mkN 1 s) q) : Nat))] _ mb1 82 (.bool false) ⟨rfl, by simp, Sub.refl _⟩ rfl ?_ ?_
  · simp [egx0, egx1]
    refine callP_borrow 3 (ys := [.sl (rv w), .sl (rv w)]) (by simp [frz_rs oR 1]; simp [frz]) we rfl ?_
    simp
  try simp [egx0, egx1]
  have bw : mkQsN 1 w ≤ 4611686018427387000 := by have := wq.1; rw [mkQsN_sum]; omega
  refine markRatS_cp w 1 _ gr oR bw fun f0 oR kr => ?_
  have egx0 := kr gx0 m_gx0_gr _ egx0
  have egx1 := kr gx1 m_gx1_gr _ egx1
  have oa0 := oa0.keep (bl' := f0) fun x hx y hy => kr x (fun hh => n_gr_ga0 x hh hx) y hy
  have oa1 := oa1.keep (bl' := f0) fun x hx y hy => kr x (fun hh => n_gr_ga1 x hh hx) y hy
  have sf0 : Sub bl f0 := fun x y hx => kr x (fun h => by rw [fr_gr x h] at hx; cases hx) y (smb1 x y hx)
  have hh := heldRatS_ro w 1 bw
  have hneg : ¬ (mkQsN 1 w : Int) < 0 := by omega
  try simp [egx0, egx1, hneg]
  refine callP_borrow 3 (ys := [.sl (rv (mkQs 1 w)), .int .i64 1]) (by simp [frz_rs oR 1]; simp [frz]) hh rfl ?_
  try simp [egx0, egx1, hneg]
  refine callP_ro ts ?_
  try simp [egx0, egx1]
  refine callP_ro tq ?_
  try simp [egx0, egx1]
  refine callP_ro hJ ?_
  try simp [egx0, egx1]
  refine AW_way0 [(2, .loc gx0 2 0 0), (1, .sl (rv q)), (8, .loc gx1 2 0 0), (9, va1), (6, .sl (rv w)), (7, .bool ob), (10, w0), (11, .bool ob), (13, .int .i64 (mkQsN 1 w : Nat)), (15, .sl (rv w)), (16, .bool ob)] _ f0 110 (.bool false) ⟨rfl, by simp, Sub.refl _⟩ rfl ?_ ?_
  · simp [egx0, egx1]
    refine callP_ro we ?_
    simp
  try simp [egx0, egx1]
  refine callP_borrow 3 (ys := [.sl (rv (mkQs 1 w)), .int .i64 1]) (by simp [frz_rs oR 1]; simp [frz]) hh rfl ?_
  try simp [egx0, egx1, hneg]
  exact retRO [_] 0 rfl rfl sf0

end Go.Proofs.YthhjmaianlmfpaaGreat.Vm

namespace Go.Proofs.YthhjmaianlmfpaaGreat.lawDensitiesFrom
open Go Go.RowKit Go.ChangeShapes Go.WideShapes Vm
theorem body (xs : List V) (h : ArgsOk Tryz.prog Tryz.f9.params.toList xs) : RO Tryz.prog 9 xs (.bool true) := by
  rw [Tryz.params9] at h
  obtain ⟨c0, ys, rfl, h0, h⟩ := args_cons h
  obtain ⟨c1, ys, rfl, h1, h⟩ := args_cons h
  obtain rfl := args_nil h
  obtain ⟨x0, rfl, y0⟩ := str_of_co h0
  obtain ⟨x1, rfl, y1⟩ := rv_of_co h1
  rw [toV_struct Tryz.underlying25, toV_slice Tryz.underlying26]
  exact law_DensitiesFrom_ro x0 x1 ⟨y0.js, y0.ms, y0.names⟩ (fitQ_mono y1 (by omega))
set_option maxRecDepth 100000 in
theorem lifted (os : Os) (started : os.Started) (H : Type) (enc : TypeId × Value → H) :
    ReturnsInHanded {} Tryz.checked os 9 .any (Rows.fnExactDensitiesFromSpec.pre6 enc Tryz.prog Tryz.f9 Rows.fnExactDensitiesFromRow.domain false) (Rows.fnExactDensitiesFromSpec.post enc Tryz.prog Tryz.f9 false true false false) := by
  refine returnsInHanded_of_change_sized (C := Tryz.checked) own started (by kernel_rfl) Tryz.func9
    (ChangeSpec.witness6 (enc := enc) (C := Tryz.checked) false ⟨#[], #[.agg #[.slice none 0 0, .slice none 0 0], .slice none 0 0], []⟩ 8 (by kernel_rfl) (by kernel_rfl) (by kernel_rfl) (by kernel_rfl)) ?_
  intro W base args ds gs before hval hW hcnd hsz _
  refine law_calls (tb := 4) rfl rfl Tryz.underlying4 laidOut (by kernel_rfl) (fun ds hds => ?_) body W base args ds gs before hval hW hsz
  rw [Tryz.params9] at hds
  first
    | (match ds, hds with | [a], _ => rfl)
    | (match ds, hds with | [a, b], _ => rfl)
    | (match ds, hds with | [a, b, c], _ => rfl)
    | (match ds, hds with | [a, b, c, d], _ => rfl)
    | (match ds, hds with | [a, b, c, d, e], _ => rfl)
    | (match ds, hds with | [a, b, c, d, e, f], _ => rfl)
theorem over : Rows.fnExactDensitiesFromRow.holds Tryz.pinned (OpenSpec.ofChange Rows.fnExactDensitiesFromSpec) :=
  OpenClaim.holds_of_wide 9 Tryz.f9 rfl rfl rfl rfl rfl rfl rfl ⟨rfl, rfl, rfl, rfl, rfl⟩ rfl rfl rfl rfl rfl (by kernel_rfl) Tryz.func9 (facts (by kernel_rfl))
    (of_decide_eq_true (by kernel_rfl)) (by unfold Func.isWrapper; first | (rw [if_pos (by decide +kernel)]; kernel_rfl) | (rw [if_neg (by decide +kernel)]; exact ⟨rfl, rfl⟩))
    (fun os started H enc _ => lifted os started H enc)
theorem proved : Rows.FnExactDensitiesFromSaid := over
#print axioms proved
end Go.Proofs.YthhjmaianlmfpaaGreat.lawDensitiesFrom
