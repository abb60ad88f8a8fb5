/- Lists of fractions in the laws: sizes, copies, comparisons, marks, arguments. -/


import Derived.Test.YthhjmaianlmfpaaGreatQCFnExactDensitiesFrom6

namespace Go.Proofs.YthhjmaianlmfpaaGreat.Vm
open Go Go.Proofs
set_option linter.unusedSimpArgs false
set_option linter.unusedVariables false

def rv (rs : List RT) : List (List V) := rs.map RT.c
@[simp] theorem rv_length (rs : List RT) : (rv rs).length = rs.length := by simp [rv]
@[simp] theorem rv_getE (rs : List RT) (i : Nat) (h : i < (rv rs).length) : (rv rs)[i] = (rs[i]'(by simpa using h)).c := by simp [rv]
theorem RT.c_len (r : RT) : r.c.length = 3 := rfl
theorem RT.c_one (r : RT) : r.c.all V.one = true := by simp [RT.c]
def dRs (rs : List RT) : D := .s 3 (rs.map dR)
theorem dRs_fz (rs : List RT) : (dRs rs).fz = .sl (rv rs) := by
  unfold dRs rv
  rw [D.fz, fzR_map, List.map_map]
  congr 1
  refine List.map_congr_left fun r _ => ?_
  show List.map D.fz (dR r) = r.c
  rw [← fzL_map, dR_fz]
theorem dRs_dep (rs : List RT) (n : Nat) : (dRs rs).dep (n + 2) := by
  unfold dRs
  rw [D.dep]
  refine ⟨by omega, ?_⟩
  induction rs with
  | nil => simp [D.depR]
  | cons r rs ih => simp only [List.map_cons, D.depR]; exact ⟨dR_dep r _, ih⟩
theorem dRs_sc (rs : List RT) : (dRs rs).sc = true := by
  unfold dRs
  rw [D.sc]
  induction rs with
  | nil => simp [D.scR]
  | cons r rs ih => simp only [List.map_cons, D.scR, dR_sc, ih]; rfl
theorem frz_rs {bl : Int → Option Blk} {rs : List RT} {v : V} {gs : List Int} (h : OwnD bl (dRs rs) v gs) (n : Nat) : frz bl (n + 2) v = some (.sl (rv rs)) := by
  rw [h.frz (dRs_dep rs n), dRs_fz]
theorem own_rs {bl : Int → Option Blk} {rs : List RT} {v : V} {gs : List Int} : OwnD bl (dRs rs) v gs ↔ (rs = [] ∧ v = .nils ∧ gs = []) ∨ ∃ g els gs', v = .lsl g 3 0 rs.length ∧ gs = g :: gs' ∧ g ∉ gs' ∧ bl g = some ⟨3, els⟩ ∧ (g < 0 → els = []) ∧ OwnR bl 3 (rs.map dR) els gs' := by
  unfold dRs
  rw [OwnD]
  constructor
  · rintro (⟨h1, h2, h3⟩ | ⟨g, els, gs', h1, h2, h3, h4, h5, h6⟩)
    · exact .inl ⟨by simpa using h1, h2, h3⟩
    · exact .inr ⟨g, els, gs', by simpa using h1, h2, h3, h4, h5, h6⟩
  · rintro (⟨h1, h2, h3⟩ | ⟨g, els, gs', h1, h2, h3, h4, h5, h6⟩)
    · exact .inl ⟨by simpa using h1, h2, h3⟩
    · exact .inr ⟨g, els, gs', by simpa using h1, h2, h3, h4, h5, h6⟩
theorem own_rs1 {bl : Int → Option Blk} {rs : List RT} {v : V} {gs : List Int} (h : OwnD bl (dRs rs) v gs) : v.one = true ∧ v.cells = [v] := by
  rcases own_rs.1 h with ⟨_, rfl, _⟩ | ⟨g, els, gs', rfl, _⟩ <;> exact ⟨rfl, rfl⟩

/-! ### Sizes -/
def szTo : List RT → Int → Int
  | [], left => left
  | r :: rs, left => if szR r left < 0 then -1 else szTo rs (szR r left)
def szQs (rs : List RT) (left : Int) : Int := if less left rs.length < 0 then -1 else szTo rs (less left rs.length)
/-- The sizes of a list's fractions fit. -/
def fitQ (rs : List RT) (k : Nat) : Prop := rs.length ≤ k ∧ ∀ r, r ∈ rs → r.le k
theorem fitQ_mono {rs : List RT} {k l : Nat} (h : fitQ rs k) (hkl : k ≤ l) : fitQ rs l := ⟨by have := h.1; omega, fun r hr => RT.le_mono (h.2 r hr) hkl⟩
theorem szRatS_ro (a : List RT) (left : Int) (hl : -1 ≤ left ∧ left ≤ 1048576) (ha : fitQ a 140737488351232) : RO Tryz.prog 12 [.sl (rv a), .int .i64 left] (.int .i64 (szQs a left)) := by
  have ha1 := ha.1
  refine ro_of2 Tryz.func12 rfl rfl (by rw [Tryz.ntmps12]; simp) fun bl => ?_
  rw [Tryz.ntmps12, Tryz.results12]
  refine AW_run ?_
  simp
  simp (disch := omega) [i64_in]
  refine ⟨fun h => ?_, fun h => ?_⟩
  · exact retRO [_] 0 rfl (by simp [frz, szQs, less]; omega) (Sub.refl _)
  refine AW_for (fun p : Nat × Int => [(0, .sl (rv a)), (1, .int .i64 p.2), (5, .int .i64 p.1)]) (fun _ => bl) (fun p => p.1 ≤ a.length ∧ 0 ≤ p.2 ∧ p.2 ≤ 1048576 ∧ szQs a left = szTo (a.drop p.1) p.2) (fun p => a.length - p.1) _ (0, left - a.length) ⟨Nat.zero_le _, by simp; omega, by simp; omega, ?_⟩ ⟨rfl, by simp, Sub.refl _⟩ ?_
  · have h0 : ¬ (left - (a.length : Int) < 0) := by omega
    simp only [szQs, less, if_neg h0, List.drop_zero]
  intro ⟨i, l⟩ ⟨hi, hl0, hl1, hs⟩
  simp at hi hl0 hl1 hs
  refine AW_run ?_
  simp
  refine ⟨fun h1 => ?_, fun h1 => ?_⟩
  · simp [h1, RT.c]
    refine callP_ro (szRat_ro a[i] l (by omega) (ha.2 _ (List.getElem_mem _))) ?_
    simp
    rw [List.drop_eq_getElem_cons h1, szTo] at hs
    have := szR_le (r := a[i]) (left := l) (by omega)
    refine ⟨fun h2 => ?_, fun h2 => ?_⟩
    · exact retRO [_] 0 rfl (by simp [frz, hs, h2]) (Sub.refl _)
    · simp (disch := omega) [i64_in, loopQ_normal]
      rw [if_neg (by omega)] at hs
      exact ⟨i + 1, szR a[i] l, ⟨by omega, by omega, by omega, hs⟩, by omega, rfl, by simp, Sub.refl _⟩
  · rw [List.drop_eq_nil_of_le h1, szTo] at hs
    exact retRO [_] 0 rfl (by simp [frz, hs]) (Sub.refl _)
theorem szTo_le : ∀ (rs : List RT) (left : Int), -1 ≤ left ∧ left ≤ 1048576 → -1 ≤ szTo rs left ∧ szTo rs left ≤ 1048576
  | [], left, h => h
  | r :: rs, left, h => by
    unfold szTo; split
    · omega
    · exact szTo_le rs _ (szR_le h)
theorem szQs_le {rs : List RT} {left : Int} (h : -1 ≤ left ∧ left ≤ 1048576) : -1 ≤ szQs rs left ∧ szQs rs left ≤ 1048576 := by
  unfold szQs; split
  · omega
  · exact szTo_le rs _ (less_le h)
theorem szR_ge {r : RT} {left : Int} (h : 0 ≤ szR r left) : szR r left + (r.m.length + r.d.length : Nat) = left := by
  unfold szR at h ⊢
  split at h
  · omega
  · rename_i h0
    rw [if_neg h0]
    have h1 : less left r.m.length = left - r.m.length := by unfold less at *; split <;> split at * <;> omega
    have h2 : less (less left r.m.length) r.d.length = less left r.m.length - r.d.length := by
      generalize less left r.m.length = l at *
      unfold less at *; split <;> split at * <;> omega
    omega
theorem szTo_n : ∀ {rs : List RT} {left : Int}, -1 ≤ left ∧ left ≤ 1048576 → 0 ≤ szTo rs left → (∀ r, r ∈ rs → r.le 1048576) ∧ szTo rs left + ((rs.map fun r => r.m.length + r.d.length).sum : Nat) = left
  | [], left, h, h0 => ⟨fun r hr => (by cases hr), by simp [szTo]⟩
  | r :: rs, left, h, h0 => by
    unfold szTo at h0 ⊢
    split at h0
    · omega
    · rename_i hn
      rw [if_neg hn]
      have h1 := szR_ge (r := r) (left := left) (by omega)
      obtain ⟨h2, h3⟩ := szTo_n (rs := rs) (szR_le h) h0
      refine ⟨fun x hx => ?_, ?_⟩
      · rcases List.mem_cons.1 hx with rfl | hx
        · exact szR_n h (by omega)
        · exact h2 x hx
      · rw [List.map_cons, List.sum_cons]; omega
def sumQ (rs : List RT) : Nat := (rs.map fun r => r.m.length + r.d.length).sum
theorem szQs_n {rs : List RT} {left : Int} (h : -1 ≤ left ∧ left ≤ 1048576) (h0 : 0 ≤ szQs rs left) : fitQ rs 1048576 ∧ sumQ rs + rs.length ≤ 1048576 := by
  unfold szQs at h0
  split at h0
  · omega
  · rename_i hn
    have h1 := less_n (left := left) (n := rs.length) (by omega)
    have h2 : less left rs.length = left - rs.length := by unfold less at *; split <;> split at * <;> omega
    obtain ⟨h3, h4⟩ := szTo_n (less_le h) h0
    exact ⟨⟨by omega, h3⟩, by unfold sumQ; omega⟩

/-! ### Copies -/
theorem toRatS_nw (rs : List RT) (hq : fitQ rs 1048576) : NW Tryz.prog 15 [.sl (rv rs)] (dRs rs) := by
  have hw := hq.1
  refine nw_of Tryz.func15 rfl rfl (by rw [Tryz.ntmps15]; simp) fun bl => ?_
  rw [Tryz.ntmps15, Tryz.results15]
  refine AW_run ?_
  simp
  refine ⟨by omega, by unfold maxLen; omega, fun g hg0 hg => ?_⟩
  refine AW_for (fun p : Grow => [(0, .sl (rv rs)), (3, .lsl g 3 0 rs.length), (4, .int .i64 p.els.length)]) (fun p => p.b)
    (fun p => p.els.length ≤ rs.length ∧ p.b g = some ⟨3, p.els ++ List.replicate (rs.length - p.els.length) [.bool false, .nils, .nils]⟩ ∧ OwnR p.b 3 ((rs.map dR).take p.els.length) p.els p.gs ∧ g ∉ p.gs ∧ (∀ x, x ∈ p.gs → bl x = none) ∧ Sub bl p.b)
    (fun p => rs.length - p.els.length) 23 ⟨[], [], upd bl g (some ⟨3, List.replicate rs.length [.bool false, .nils, .nils]⟩)⟩ ⟨Nat.zero_le _, by simp, by simp [OwnR], by simp, by simp, by simp [hg]⟩ ⟨rfl, by simp, by simp⟩ ?_
  rintro ⟨els, gs, b⟩ ⟨hi, hb, ho, hn, hf, hs⟩
  simp only at hi hb ho hn hf hs
  refine AW_run ?_
  simp
  refine ⟨fun h => ?_, fun h => ?_⟩
  · simp [h, RT.c]
    refine callP_new (toRat_nw rs[els.length] (hq.2 _ (List.getElem_mem h))) fun v gv b' o f fr => ?_
    rw [OwnD] at o
    obtain ⟨vs, rfl, o⟩ := o
    obtain ⟨vm, vd, _, _, rfl, _, _, om, od⟩ := own_rtL.1 o
    have c1 := om.one.1
    have d1 := od.one.1
    have hb' : b' g = _ := new_keep f fr hb
    have hgv : g ∉ gv := fun hh => by have := f g hh; rw [hb] at this; cases this
    simp [h, hb', grow_get els [.bool false, .nils, .nils] rs.length h, c1, d1]
    simp (disch := omega) [i64_in, loopQ_normal]
    have gg := grow_set' els [.bool false, .nils, .nils] [.bool rs[els.length].neg, vm, vd] rs.length h
    refine ⟨⟨els ++ [[.bool rs[els.length].neg, vm, vd]], gs ++ gv, upd b' g (some ⟨3, (els ++ [[.bool rs[els.length].neg, vm, vd]]) ++ List.replicate (rs.length - (els ++ [[V.bool rs[els.length].neg, vm, vd]]).length) [.bool false, .nils, .nils]⟩)⟩, ⟨by simp; omega, by simp, ?_, ?_, ?_, ?_⟩, by simp; omega, rfl, by simp, sub_eq ?_⟩
    · have ht : (rs.map dR).take (els ++ [[V.bool rs[els.length].neg, vm, vd]]).length = (rs.map dR).take els.length ++ [dR rs[els.length]] := by
        rw [List.length_append, List.length_singleton, List.take_add_one, List.getElem?_map, List.getElem?_eq_getElem h]; simp
      simp only
      rw [ht]
      refine OwnR.snoc (o.frame fun x hx => by simp [show x ≠ g from fun e => hgv (e ▸ hx)]) rfl (by simp [c1, d1]) (ho.keep fun x hx y hy => ?_) fun x hx hx2 => ?_
      · rw [upd_apply, if_neg (fun e => hn (by rw [← e]; exact hx))]; exact new_keep f fr hy
      · exact ho.not (f x hx2) hx
    · simp only [List.mem_append]; rintro (h | h)
      · exact hn h
      · exact hgv h
    · intro x hx
      rcases List.mem_append.1 hx with hx | hx
      · exact hf x hx
      · exact fresh_of hs (f x hx)
    · exact sub_new' hg fun x y hy => new_keep f fr (hs x y hy)
    · show upd b' g _ = upd b' g _
      rw [gg]
  · have hl : els.length = rs.length := by omega
    refine retNW [.lsl g 3 0 rs.length] (g :: gs) (by simp) ?_ (by simpa [hg] using hf) hs
    refine own_rs.2 (.inr ⟨g, els, gs, rfl, rfl, hn, ?_, by omega, ?_⟩)
    · show b g = _
      rw [hb, hl]; simp
    · rw [hl] at ho
      rw [List.take_of_length_le (by simp)] at ho
      exact ho
theorem toRatS_ro (rs : List RT) (hq : fitQ rs 1048576) : RO Tryz.prog 15 [.sl (rv rs)] (.sl (rv rs)) := by
  have := ro_of_nw 2 (toRatS_nw rs hq) (dRs_dep rs 0)
  rwa [dRs_fz] at this
theorem eqRatS_ro (rs : List RT) (hq : fitQ rs 1048576) : RO Tryz.prog 17 [.sl (rv rs), .sl (rv rs)] (.bool true) := by
  have hw := hq.1
  refine ro_of2 Tryz.func17 rfl rfl (by rw [Tryz.ntmps17]; simp) fun bl => ?_
  rw [Tryz.ntmps17, Tryz.results17]
  refine AW_run ?_
  simp
  refine AW_for (fun i : Nat => [(0, .sl (rv rs)), (1, .sl (rv rs)), (5, .int .i64 i)]) (fun _ => bl) (fun i => i ≤ rs.length) (fun i => rs.length - i) _ 0 (Nat.zero_le _) ⟨rfl, by simp, Sub.refl _⟩ ?_
  intro i hi
  refine AW_run ?_
  simp
  refine ⟨fun h1 => ?_, fun h1 => ?_⟩
  · refine AW_quiet mixedO (by kernel_rfl) ?_
    simp [h1, RT.c]
    refine hcQ_ro (eqRat_ro rs[i] (RT.le_mono (hq.2 _ (List.getElem_mem h1)) (by omega))) ?_
    simp (disch := omega) [i64_in, loopQ_normal]
    exact ⟨i + 1, by omega, by omega, rfl, by simp, Sub.refl _⟩
  · exact retRO0 (by simp) rfl rfl

/-! ### Marks -/
def mkQ (k : Nat) (r : RT) : RT := ⟨(k : Int).tmod 3 == 0, marks (k + 1 : Nat) r.m.length, marks (k + 1 + r.m.length : Nat) r.d.length⟩
def mkQN (k : Nat) (r : RT) : Nat := k + 1 + r.m.length + r.d.length
def mkQs : Nat → List RT → List RT
  | _, [] => []
  | k, r :: rs => mkQ k r :: mkQs (mkQN k r) rs
def mkQsN (k : Nat) (rs : List RT) : Nat := rs.foldl mkQN k
@[simp] theorem mkQs_length : ∀ (k : Nat) (rs : List RT), (mkQs k rs).length = rs.length
  | _, [] => rfl
  | k, r :: rs => by rw [mkQs, List.length_cons, List.length_cons, mkQs_length]
theorem mkQsN_take_succ (k : Nat) (rs : List RT) (i : Nat) (h : i < rs.length) : mkQsN k (rs.take (i + 1)) = mkQN (mkQsN k (rs.take i)) rs[i] := by
  unfold mkQsN
  rw [List.take_add_one, List.getElem?_eq_getElem h, Option.toList_some, List.foldl_append]; rfl
theorem mkQs_at : ∀ (k : Nat) (rs : List RT) (i : Nat) (h : i < rs.length), (mkQs k rs)[i]'(by rw [mkQs_length]; exact h) = mkQ (mkQsN k (rs.take i)) rs[i]
  | k, r :: rs, 0, h => rfl
  | k, r :: rs, i + 1, h => by
    simp only [mkQs, List.getElem_cons_succ]
    rw [mkQs_at (mkQN k r) rs i (by simpa using h)]
    rfl
theorem mkQsN_sum : ∀ (k : Nat) (rs : List RT), mkQsN k rs = k + rs.length + sumQ rs
  | k, [] => by simp [mkQsN, sumQ]
  | k, r :: rs => by
    have := mkQsN_sum (mkQN k r) rs
    have e : mkQsN k (r :: rs) = mkQsN (mkQN k r) rs := rfl
    have e2 : sumQ (r :: rs) = (r.m.length + r.d.length) + sumQ rs := by unfold sumQ; rw [List.map_cons, List.sum_cons]
    rw [e, this, e2, List.length_cons]
    unfold mkQN
    omega
theorem mkQsN_mono (k : Nat) (rs : List RT) (i : Nat) : mkQsN k (rs.take i) ≤ mkQsN k rs := by
  rw [mkQsN_sum, mkQsN_sum]
  have h1 : (rs.take i).length ≤ rs.length := List.length_take_le' i rs
  have h2 : sumQ rs = sumQ (rs.take i) + sumQ (rs.drop i) := by
    unfold sumQ
    rw [← List.sum_append, ← List.map_append, List.take_append_drop]
  omega
/-- Rows from which on they are as before. -/
structure Mk where
  i : Nat
  els : List (List V)
  b : Int → Option Blk
theorem mkQs_step (k : Nat) (rs : List RT) (i : Nat) (h : i < rs.length) : ((mkQs k rs).take (i + 1) ++ rs.drop (i + 1)).map dR = (((mkQs k rs).take i ++ rs.drop i).map dR).set i (dR (mkQ (mkQsN k (rs.take i)) rs[i])) := by
  have h2 : i < (mkQs k rs).length := by simpa using h
  rw [List.take_add_one, List.getElem?_eq_getElem h2, mkQs_at k rs i h, Option.toList_some, List.drop_eq_getElem_cons h]
  simp only [List.map_append, List.map_cons, List.map_nil]
  rw [List.set_append_right _ _ (by simp; omega)]
  simp [show min i rs.length = i by omega]
theorem markRatS_cp {bl : Int → Option Blk} {K : V → (Int → Option Blk) → Prop} (rs : List RT) (k : Nat) (v : V) (gs : List Int) (h : OwnD bl (dRs rs) v gs) (hk : mkQsN k rs ≤ 4611686018427387000)
    (hK : ∀ bl', OwnD bl' (dRs (mkQs k rs)) v gs → (∀ g, g ∉ gs → ∀ b, bl g = some b → bl' g = some b) → K (.int .i64 (mkQsN k rs : Nat)) bl') : CallP Tryz.prog 20 [v, .int .i64 k] bl K := by
  refine callP_of Tryz.func20 rfl rfl (by rw [Tryz.ntmps20]; simp) ?_
  rw [Tryz.ntmps20, Tryz.results20]
  refine AW_run ?_
  rcases own_rs.1 h with ⟨rfl, rfl, rfl⟩ | ⟨g, els, gs', rfl, rfl, hg, hb, hneg, ho⟩
  · simp
    refine AW_for (fun _ : Unit => [(0, .nils), (1, .int .i64 k), (5, .int .i64 0)]) (fun _ => bl) (fun _ => True) (fun _ => 0) _ () trivial ⟨rfl, by simp, Sub.refl _⟩ ?_
    intro _ _
    refine AW_run ?_
    simp
    rw [retK_ret]
    refine ⟨[.int .i64 k], by simp, ?_⟩
    exact hK bl (own_rs.2 (.inl ⟨rfl, rfl, rfl⟩)) (fun _ _ _ h => h)
  · have hlen := OwnR.length ho
    simp at hlen
    simp
    refine AW_for (fun p : Mk => [(0, .lsl g 3 0 rs.length), (1, .int .i64 (mkQsN k (rs.take p.i) : Nat)), (5, .int .i64 p.i)]) (fun p => p.b)
      (fun p => p.i ≤ rs.length ∧ p.els.length = rs.length ∧ p.b g = some ⟨3, p.els⟩ ∧ OwnR p.b 3 (((mkQs k rs).take p.i ++ rs.drop p.i).map dR) p.els gs' ∧ (∀ x, x ∉ g :: gs' → ∀ y, bl x = some y → p.b x = some y))
      (fun p => rs.length - p.i) 38 ⟨0, els, bl⟩ ⟨Nat.zero_le _, hlen, hb, by simpa using ho, fun x _ y h => h⟩ ⟨rfl, by simp [mkQsN], Sub.refl _⟩ ?_
    rintro ⟨i, els, b⟩ ⟨hi, hel, hbg, hor, hfr⟩
    simp only at hi hel hbg hor hfr
    refine AW_run ?_
    simp
    have hle := mkQsN_mono k rs i
    have hsm := mkQsN_sum k rs
    refine ⟨fun h1 => ?_, fun h1 => ?_⟩
    · have hge : 0 ≤ g := by
        rcases Int.lt_or_le g 0 with hlt | hge
        · have h2 := hneg hlt; subst h2; simp at hlen; omega
        · exact hge
      have hrl : ((mkQs k rs).take i ++ rs.drop i).length = rs.length := by simp; omega
      have hri : ((mkQs k rs).take i ++ rs.drop i)[i]'(by omega) = rs[i] := by
        rw [List.getElem_append_right (by simp; omega)]
        simp [show min i rs.length = i by omega]
      obtain ⟨e, gi, a1, a2, a3, a4, a5, a6⟩ := hor.at i (by simpa using (by omega : i < ((mkQs k rs).take i ++ rs.drop i).length))
      rw [List.getElem_map, hri] at a2
      obtain ⟨vm, vd, gm, gd, rfl, rfl, hd, om, od⟩ := own_rtL.1 a2
      have c1 := om.one.1
      have d1 := od.one.1
      have hs := mkQsN_take_succ k rs i h1
      have hle2 := mkQsN_mono k rs (i + 1)
      have hst := mkQs_step k rs i h1
      generalize mkQsN k (rs.take i) = q at *
      have hr : rs[i].m.length + rs[i].d.length + q < 4611686018427387904 := by unfold mkQN at hs; omega
      have hil : i < els.length := by omega
      have ea : els[i] = [.bool rs[i].neg, vm, vd] := by
        rw [List.getElem?_eq_getElem hil] at a1; exact Option.some.inj a1
      have gi1 : g ∉ gm := fun hh => hg (a5 g (List.mem_append_left _ hh))
      have gi2 : g ∉ gd := fun hh => hg (a5 g (List.mem_append_right _ hh))
      simp [h1, hbg, hil, ea, c1, d1]
      simp (disch := omega) [i64_in]
      obtain ⟨m3, hm3⟩ : ∃ m3, ((q : Int).tmod 3 == 0) = m3 := ⟨_, rfl⟩
      rw [hm3, show (q : Int) + 1 = (q + 1 : Nat) by simp]
      have hle3 : q + 1 + rs[i].m.length + rs[i].d.length ≤ mkQsN k rs := by unfold mkQN at hs; omega
      obtain ⟨els2, he2⟩ : ∃ e, els.set i [.bool m3, vm, vd] = e := ⟨_, rfl⟩
      have ei2 : els2[i]? = some [.bool m3, vm, vd] := by rw [← he2, List.getElem?_set_self hil]
      have el2 : els2.length = rs.length := by rw [← he2, List.length_set, hel]
      have es2 : els2.set i [.bool m3, vm, vd] = els2 := by rw [← he2, List.set_set]
      rw [he2]
      refine markIntS_cp rs[i].m (q + 1 : Nat) vm gm (om.frame fun x hx => by simp [show x ≠ g from fun e => gi1 (e ▸ hx)]) (by omega) fun b1 om1 k1 => ?_
      have eb1 : b1 g = some ⟨3, els2⟩ := by rw [k1 g gi1]; simp
      simp [h1, eb1, ei2]
      rw [show (q : Int) + 1 + rs[i].m.length = (q + 1 + rs[i].m.length : Nat) by simp]
      refine markIntS_cp rs[i].d (q + 1 + rs[i].m.length : Nat) vd gd (od.frame fun x hx => by
        rw [k1 x (fun hh => hd x hh hx)]
        simp [show x ≠ g from fun e => gi2 (e ▸ hx)]) (by omega) fun b2 od2 k2 => ?_
      simp (disch := omega) [i64_in, loopQ_normal]
      refine ⟨⟨i + 1, els2, b2⟩, ⟨by simp only; omega, el2, by simp only; rw [k2 g gi2]; exact eb1, ?_, fun x hx1 hx2 y hy => ?_⟩, by simp only; omega, rfl, by simp [hs, mkQN], Sub.refl _⟩
      · have := a6 b2 (dR (mkQ q rs[i])) [.bool m3, vm, vd] (own_rtL.2 ⟨vm, vd, gm, gd, by simp [mkQ, hm3], rfl, hd, om1.frame fun x hx => k2 x (hd x hx), od2⟩) rfl (by simp [c1, d1]) (fun x hx hn y hy => by
          simp at hn
          rw [k2 x hn.2, k1 x hn.1, upd_apply, if_neg (fun e : x = g => hg (e ▸ hx))]; exact hy)
        rw [he2, ← hst] at this
        simpa using this
      · show b2 x = some y
        rw [k2 x (fun h => hx2 (a5 x (List.mem_append_right _ h))), k1 x (fun h => hx2 (a5 x (List.mem_append_left _ h))), upd_apply, if_neg hx1]
        exact hfr x (by simp [hx1, hx2]) y hy
    · have : i = rs.length := by omega
      subst this
      rw [retK_ret]
      refine ⟨[.int .i64 (mkQsN k rs : Nat)], by simp, ?_⟩
      have ht : (mkQs k rs).take rs.length = mkQs k rs := List.take_of_length_le (by simp)
      simp only [ht, List.drop_length, List.append_nil] at hor
      exact hK _ (own_rs.2 (.inr ⟨g, els, gs', by simp, rfl, hg, hbg, fun hn => by have := hneg hn; subst this; simp at hlen; exact List.eq_nil_of_length_eq_zero (by omega), hor⟩)) hfr

theorem heldRatS_ro (rs : List RT) (k : Nat) (hk : mkQsN k rs ≤ 4611686018427387000) : RO Tryz.prog 21 [.sl (rv (mkQs k rs)), .int .i64 k] (.int .i64 (mkQsN k rs : Nat)) := by
  refine ro_of2 Tryz.func21 rfl rfl (by rw [Tryz.ntmps21]; simp) fun bl => ?_
  rw [Tryz.ntmps21, Tryz.results21]
  refine AW_run ?_
  simp
  refine AW_for (fun i : Nat => [(0, .sl (rv (mkQs k rs))), (1, .int .i64 (mkQsN k (rs.take i) : Nat)), (5, .int .i64 i)]) (fun _ => bl) (fun i => i ≤ rs.length) (fun i => rs.length - i) _ 0 (Nat.zero_le _) ⟨rfl, by simp [mkQsN], Sub.refl _⟩ ?_
  intro i hi
  refine AW_run ?_
  simp
  refine ⟨fun h1 => ?_, fun h1 => ?_⟩
  · have hsm := mkQsN_sum k rs
    have hs := mkQsN_take_succ k rs i h1
    have hle2 := mkQsN_mono k rs (i + 1)
    have hat := mkQs_at k rs i h1
    generalize mkQsN k (rs.take i) = q at *
    have hle3 : q + 1 + rs[i].m.length + rs[i].d.length ≤ mkQsN k rs := by unfold mkQN at hs; omega
    simp [h1, hat, mkQ, RT.c]
    simp (disch := omega) [i64_in]
    refine callP_ro (heldIntS_ro rs[i].m.length ((q : Int) + 1) (by omega)) ?_
    simp [h1, hat, mkQ, RT.c]
    refine ⟨fun h => by omega, fun h => ?_⟩
    refine callP_ro (heldIntS_ro rs[i].d.length ((q : Int) + 1 + rs[i].m.length) (by omega)) ?_
    simp [h1, hat, mkQ, RT.c]
    refine ⟨fun h => by omega, fun h => ?_⟩
    simp (disch := omega) [i64_in, loopQ_normal]
    refine ⟨i + 1, by omega, by omega, rfl, by simp [hs, mkQN], Sub.refl _⟩
  · have : i = rs.length := by omega
    subst this
    exact retRO0 (by simp) rfl rfl

theorem markIntS_cpN {bl : Int → Option Blk} {K : V → (Int → Option Blk) → Prop} (xs : List Int) (k : Nat) (v : V) (gs : List Int) (h : OwnD bl (fl 1 (iv xs)) v gs) (hk : k + xs.length ≤ 4611686018427387000)
    (hK : ∀ bl', OwnD bl' (fl 1 (iv (marks k xs.length))) v gs → (∀ g, g ∉ gs → ∀ b, bl g = some b → bl' g = some b) → K (.int .i64 (k + xs.length : Nat)) bl') : CallP Tryz.prog 30 [v, .int .i64 k] bl K :=
  markIntS_cp xs k v gs h (by omega) fun bl' o q => by
    have := hK bl' o fun g hg b hb => by rw [q g hg]; exact hb
    simpa using this

/-! ### Arguments -/
theorem celT_Rats : Tryz.prog.cellsOf 26 = 1 := by kernel_rfl
theorem bytes_Rat : 1 ≤ Tryz.prog.bytesOf 77 := by
  have : Tryz.prog.bytesOf 77 = 56 := by kernel_rfl
  omega
theorem rv_of_co {cs : List V} (h : CO Tryz.prog 26 cs) : ∃ rs : List RT, cs = [.sl (rv rs)] ∧ fitQ rs 140737488351232 := by
  obtain ⟨xs, rfl, hx, hl⟩ := co_slice Tryz.underlying26 h
  have : ∃ rs : List RT, xs = rv rs ∧ ∀ r, r ∈ rs → r.le 17592186043904 := by
    clear hl h
    induction xs with
    | nil => exact ⟨[], rfl, fun n hn => by cases hn⟩
    | cons x xs ih =>
      obtain ⟨rs, rfl, hrs⟩ := ih fun y hy => hx y (List.mem_cons_of_mem _ hy)
      obtain ⟨r, rfl, hr⟩ := rat_of_co (hx x List.mem_cons_self)
      refine ⟨r :: rs, rfl, fun m hm => ?_⟩
      rcases List.mem_cons.1 hm with rfl | hm
      · exact hr
      · exact hrs m hm
  obtain ⟨rs, rfl, hrs⟩ := this
  have := len_of hl bytes_Rat
  exact ⟨rs, rfl, by simpa using this, fun r hr => RT.le_mono (hrs r hr) (by omega)⟩

end Go.Proofs.YthhjmaianlmfpaaGreat.Vm

namespace Go.Proofs.YthhjmaianlmfpaaGreat.Vm
open Go Go.Proofs
set_option linter.unusedSimpArgs false
set_option linter.unusedVariables false

theorem fewer_nw (n : Int) (hn : (lim n.natAbs).length ≤ 60) : NW Tryz.prog 167 [.agg (biC n)] (.a (dB (decide (n < 0)) (lim n.natAbs))) := by
  refine nw_of Tryz.func167 rfl rfl (by rw [Tryz.ntmps167]; simp) fun bl => ?_
  rw [Tryz.ntmps167, Tryz.results167]
  refine AW_run ?_
  rw [biC_def]
  simp
  intro g1 hg1 hb1 g2 hg2 h21 hb2
  try simp [h21, Ne.symm h21]
  refine ⟨fun h => by omega, fun h => ?_⟩
  try simp [h21, Ne.symm h21]
  refine AW_mixedB mixedO (upd bl g1 (some ⟨2, [[.bool (decide (n < 0)), .sl (iv (lim n.natAbs))]]⟩)) (by simp [h21, hb2]) [0, 1, 2, 3] 3 (by kernel_rfl) ?_
  simp [h21, Ne.symm h21]
  refine DAny_one (i := 4) (by kernel_rfl) rfl rfl ?_
  simp [h21, Ne.symm h21]
  refine callP_new (Clone_ints_nw (lim n.natAbs) (by omega)) fun v gs b o f fr => ?_
  obtain ⟨c1, c2⟩ := o.one
  have e1 : ∀ x, x ∈ gs → x ≠ g1 ∧ x ≠ g2 ∧ bl x = none := fun x hx => by have := f x hx; simp [upd_apply] at this; grind
  have n1 : b g1 = _ := fr g1 fun h => (e1 g1 h).1 rfl
  have n2 : b g2 = _ := fr g2 fun h => (e1 g2 h).2.1 rfl
  simp [h21, Ne.symm h21] at n1 n2
  have hs : Sub bl b := fun x y hy => by
    have z1 : x ≠ g1 := fun h => by rw [h, hb1] at hy; cases hy
    have z2 : x ≠ g2 := fun h => by rw [h, hb2] at hy; cases hy
    exact new_keep f fr (by simp [upd_apply, z1, z2, hy])
  have hs1 : Sub (upd bl g1 (some ⟨2, [[.bool (decide (n < 0)), .sl (iv (lim n.natAbs))]]⟩)) b := fun x y hy => by
    rw [upd_apply] at hy
    split at hy
    · rename_i h; subst h; rw [n1]; exact hy
    · exact hs x y hy
  refine ⟨hs1, DAny_one (i := 5) (by kernel_rfl) rfl rfl ?_⟩
  simp [h21, Ne.symm h21, n1, n2, c1, c2]
  refine ⟨hs1, DAny_one (i := 6) (by kernel_rfl) rfl rfl ?_⟩
  simp [h21, Ne.symm h21, n1, n2, c1, c2]
  refine ⟨hs1.upd (by simp [h21, hb2]) _, DAny_done (by kernel_rfl) ?_⟩
  simp [h21, Ne.symm h21, n1, n2, c1, c2]
  refine retNW [.agg [.bool (decide (n < 0)), v]] gs (by simp [c1, n1, n2]) ?_ (fun x hx => (e1 x hx).2.2) (hs.upd hb2 _)
  exact own_bi.2 ⟨v, rfl, o.frame fun x hx => by simp [upd_apply, (e1 x hx).2.1]⟩

theorem store_nw (x : Option Rat) (hx : okQ x) : NW Tryz.prog 124 [fv x] (.a (dR (ro x))) := by
  cases x with
  | none =>
    refine nw_of Tryz.func124 rfl rfl (by rw [Tryz.ntmps124]; simp) fun bl => ?_
    rw [Tryz.ntmps124, Tryz.results124]
    refine AW_run ?_
    simp [fv]
    intro g2 hg2 hb2
    refine retNW [.agg [.bool false, .nils, .nils]] [] (by simp) ?_ (by simp) (by simp [hb2])
    exact own_rt.2 ⟨.nils, .nils, [], [], rfl, rfl, by simp, own_iv.2 (.inl ⟨rfl, rfl, rfl⟩), own_iv.2 (.inl ⟨rfl, rfl, rfl⟩)⟩
  | some q =>
    have hf := hx q rfl
    have hl := hf.1
    have hl2 := hf.2
    refine nw_of Tryz.func124 rfl rfl (by rw [Tryz.ntmps124]; simp) fun bl => ?_
    rw [Tryz.ntmps124, Tryz.results124]
    refine AW_run ?_
    rw [show fv (some q) = .ptr (rq q).c from rfl, rqc_def]
    simp
    intro g2 hg2 hb2
    refine AW_mixedB mixedO bl (by simp [hb2]) [0, 1, 2, 3, 5, 6, 7, 8] 4 (by kernel_rfl) ?_
    simp
    refine DAny_one (i := 4) (by kernel_rfl) rfl rfl ?_
    simp
    have hfw := fewer_nw q.num (by omega)
    rw [biC_def] at hfw
    refine callP_new hfw fun v gs b o f fr => ?_
    obtain ⟨vm, rfl, om⟩ := own_bi.1 o
    obtain ⟨c1, c2⟩ := om.one
    have e1 : ∀ x, x ∈ gs → x ≠ g2 ∧ bl x = none := fun x hx => by have := f x hx; simp [upd_apply] at this; exact this
    have n2 : b g2 = _ := fr g2 fun h => (e1 g2 h).1 rfl
    simp at n2
    have hs : Sub bl b := fun x y hy => by
      have z2 : x ≠ g2 := fun h => by rw [h, hb2] at hy; cases hy
      exact new_keep f fr (by simp [upd_apply, z2, hy])
    refine ⟨hs, DAny_one (i := 9) (by kernel_rfl) rfl rfl ?_⟩
    simp
    refine callP_new (Clone_ints_nw (lim q.den) (by omega)) fun w gw b2 ow f2 fr2 => ?_
    obtain ⟨d1, d2⟩ := ow.one
    have m2 : b2 g2 = _ := new_keep f2 fr2 n2
    have hs2 : Sub bl b2 := fun x y hy => new_keep f2 fr2 (hs x y hy)
    have e3 : ∀ x, x ∈ gw → x ≠ g2 := fun x hx h => by have := f2 x hx; rw [h, n2] at this; cases this
    have e4 : ∀ x, x ∈ gs → x ∉ gw := fun x hx h => by
      obtain ⟨y, hy⟩ := om.has x hx
      rw [f2 x h] at hy; cases hy
    refine ⟨hs2, DAny_one (i := 10) (by kernel_rfl) rfl rfl ?_⟩
    simp [m2, c1, c2, d1, d2]
    refine ⟨hs2, DAny_one (i := 11) (by kernel_rfl) rfl rfl ?_⟩
    simp [m2, c1, c2, d1, d2]
    refine ⟨hs2.upd hb2 _, DAny_done (by kernel_rfl) ?_⟩
    simp [m2, c1, c2, d1, d2]
    refine retNW [.agg [.bool (decide (q.num < 0)), vm, w]] (gs ++ gw) (by simp [c1, d1, m2]) ?_ (fun x hx => ?_) (hs2.upd hb2 _)
    · refine own_rt.2 ⟨vm, w, gs, gw, rfl, rfl, e4, om.frame fun x hx => ?_, ow.frame fun x hx => ?_⟩
      · simp only [upd_apply]; rw [if_neg (e1 x hx).1]; exact fr2 x (e4 x hx)
      · simp only [upd_apply]; rw [if_neg (e3 x hx)]
    · rcases List.mem_append.1 hx with hx | hx
      · exact (e1 x hx).2
      · exact fresh_of hs (f2 x hx)

def dT (r : RT) (b : Bool) : D := .t [.a (dR r), .c (.bool b)]
theorem own_dT {bl : Int → Option Blk} {r : RT} {b : Bool} {v : V} {gs : List Int} : OwnD bl (dT r b) v gs ↔ ∃ vs, v = .tup [.agg vs, .bool b] ∧ OwnL bl (dR r) vs gs := by
  unfold dT
  rw [OwnD]
  constructor
  · rintro ⟨vs, rfl, h⟩
    obtain ⟨v, w, g1, g2, rfl, rfl, hd, h1, h2⟩ := own_pair.1 h
    rw [OwnD] at h2
    obtain ⟨rfl, _, rfl⟩ := h2
    rw [OwnD] at h1
    obtain ⟨vs, rfl, h1⟩ := h1
    exact ⟨vs, rfl, by simpa using h1⟩
  · rintro ⟨vs, rfl, h⟩
    refine ⟨_, rfl, own_pair.2 ⟨.agg vs, .bool b, gs, [], rfl, by simp, fun x hx h => (by cases h), by rw [OwnD]; exact ⟨vs, rfl, h⟩, own_bool b⟩⟩
theorem told_nw (x : Option Rat) (hx : okQ x) : NW Tryz.prog 84 [fv x] (dT (ro x) x.isSome) := by
  cases x with
  | none =>
    refine nw_of Tryz.func84 rfl rfl (by rw [Tryz.ntmps84]; simp) fun bl => ?_
    rw [Tryz.ntmps84, Tryz.results84]
    refine AW_run ?_
    simp [fv]
    intro g2 hg2 hb2
    refine retNW [.agg [.bool false, .nils, .nils], .bool false] [] (by simp) ?_ (by simp) (by simp [hb2])
    exact own_dT.2 ⟨_, rfl, own_rtL.2 ⟨.nils, .nils, [], [], rfl, rfl, by simp, own_iv.2 (.inl ⟨rfl, rfl, rfl⟩), own_iv.2 (.inl ⟨rfl, rfl, rfl⟩)⟩⟩
  | some q =>
    refine nw_of Tryz.func84 rfl rfl (by rw [Tryz.ntmps84]; simp) fun bl => ?_
    rw [Tryz.ntmps84, Tryz.results84]
    refine AW_run ?_
    simp [fv]
    intro g2 hg2 hb2
    refine callP_new (store_nw (some q) hx) fun v gs b o f fr => ?_
    obtain ⟨vm, vd, ga, gb, rfl, rfl, hd, om, od⟩ := own_rt.1 o
    obtain ⟨c1, c2⟩ := om.one
    obtain ⟨d1, d2⟩ := od.one
    have e1 : ∀ x, x ∈ ga ++ gb → x ≠ g2 ∧ bl x = none := fun x hx => by have := f x hx; simp only [upd_apply] at this; split at this <;> simp_all
    have n2 : b g2 = some ⟨3, [[.bool false, .nils, .nils]]⟩ := new_keep f fr (by simp)
    have hs : Sub bl b := fun x y hy => by
      have z2 : x ≠ g2 := fun h => by rw [h, hb2] at hy; cases hy
      exact new_keep f fr (by simp [upd_apply, z2, hy])
    simp [n2, c1, d1]
    refine retNW [.agg [.bool (ro (some q)).neg, vm, vd], .bool true] (ga ++ gb) (by simp [c1, d1]) ?_ (fun x hx => (e1 x hx).2) (hs.upd hb2 _)
    refine own_dT.2 ⟨_, rfl, (own_rtL.2 ⟨vm, vd, ga, gb, rfl, rfl, hd, om, od⟩).frame fun x hx => by simp [upd_apply, (e1 x hx).1]⟩


/-- The width of a span, if it has one. -/
def widQ (s : SP) : Option Rat := if spOk s && !s.nl && !s.nh then op2 (· - ·) (rd s.hi) (rd s.lo) else none
theorem okQ_wid (s : SP) : okQ (widQ s) := by
  unfold widQ; split
  · exact okQ_op2 _ _ _
  · intro q h; cases h
theorem ok_ro {x : Option Rat} (h : okQ x) : decide (ro x).ok = x.isSome := by
  have := rd_ok (r := ro x)
  rw [rd_ro h] at this
  rw [Bool.eq_iff_iff, decide_eq_true_iff, this]
theorem ro_le {x : Option Rat} (h : okQ x) : (ro x).m.length ≤ 24 ∧ (ro x).d.length ≤ 24 := by
  cases x with
  | none => simp [ro, rz]
  | some q => exact h q rfl
theorem frz_rtL {bl : Int → Option Blk} {r : RT} {vs : List V} {gs : List Int} (h : OwnL bl (dR r) vs gs) (n : Nat) : frz bl (n + 2) (.agg vs) = some (.agg r.c) :=
  frz_rt (by rw [OwnD]; exact ⟨vs, rfl, h⟩) n
theorem own_sp1 {bl : Int → Option Blk} {s : SP} {vs : List V} {gs : List Int} (h : OwnL bl (dS s) vs gs) : ∃ vm vd wm wd, vs = [.bool s.lo.neg, vm, vd, .bool s.hi.neg, wm, wd, .bool s.nl, .bool s.nh] ∧ vm.one = true ∧ vd.one = true ∧ wm.one = true ∧ wd.one = true := by
  obtain ⟨v1, v2, ga, gb, rfl, rfl, hd, o1, o2⟩ := own_spL.1 h
  obtain ⟨vm, vd, _, _, rfl, rfl, _, om, od⟩ := own_rtL.1 o1
  obtain ⟨wm, wd, _, _, rfl, rfl, _, om2, od2⟩ := own_rtL.1 o2
  exact ⟨vm, vd, wm, wd, rfl, om.one.1, od.one.1, om2.one.1, od2.one.1⟩
theorem own_rt1 {bl : Int → Option Blk} {r : RT} {vs : List V} {gs : List Int} (h : OwnL bl (dR r) vs gs) : ∃ vm vd, vs = [.bool r.neg, vm, vd] ∧ vm.one = true ∧ vd.one = true := by
  obtain ⟨vm, vd, _, _, rfl, rfl, _, om, od⟩ := own_rtL.1 h
  exact ⟨vm, vd, rfl, om.one.1, od.one.1⟩

end Go.Proofs.YthhjmaianlmfpaaGreat.Vm

namespace Go.Proofs.YthhjmaianlmfpaaGreat.Vm
open Go Go.Proofs
set_option linter.unusedSimpArgs false
set_option linter.unusedVariables false

/-! ### Lists of fractions that may be none -/
def fvs (xs : List (Option Rat)) : List (List V) := xs.map fun x => [fv x]
@[simp] theorem fvs_length (xs : List (Option Rat)) : (fvs xs).length = xs.length := by simp [fvs]
@[simp] theorem fvs_getE (xs : List (Option Rat)) (i : Nat) (h : i < (fvs xs).length) : (fvs xs)[i] = [fv (xs[i]'(by simpa using h))] := by simp [fvs]
@[simp] theorem fv_cl (x : Option Rat) : (fv x).cl = true := by cases x <;> rfl
@[simp] theorem fv_one (x : Option Rat) : (fv x).one = true := by cases x <;> rfl
@[simp] theorem fv_cells (x : Option Rat) : (fv x).cells = [fv x] := by cases x <;> rfl
theorem fvs_cl (xs : List (Option Rat)) : (fvs xs).all (fun r => r.all V.cl) = true := by simp [fvs]
theorem fvs_clen (xs : List (Option Rat)) : ∀ r, r ∈ fvs xs → r.length = 1 := by
  intro r hr
  obtain ⟨n, _, rfl⟩ := List.mem_map.1 hr
  rfl
theorem own_fvs {bl : Int → Option Blk} {xs : List (Option Rat)} {v : V} {gs : List Int} : OwnD bl (fl 1 (fvs xs)) v gs ↔ (xs = [] ∧ v = .nils ∧ gs = []) ∨ ∃ g, v = .lsl g 1 0 xs.length ∧ gs = [g] ∧ bl g = some ⟨1, fvs xs⟩ ∧ (g < 0 → xs = []) := by
  rw [own_fl (fvs_cl xs) (fvs_clen xs)]
  simp [fvs]
def okL (xs : List (Option Rat)) : Prop := ∀ x, x ∈ xs → okQ x
/-- A list and whether it is one. -/
def dL (xs : List (Option Rat)) (b : Bool) : D := .t [fl 1 (fvs xs), .c (.bool b)]
theorem own_two {bl : Int → Option Blk} {d : D} {b : Bool} {v : V} {gs : List Int} : OwnD bl (.t [d, .c (.bool b)]) v gs ↔ ∃ w, v = .tup [w, .bool b] ∧ OwnD bl d w gs := by
  rw [OwnD]
  constructor
  · rintro ⟨vs, rfl, h⟩
    obtain ⟨v, w, g1, g2, rfl, rfl, hd, h1, h2⟩ := own_pair.1 h
    rw [OwnD] at h2
    obtain ⟨rfl, _, rfl⟩ := h2
    exact ⟨v, rfl, by simpa using h1⟩
  · rintro ⟨w, rfl, h⟩
    exact ⟨_, rfl, own_pair.2 ⟨w, .bool b, gs, [], rfl, by simp, fun x hx h => (by cases h), h, own_bool b⟩⟩
theorem dL_dep (xs : List (Option Rat)) (b : Bool) (n : Nat) : (dL xs b).dep (n + 2) := by
  unfold dL; rw [D.dep]; exact ⟨by omega, by simp [D.depL, D.dep, fl_dep]⟩
theorem dL_fz (xs : List (Option Rat)) (b : Bool) : (dL xs b).fz = .tup [.sl (fvs xs), .bool b] := by simp [dL, D.fz, D.fzL]

def allOk (rs : List RT) : Bool := rs.all fun r => (rd r).isSome
def rdAll (rs : List RT) : List (Option Rat) := rs.map rd
@[simp] theorem rdAll_length (rs : List RT) : (rdAll rs).length = rs.length := by simp [rdAll]
theorem rdAll_ok (rs : List RT) : okL (rdAll rs) := by
  intro x hx
  obtain ⟨r, _, rfl⟩ := List.mem_map.1 hx
  exact okQ_rd r

theorem loads_nw (rs : List RT) (hq : fitQ rs 1048576) : NW Tryz.prog 122 [.sl (rv rs)] (dL (if allOk rs = true then rdAll rs else []) (allOk rs)) := by
  have hw := hq.1
  refine nw_of Tryz.func122 rfl rfl (by rw [Tryz.ntmps122]; simp) fun bl => ?_
  rw [Tryz.ntmps122, Tryz.results122]
  refine AW_run ?_
  simp
  refine ⟨by omega, by unfold maxLen; omega, fun g hg0 hg => ?_⟩
  refine AW_for (fun i : Nat => [(4, .lsl g 1 0 rs.length), (10, .sl (rv rs)), (11, .int .i64 rs.length), (12, .int .i64 i)]) (fun i => upd bl g (some ⟨1, part (fvs (rdAll rs)) [.nilp] i⟩)) (fun i => i ≤ rs.length ∧ ∀ r, r ∈ rs.take i → (rd r).isSome = true) (fun i => rs.length - i) _ 0 ⟨Nat.zero_le _, by simp⟩ ⟨rfl, by simp, sub_eq (by simp)⟩ ?_
  rintro i ⟨hi, hall⟩
  refine AW_run ?_
  simp
  refine ⟨fun h => ?_, fun h => ?_⟩
  · have hi' : i < (fvs (rdAll rs)).length := by simpa using h
    simp [h, RT.c]
    intro g2 hg2 h2g hb2
    try simp [h2g, Ne.symm h2g]
    have hr := hq.2 _ (List.getElem_mem h)
    refine callP_ro (load_ro rs[i] (by have := hr.1; omega) (by have := hr.2; omega)) ?_
    have hpl : i < (part (fvs (rdAll rs)) [.nilp] i).length := by simp [part]; omega
    have hpi : (part (fvs (rdAll rs)) [.nilp] i)[i]? = some [.nilp] := part_get _ _ _ hi'
    have hpe : (part (fvs (rdAll rs)) [.nilp] i)[i] = [.nilp] := by
      rw [List.getElem?_eq_getElem hpl] at hpi; exact Option.some.inj hpi
    rcases ev : rd rs[i] with _ | a
    · have hno : allOk rs = false := by
        rw [Bool.eq_false_iff]
        intro hh
        have := List.all_eq_true.1 hh rs[i] (List.getElem_mem h)
        rw [ev] at this; cases this
      simp [h, ev, fv, hpl, hpe, h2g, Ne.symm h2g, hno]
      refine retNW [.nils, .bool false] [] (by simp) ?_ (by simp) (by simp [hg, hb2])
      exact own_two.2 ⟨.nils, rfl, own_fvs.2 (.inl ⟨rfl, rfl, rfl⟩)⟩
    · have hset : (part (fvs (rdAll rs)) [.nilp] i).set i [fv (some a)] = part (fvs (rdAll rs)) [.nilp] (i + 1) := by
        rw [part_set _ _ _ hi']
        simp [rdAll, ev]
      simp [h, ev, fv, hpl, hpe, h2g, Ne.symm h2g]
      simp (disch := omega) [i64_in, loopQ_normal]
      refine ⟨i + 1, ⟨by omega, fun r hr => ?_⟩, by omega, rfl, by simp, ?_⟩
      · rw [List.take_add_one, List.getElem?_eq_getElem h] at hr
        rcases List.mem_append.1 hr with hr | hr
        · exact hall r hr
        · obtain rfl : r = rs[i] := by simpa using hr
          rw [ev]; rfl
      · have e2 := hset
        simp only [fv] at e2
        intro z y hz
        simp only [upd_apply, e2] at hz ⊢
        grind
  · have hi2 : i = rs.length := by omega
    have hyes : allOk rs = true := List.all_eq_true.2 fun r hr => hall r (by rw [hi2, List.take_length]; exact hr)
    simp [hyes]
    refine retNW [.lsl g 1 0 rs.length, .bool true] [g] (by simp) ?_ (by simpa using hg) (by simp [hg])
    rw [part_all _ _ _ (by simpa using h)]
    exact own_two.2 ⟨_, rfl, own_fvs.2 (.inr ⟨g, by simp, rfl, by simp, by omega⟩)⟩

theorem loads_ro (rs : List RT) (hq : fitQ rs 1048576) : RO Tryz.prog 122 [.sl (rv rs)] (.tup [.sl (fvs (if allOk rs = true then rdAll rs else [])), .bool (allOk rs)]) := by
  have := ro_of_nw 2 (loads_nw rs hq) (dL_dep _ _ 0)
  rwa [dL_fz] at this
def vecOk (rs : List RT) : Bool := decide (rs.length ≤ 24) && allOk rs
theorem own_dL {bl : Int → Option Blk} {xs : List (Option Rat)} {b : Bool} {v : V} {gs : List Int} (h : OwnD bl (dL xs b) v gs) : ∃ w, v = .tup [w, .bool b] ∧ OwnD bl (fl 1 (fvs xs)) w gs ∧ w.one = true ∧ w.cells = [w] := by
  obtain ⟨w, rfl, o⟩ := own_two.1 h
  exact ⟨w, rfl, o, o.one⟩
theorem loadVector_nw (rs : List RT) (hq : fitQ rs 1048576) : NW Tryz.prog 104 [.sl (rv rs)] (dL (if vecOk rs = true then rdAll rs else []) (vecOk rs)) := by
  have hw := hq.1
  refine nw_of Tryz.func104 rfl rfl (by rw [Tryz.ntmps104]; simp) fun bl => ?_
  rw [Tryz.ntmps104, Tryz.results104]
  refine AW_run ?_
  simp
  refine ⟨fun h => ?_, fun h => ?_⟩
  · have hv : vecOk rs = false := by unfold vecOk; rw [decide_eq_false (by omega)]; rfl
    rw [hv]
    refine retNW [.nils, .bool false] [] (by simp) ?_ (by simp) (Sub.refl _)
    exact own_two.2 ⟨.nils, rfl, own_fvs.2 (.inl ⟨rfl, rfl, rfl⟩)⟩
  · have hv : vecOk rs = allOk rs := by unfold vecOk; rw [decide_eq_true (by omega)]; rfl
    rw [hv]
    refine callP_new (loads_nw rs hq) fun v gs b o f fr => ?_
    obtain ⟨w, rfl, ow, w1, w2⟩ := own_dL o
    simp
    exact retNW [w, .bool (allOk rs)] gs (by simp) (own_two.2 ⟨w, rfl, ow⟩) f (fun x y hy => new_keep f fr hy)
theorem loadVector_ro (rs : List RT) (hq : fitQ rs 1048576) : RO Tryz.prog 104 [.sl (rv rs)] (.tup [.sl (fvs (if vecOk rs = true then rdAll rs else [])), .bool (vecOk rs)]) := by
  have := ro_of_nw 2 (loadVector_nw rs hq) (dL_dep _ _ 0)
  rwa [dL_fz] at this

/-! ### Handing back -/
def allSome (xs : List (Option Rat)) : Bool := xs.all Option.isSome
def roAll (xs : List (Option Rat)) : List RT := xs.map ro
@[simp] theorem roAll_length (xs : List (Option Rat)) : (roAll xs).length = xs.length := by simp [roAll]
/-- Fractions handed back, and whether all are some. -/
def stQ (xs : List (Option Rat)) : List RT := if allSome xs = true then roAll xs else []
def dV (rs : List RT) (b : Bool) : D := .t [dRs rs, .c (.bool b)]
theorem dV_dep (rs : List RT) (b : Bool) (n : Nat) : (dV rs b).dep (n + 3) := by
  unfold dV; rw [D.dep]; exact ⟨by omega, by simp [D.depL, D.dep, dRs_dep]⟩
theorem dV_fz (rs : List RT) (b : Bool) : (dV rs b).fz = .tup [.sl (rv rs), .bool b] := by simp [dV, D.fz, D.fzL, dRs_fz]
theorem dV_sc (rs : List RT) (b : Bool) : (dV rs b).sc = true := by simp [dV, D.sc, D.scL, dRs_sc, V.ow]
theorem own_dV {bl : Int → Option Blk} {rs : List RT} {b : Bool} {v : V} {gs : List Int} (h : OwnD bl (dV rs b) v gs) : ∃ w, v = .tup [w, .bool b] ∧ OwnD bl (dRs rs) w gs ∧ w.one = true ∧ w.cells = [w] := by
  obtain ⟨w, rfl, o⟩ := own_two.1 h
  exact ⟨w, rfl, o, own_rs1 o⟩
theorem own_dV0 {bl : Int → Option Blk} (b : Bool) : OwnD bl (dV [] b) (.tup [.nils, .bool b]) [] := own_two.2 ⟨.nils, rfl, own_rs.2 (.inl ⟨rfl, rfl, rfl⟩)⟩

theorem stores_nw (xs : List (Option Rat)) (hx : okL xs) (hw : xs.length ≤ 1048576) : NW Tryz.prog 61 [.sl (fvs xs)] (dV (stQ xs) (allSome xs)) := by
  refine nw_of Tryz.func61 rfl rfl (by rw [Tryz.ntmps61]; simp) fun bl => ?_
  rw [Tryz.ntmps61, Tryz.results61]
  refine AW_run ?_
  simp
  refine ⟨by omega, by unfold maxLen; omega, fun g hg0 hg => ?_⟩
  refine AW_for (fun p : Grow => [(4, .lsl g 3 0 xs.length), (10, .sl (fvs xs)), (11, .int .i64 xs.length), (12, .int .i64 p.els.length)]) (fun p => p.b)
    (fun p => p.els.length ≤ xs.length ∧ (∀ x, x ∈ xs.take p.els.length → x.isSome = true) ∧ p.b g = some ⟨3, p.els ++ List.replicate (xs.length - p.els.length) [.bool false, .nils, .nils]⟩ ∧ OwnR p.b 3 (((roAll xs).map dR).take p.els.length) p.els p.gs ∧ g ∉ p.gs ∧ (∀ x, x ∈ p.gs → bl x = none) ∧ Sub bl p.b)
    (fun p => xs.length - p.els.length) 26 ⟨[], [], upd bl g (some ⟨3, List.replicate xs.length [.bool false, .nils, .nils]⟩)⟩ ⟨Nat.zero_le _, by simp, by simp, by simp [OwnR], by simp, by simp, by simp [hg]⟩ ⟨rfl, by simp, by simp⟩ ?_
  rintro ⟨els, gs, b⟩ ⟨hi, hall, hb, ho, hn, hf, hs⟩
  simp only at hi hall hb ho hn hf hs
  refine AW_run ?_
  simp
  refine ⟨fun h => ?_, fun h => ?_⟩
  · rcases ex : xs[els.length] with _ | q
    · have hno : allSome xs = false := by
        rw [Bool.eq_false_iff]
        intro hh
        have := List.all_eq_true.1 hh xs[els.length] (List.getElem_mem h)
        rw [ex] at this; cases this
      have hst : stQ xs = [] := by unfold stQ; rw [hno]; rfl
      simp [h, ex, fv]
      rw [hno, hst]
      refine retNW [.nils, .bool false] [] (by simp) (own_dV0 _) (by simp) hs
    · simp [h, ex, fv]
      have hq0 : okQ (some q) := by rw [← ex]; exact hx _ (List.getElem_mem h)
      have hstore := store_nw (some q) hq0
      rw [show fv (some q) = .ptr (rq q).c from rfl] at hstore
      refine callP_new hstore fun v gv b' o f fr => ?_
      rw [OwnD] at o
      obtain ⟨vs, rfl, o⟩ := o
      obtain ⟨vm, vd, _, _, rfl, _, _, om, od⟩ := own_rtL.1 o
      have c1 := om.one.1
      have d1 := od.one.1
      have hb' : b' g = _ := new_keep f fr hb
      have hgv : g ∉ gv := fun hh => by have := f g hh; rw [hb] at this; cases this
      simp [h, hb', grow_get els [.bool false, .nils, .nils] xs.length h, c1, d1]
      simp (disch := omega) [i64_in, loopQ_normal]
      have gg := grow_set' els [.bool false, .nils, .nils] [.bool (ro (some q)).neg, vm, vd] xs.length h
      refine ⟨⟨els ++ [[.bool (ro (some q)).neg, vm, vd]], gs ++ gv, upd b' g (some ⟨3, (els ++ [[.bool (ro (some q)).neg, vm, vd]]) ++ List.replicate (xs.length - (els ++ [[V.bool (ro (some q)).neg, vm, vd]]).length) [.bool false, .nils, .nils]⟩)⟩, ⟨by simp; omega, ?_, by simp, ?_, ?_, ?_, ?_⟩, by simp; omega, rfl, by simp, sub_eq ?_⟩
      · intro x hx
        simp only [List.length_append, List.length_singleton] at hx
        rw [List.take_add_one, List.getElem?_eq_getElem h] at hx
        rcases List.mem_append.1 hx with hx | hx
        · exact hall x hx
        · obtain rfl : x = xs[els.length] := by simpa using hx
          rw [ex]; rfl
      · have h2 : els.length < (roAll xs).length := by simpa using h
        have ht : ((roAll xs).map dR).take (els ++ [[V.bool (ro (some q)).neg, vm, vd]]).length = ((roAll xs).map dR).take els.length ++ [dR (ro (some q))] := by
          rw [List.length_append, List.length_singleton, List.take_add_one, List.getElem?_map, List.getElem?_eq_getElem h2]; simp [roAll, ex]
        simp only
        rw [ht]
        refine OwnR.snoc (o.frame fun x hx => by simp [show x ≠ g from fun e => hgv (e ▸ hx)]) rfl (by simp [c1, d1]) (ho.keep fun x hx y hy => ?_) fun x hx hx2 => ?_
        · rw [upd_apply, if_neg (fun e => hn (by rw [← e]; exact hx))]; exact new_keep f fr hy
        · exact ho.not (f x hx2) hx
      · simp only [List.mem_append]; rintro (h | h)
        · exact hn h
        · exact hgv h
      · intro x hx
        rcases List.mem_append.1 hx with hx | hx
        · exact hf x hx
        · exact fresh_of hs (f x hx)
      · exact sub_new' hg fun x y hy => new_keep f fr (hs x y hy)
      · exact congrArg (fun e => upd b' g (some (Blk.mk 3 e))) gg
  · have hl : els.length = xs.length := by omega
    have hyes : allSome xs = true := List.all_eq_true.2 fun x hx => hall x (by rw [hl, List.take_length]; exact hx)
    have hst : stQ xs = roAll xs := by unfold stQ; rw [hyes]; rfl
    rw [hyes, hst]
    refine retNW [.lsl g 3 0 xs.length, .bool true] (g :: gs) (by simp) ?_ (by simpa [hg] using hf) hs
    refine own_two.2 ⟨_, rfl, own_rs.2 (.inr ⟨g, els, gs, by simp, rfl, hn, ?_, by omega, ?_⟩)⟩
    · show b g = _
      rw [hb, hl]; simp
    · rw [hl] at ho
      rw [List.take_of_length_le (by simp)] at ho
      exact ho

theorem frz_tup2 {bl : Int → Option Blk} {n : Nat} {x y : V} {b : Bool} (h : frz bl n x = some y) : frz bl (n + 1) (.tup [x, .bool b]) = some (.tup [y, .bool b]) := by
  rw [frz_tup]
  simp only [List.mapM_cons, List.mapM_nil, h, show frz bl n (.bool b) = some (.bool b) by cases n <;> simp [frz]]
  rfl
theorem rv_all (rs : List RT) : ((rv rs).all fun c => c.length == 3 && c.all V.one) = true := by simp [rv, RT.c]
theorem rv_cl (rs : List RT) : (rv rs).all (fun r => r.all V.cl) = true := by simp [rv, RT.c, V.cl]
theorem rv_append (a b : List RT) : rv (a ++ b) = rv a ++ rv b := by simp [rv]
theorem roAll_append (a b : List (Option Rat)) : roAll (a ++ b) = roAll a ++ roAll b := by simp [roAll]
theorem stQ_fit {zs : List (Option Rat)} (h : okL zs) (hl : zs.length ≤ 1048576) : fitQ (stQ zs) 1048576 ∧ sumQ (stQ zs) ≤ 100000000 := by
  have hle : ∀ r, r ∈ stQ zs → r.m.length ≤ 24 ∧ r.d.length ≤ 24 := by
    intro r hr
    unfold stQ at hr
    split at hr
    · obtain ⟨x, hx, rfl⟩ := List.mem_map.1 hr
      exact ro_le (h x hx)
    · cases hr
  have hn : (stQ zs).length ≤ zs.length := by
    unfold stQ; split
    · simp
    · simp
  have hs : sumQ (stQ zs) ≤ 48 * (stQ zs).length := by
    generalize stQ zs = rs at hle
    clear hn h hl
    unfold sumQ
    induction rs with
    | nil => simp
    | cons r rs ih =>
      rw [List.map_cons, List.sum_cons, List.length_cons]
      have h1 := hle r List.mem_cons_self
      have h2 := ih fun x hx => hle x (List.mem_cons_of_mem _ hx)
      omega
  exact ⟨⟨by omega, fun r hr => ⟨by have := (hle r hr).1; omega, by have := (hle r hr).2; omega⟩⟩, by omega⟩
theorem okL_none : okL [none] := by
  intro x hx
  obtain rfl : x = none := by simpa using hx
  intro q h; cases h

end Go.Proofs.YthhjmaianlmfpaaGreat.Vm

namespace Go.Proofs.YthhjmaianlmfpaaGreat.Vm
open Go Go.Proofs
set_option linter.unusedSimpArgs false
set_option linter.unusedVariables false

theorem l09Valid_ro (rs : List RT) (hq : fitQ rs 1048576) : RO Tryz.prog 93 [.sl (rv rs)] (.bool (allOk rs)) := by
  have hw := hq.1
  refine ro_of2 Tryz.func93 rfl rfl (by rw [Tryz.ntmps93]; simp) fun bl => ?_
  rw [Tryz.ntmps93, Tryz.results93]
  refine AW_run ?_
  simp
  refine AW_for (fun i : Nat => [(5, .sl (rv rs)), (6, .int .i64 rs.length), (7, .int .i64 i)]) (fun _ => bl) (fun i => i ≤ rs.length ∧ ∀ r, r ∈ rs.take i → (rd r).isSome = true) (fun i => rs.length - i) _ 0 ⟨Nat.zero_le _, by simp⟩ ⟨rfl, by simp, Sub.refl _⟩ ?_
  rintro i ⟨hi, hall⟩
  refine AW_run ?_
  simp
  refine ⟨fun h => ?_, fun h => ?_⟩
  · simp [h, RT.c]
    intro g2 hg2 hb2
    have hr := hq.2 _ (List.getElem_mem h)
    refine callP_ro (spec_RatOk_ro rs[i] (by have := hr.1; omega) (by have := hr.2; omega)) ?_
    simp
    refine ⟨fun hok => ?_, fun hok => ?_⟩
    · have hno : allOk rs = false := by
        rw [Bool.eq_false_iff]
        intro hh
        have := List.all_eq_true.1 hh rs[i] (List.getElem_mem h)
        rw [rd_ok] at this; exact hok this
      exact retRO [.bool false] 0 (by simp) (by simp [frz, hno]) (by simp [hb2])
    · simp (disch := omega) [i64_in, loopQ_normal]
      refine ⟨i + 1, ⟨by omega, fun r hr => ?_⟩, by omega, rfl, by simp, by simp [hb2]⟩
      rw [List.take_add_one, List.getElem?_eq_getElem h] at hr
      rcases List.mem_append.1 hr with hr | hr
      · exact hall r hr
      · obtain rfl : r = rs[i] := by simpa using hr
        exact rd_ok.2 hok
  · have hi2 : i = rs.length := by omega
    have hyes : allOk rs = true := List.all_eq_true.2 fun r hr => hall r (by rw [hi2, List.take_length]; exact hr)
    exact retRO0 (by simp [hyes]) rfl rfl

def fitsQ (s : Str) (q : List RT) : Bool := (sOk s && decide (q.length = s.ms.length)) && allOk q
theorem l14Fits_ro (s : Str) (q : List RT) (hj : s.js.length ≤ 140737488351232) (hm : s.ms.length ≤ 140737488351232) (hn : ∀ j, j ∈ s.js → j.name.size ≤ 140737488351232) (hq : fitQ q 1048576) : RO Tryz.prog 49 [.agg s.c, .sl (rv q)] (.bool (fitsQ s q)) := by
  refine ro_of2 Tryz.func49 rfl rfl (by rw [Tryz.ntmps49]; simp) fun bl => ?_
  rw [Tryz.ntmps49, Tryz.results49]
  refine AW_run ?_
  simp [Str.c]
  intro g hg0 hg
  refine AW_way [(1, .sl (rv q)), (2, .loc g 2 0 0)] _ (upd bl g (some ⟨2, [s.c]⟩)) 4 (.bool (fitsQ s q)) (upd bl g (some ⟨2, [s.c]⟩)) ⟨rfl, by simp, sub_eq (by simp [Str.c])⟩ rfl ?_ ?_
  · simp [Str.c]
    refine callP_ro (spec_StructureOk_ro s hj hm hn) ?_
    cases hk : sOk s
    · simp [fitsQ, hk]
    · simp [Str.c]
      refine ⟨fun h => ?_, fun h => ?_⟩
      · refine callP_ro (l09Valid_ro q hq) ?_
        simp [fitsQ, hk]
        intro _; omega
      · simp [fitsQ, hk]
        intro _; omega
  simp
  exact retRO [.bool (fitsQ s q)] 0 (by simp) (by simp [frz]) (by simp [hg])

theorem densities_ro (s : Str) (q : List RT) (hj : s.js.length ≤ 140737488351232) (hm : s.ms.length ≤ 140737488351232) (hn : ∀ j, j ∈ s.js → j.name.size ≤ 140737488351232) (hq : fitQ q 1048576) : RO Tryz.prog 59 [.ptr s.c, .sl (rv q)] (.tup [.sl (fvs (if fitsQ s q = true then rdAll q else [])), .bool (fitsQ s q)]) := by
  refine ro_of2 Tryz.func59 rfl rfl (by rw [Tryz.ntmps59]; simp) fun bl => ?_
  rw [Tryz.ntmps59, Tryz.results59]
  refine AW_run ?_
  simp [Str.c]
  refine AW_way0 [(0, .ptr s.c), (1, .sl (rv q)), (4, .nils), (5, .bool false)] _ bl 20 (.bool (!(sOk s && decide (q.length = s.ms.length)))) ⟨rfl, by simp [Str.c], Sub.refl _⟩ rfl ?_ ?_
  · simp [Str.c]
    refine ⟨fun h => ?_, fun h => ?_⟩
    · right; omega
    · refine callP_ro (impl_StructureOk_ro s hj hm hn) ?_
      simp
      intro h2; omega
  cases hw : (sOk s && decide (q.length = s.ms.length))
  · have hf : fitsQ s q = false := by unfold fitsQ; rw [hw]; rfl
    rw [hf]
    simp
    exact retRO [.nils, .bool false] 1 (by simp) (by simp [frz, fvs, V.cl]) (Sub.refl _)
  · have hf : fitsQ s q = allOk q := by unfold fitsQ; rw [hw]; rfl
    rw [hf]
    simp
    refine callP_ro (loads_ro q hq) ?_
    simp
    exact retRO [.sl (fvs (if allOk q = true then rdAll q else [])), .bool (allOk q)] 1 (by simp) (by simp [frz]) (Sub.refl _)

/-- Does a density have the wrong sign for its member? -/
def sgnBad (m : Mb) (x : Option Rat) : Bool := (decide (m.kind = 1) && decide (sgq x < 0)) || (decide (m.kind = 2) && decide (0 < sgq x))
def sgnsTo (ms : List Mb) (q : List RT) (n : Nat) : Prop := ∀ k (h1 : k < ms.length) (h2 : k < q.length), k < n → sgnBad ms[k] (rd q[k]) = false
def hasS (s : Str) (q : List RT) : Bool := fitsQ s q && (List.zip s.ms q).all fun p => !sgnBad p.1 (rd p.2)
theorem hasS_yes {s : Str} {q : List RT} (hf : fitsQ s q = true) (h : sgnsTo s.ms q s.ms.length) : hasS s q = true := by
  unfold hasS
  rw [hf, Bool.true_and, List.all_eq_true]
  intro p hp
  obtain ⟨k, hk, rfl⟩ := List.getElem_of_mem hp
  rw [List.length_zip] at hk
  rw [List.getElem_zip]
  simp only
  rw [h k (by omega) (by omega) (by omega)]; rfl
theorem hasS_no {s : Str} {q : List RT} (k : Nat) (h1 : k < s.ms.length) (h2 : k < q.length) (h : sgnBad s.ms[k] (rd q[k]) = true) : hasS s q = false := by
  unfold hasS
  rw [Bool.and_eq_false_iff]
  right
  rw [List.all_eq_false]
  refine ⟨(s.ms[k], q[k]), ?_, by simp [h]⟩
  rw [List.mem_iff_getElem]
  exact ⟨k, by rw [List.length_zip]; omega, by rw [List.getElem_zip]⟩

theorem impl_HasSigns_ro (s : Str) (q : List RT) (hj : s.js.length ≤ 140737488351232) (hm : s.ms.length ≤ 140737488351232) (hn : ∀ j, j ∈ s.js → j.name.size ≤ 140737488351232) (hq : fitQ q 1048576) : RO Tryz.prog 77 [.agg s.c, .sl (rv q)] (.bool (hasS s q)) := by
  refine ro_of2 Tryz.func77 rfl rfl (by rw [Tryz.ntmps77]; simp) fun bl => ?_
  rw [Tryz.ntmps77, Tryz.results77]
  refine AW_runA ?_
  simp [Str.c]
  intro g hg0 hg
  refine AW_frzAt 1 2 (.ptr s.c) bl (by simp [hg]) (by simp [frz, dropB, hg, Str.c, V.cl]) ?_
  refine AW_run ?_
  simp
  refine callP_ro (densities_ro s q hj hm hn hq) ?_
  simp
  cases hf : fitsQ s q
  · have hno : hasS s q = false := by unfold hasS; rw [hf]; rfl
    simp
    exact retRO [.bool false] 0 (by simp) (by simp [frz, hno]) (Sub.refl _)
  have hlen : q.length = s.ms.length := by
    unfold fitsQ at hf; simp at hf; exact hf.1.2
  have hall : allOk q = true := by unfold fitsQ at hf; simp at hf; exact hf.2
  have hq1 := hq.1
  simp [Str.c]
  refine AW_for (fun i : Nat => [(5, .sl (fvs (rdAll q))), (18, .sl (mv s.ms)), (19, .int .i64 s.ms.length), (20, .int .i64 i)]) (fun _ => bl) (fun i => i ≤ s.ms.length ∧ sgnsTo s.ms q i) (fun i => s.ms.length - i) _ 0 ⟨Nat.zero_le _, fun k _ _ h0 => by omega⟩ ⟨rfl, by simp, Sub.refl _⟩ ?_
  rintro i ⟨hi, hc⟩
  refine AW_run ?_
  simp
  refine ⟨fun h => ?_, fun h => ?_⟩
  · have h2 : i < q.length := by omega
    have h3 : i < (rdAll q).length := by simpa using h2
    obtain ⟨a, ea⟩ : ∃ a, rd q[i] = some a := by
      have := List.all_eq_true.1 hall q[i] (List.getElem_mem h2)
      exact Option.isSome_iff_exists.1 this
    have e2 : (rdAll q)[i] = some a := by simp [rdAll, ea]
    simp [h, Mb.c]
    intro g2 hg2 hb2
    simp [h2, e2, fv]
    refine callP_ro (Sign_ro a) ?_
    have hbad : sgnBad s.ms[i] (some a) = ((decide (s.ms[i].kind = 1) && decide (a.num.sign < 0)) || (decide (s.ms[i].kind = 2) && decide (0 < a.num.sign))) := rfl
    generalize a.num.sign = z at hbad ⊢
    simp
    refine AW_way [(5, .sl (fvs (rdAll q))), (18, .sl (mv s.ms)), (19, .int .i64 s.ms.length), (20, .int .i64 i), (8, .loc g2 3 0 0), (9, .int .i64 z)] _ (upd bl g2 (some ⟨3, [s.ms[i].c]⟩)) 45 (.bool (sgnBad s.ms[i] (some a))) (upd bl g2 (some ⟨3, [s.ms[i].c]⟩)) ⟨rfl, by simp, sub_eq (by simp [Mb.c])⟩ rfl ?_ ?_
    · rw [hbad]
      simp [Mb.c]
      by_cases k1 : s.ms[i].kind = 1 <;> by_cases k2 : s.ms[i].kind = 2 <;> by_cases z1 : z < 0 <;> by_cases z2 : 0 < z <;> simp [k1, k2, z1, z2] <;> omega
    cases hb : sgnBad s.ms[i] (some a)
    · simp
      simp (disch := omega) [i64_in, loopQ_normal]
      refine ⟨i + 1, ⟨by omega, fun k h4 h5 hk => ?_⟩, by omega, rfl, by simp, by simp [hb2]⟩
      rcases Nat.lt_or_ge k i with hlt | hge
      · exact hc k h4 h5 hlt
      · obtain rfl : k = i := by omega
        rw [ea]; exact hb
    · have hno : hasS s q = false := hasS_no i h h2 (by rw [ea]; exact hb)
      simp
      exact retRO [.bool false] 0 (by simp) (by simp [frz, hno]) (by simp [hb2])
  · have hi2 : i = s.ms.length := by omega
    subst hi2
    exact retRO0 (by simp [hasS_yes hf hc]) rfl rfl

theorem spec_HasSigns_ro (s : Str) (q : List RT) (hj : s.js.length ≤ 140737488351232) (hm : s.ms.length ≤ 140737488351232) (hn : ∀ j, j ∈ s.js → j.name.size ≤ 140737488351232) (hq : fitQ q 1048576) : RO Tryz.prog 76 [.agg s.c, .sl (rv q)] (.bool (hasS s q)) := by
  refine ro_of2 Tryz.func76 rfl rfl (by rw [Tryz.ntmps76]; simp) fun bl => ?_
  rw [Tryz.ntmps76, Tryz.results76]
  refine AW_run ?_
  simp [Str.c]
  intro g hg0 hg
  refine callP_ro (l14Fits_ro s q hj hm hn hq) ?_
  simp
  cases hf : fitsQ s q
  · have hno : hasS s q = false := by unfold hasS; rw [hf]; rfl
    simp
    exact retRO [.bool false] 0 (by simp) (by simp [frz, hno]) (by simp [hg])
  have hlen : q.length = s.ms.length := by
    unfold fitsQ at hf; simp at hf; exact hf.1.2
  have hall : allOk q = true := by unfold fitsQ at hf; simp at hf; exact hf.2
  have hq1 := hq.1
  simp [Str.c]
  refine AW_for (fun i : Nat => [(1, .sl (rv q)), (13, .sl (mv s.ms)), (14, .int .i64 s.ms.length), (15, .int .i64 i)]) (fun _ => bl) (fun i => i ≤ s.ms.length ∧ sgnsTo s.ms q i) (fun i => s.ms.length - i) _ 0 ⟨Nat.zero_le _, fun k _ _ h0 => by omega⟩ ⟨rfl, by simp, by simp [hg]⟩ ?_
  rintro i ⟨hi, hc⟩
  refine AW_run ?_
  simp
  refine ⟨fun h => ?_, fun h => ?_⟩
  · have h2 : i < q.length := by omega
    simp [h, Mb.c]
    intro g2 hg2 hb2
    simp [h2, RT.c]
    have hr := hq.2 _ (List.getElem_mem h2)
    refine callP_ro (RatSign_ro q[i] (by have := hr.1; omega) (by have := hr.2; omega)) ?_
    have hbad : sgnBad s.ms[i] (rd q[i]) = ((decide (s.ms[i].kind = 1) && decide (sgq (rd q[i]) < 0)) || (decide (s.ms[i].kind = 2) && decide (0 < sgq (rd q[i])))) := rfl
    generalize sgq (rd q[i]) = z at hbad ⊢
    simp
    refine AW_way [(1, .sl (rv q)), (13, .sl (mv s.ms)), (14, .int .i64 s.ms.length), (15, .int .i64 i), (6, .loc g2 3 0 0), (7, .int .i64 z)] _ (upd bl g2 (some ⟨3, [s.ms[i].c]⟩)) 40 (.bool (sgnBad s.ms[i] (rd q[i]))) (upd bl g2 (some ⟨3, [s.ms[i].c]⟩)) ⟨rfl, by simp, sub_eq (by simp [Mb.c])⟩ rfl ?_ ?_
    · rw [hbad]
      simp [Mb.c]
      by_cases k1 : s.ms[i].kind = 1 <;> by_cases k2 : s.ms[i].kind = 2 <;> by_cases z1 : z < 0 <;> by_cases z2 : 0 < z <;> simp [k1, k2, z1, z2] <;> omega
    cases hb : sgnBad s.ms[i] (rd q[i])
    · simp
      simp (disch := omega) [i64_in, loopQ_normal]
      refine ⟨i + 1, ⟨by omega, fun k h4 h5 hk => ?_⟩, by omega, rfl, by simp, by simp [hb2]⟩
      rcases Nat.lt_or_ge k i with hlt | hge
      · exact hc k h4 h5 hlt
      · obtain rfl : k = i := by omega
        exact hb
    · have hno : hasS s q = false := hasS_no i h h2 hb
      simp
      exact retRO [.bool false] 0 (by simp) (by simp [frz, hno]) (by simp [hb2])
  · have hi2 : i = s.ms.length := by omega
    subst hi2
    exact retRO0 (by simp [hasS_yes hf hc]) rfl rfl

end Go.Proofs.YthhjmaianlmfpaaGreat.Vm

namespace Go.Proofs.YthhjmaianlmfpaaGreat.Vm
open Go Go.Proofs
set_option linter.unusedSimpArgs false
set_option linter.unusedVariables false

/-- The sum over the members before n that touch joint j. -/
def pTo (e : Mb → Int) (s : Str) (q : List (Option Rat)) (j : Int) : Nat → Option Rat
  | 0 => some 0
  | n + 1 => if j = (mat s n).a ∨ j = (mat s n).b then op2 (· + ·) (pTo e s q j n) (op2 (· * ·) (q.getD n none) (some (e (mat s n) : Rat))) else pTo e s q j n
theorem pTo_ok (e : Mb → Int) (s : Str) (q : List (Option Rat)) (j : Int) : ∀ n, okQ (pTo e s q j n)
  | 0 => fun x h => by cases h; exact fits_zero
  | n + 1 => by
    unfold pTo; split
    · exact okQ_op2 _ _ _
    · exact pTo_ok e s q j n
def pX (s : Str) (q : List (Option Rat)) (j : Int) : Option Rat := pTo (eqX s j) s q j s.ms.length
def pY (s : Str) (q : List (Option Rat)) (j : Int) : Option Rat := pTo (eqY s j) s q j s.ms.length
theorem mat_at (s : Str) (i : Nat) (h : i < s.ms.length) : mat s i = s.ms[i] := by simp [mat, h]
theorem vxy_le {s : Str} (hs : SOk s) {m : Mb} (hm : m ∈ s.ms) : (-100 ≤ vx s m ∧ vx s m ≤ 100) ∧ (-100 ≤ vy s m ∧ vy s m ≤ 100) := by
  obtain ⟨⟨a1, a2⟩, ⟨b1, b2⟩⟩ := hs.ix _ hm
  have ha := hs.pl m.a.toNat (by omega)
  have hb := hs.pl m.b.toNat (by omega)
  unfold vx vy jat
  omega
theorem zero_cast : ((0 : Int) : Rat) = 0 := rfl
theorem pull_ro (s : Str) (q : List (Option Rat)) (j : Int) (hs : SOk s) (hq : okL q) (hl : q.length = s.ms.length) : RO Tryz.prog 60 [.ptr s.c, .sl (fvs q), .int .i64 j] (.tup [fv (pX s q j), fv (pY s q j)]) := by
  have hn := hs.nm
  have w0 := whole_ro 0 (by omega)
  rw [zero_cast] at w0
  refine ro_of2 Tryz.func60 rfl rfl (by rw [Tryz.ntmps60]; simp) fun bl => ?_
  rw [Tryz.ntmps60, Tryz.results60]
  refine AW_run ?_
  simp
  refine callP_ro w0 ?_
  simp
  refine callP_ro w0 ?_
  simp [Str.c]
  refine AW_for (fun i : Nat => [(0, .ptr s.c), (1, .sl (fvs q)), (2, .int .i64 j), (8, fv (pTo (eqX s j) s q j i)), (9, fv (pTo (eqY s j) s q j i)), (19, .sl (mv s.ms)), (20, .int .i64 s.ms.length), (21, .int .i64 i)]) (fun _ => bl) (fun i => i ≤ s.ms.length) (fun i => s.ms.length - i) _ 0 (Nat.zero_le _) ⟨rfl, by simp [Str.c, pTo], Sub.refl _⟩ ?_
  intro i hi
  refine AW_run ?_
  simp
  refine ⟨fun h => ?_, fun h => ?_⟩
  · have h2 : i < q.length := by omega
    have hm := mat_at s i h
    have hv := vector_ro s i hs (by omega) (by omega)
    rw [hm] at hv
    have hle := vxy_le hs (List.getElem_mem h)
    have hqi : q.getD i none = q[i] := by simp [h2]
    have hok := hq _ (List.getElem_mem h2)
    simp [h, Mb.c]
    intro g2 hg2 hb2
    refine callP_ro hv ?_
    simp
    refine ⟨fun hja => ?_, fun hja => ⟨fun hjb => ?_, fun hjb => ?_⟩⟩
    · obtain ⟨cx, hcx⟩ : ∃ c : Int, vx s s.ms[i] = c := ⟨_, rfl⟩
      obtain ⟨cy, hcy⟩ : ∃ c : Int, vy s s.ms[i] = c := ⟨_, rfl⟩
      have ex : eqX s j s.ms[i] = cx := by unfold eqX; rw [if_pos hja]; exact hcx
      have ey : eqY s j s.ms[i] = cy := by unfold eqY; rw [if_pos hja]; exact hcy
      have bx : -100 ≤ cx ∧ cx ≤ 100 := by omega
      have by_ : -100 ≤ cy ∧ cy ≤ 100 := by omega
      have e1 : pTo (eqX s j) s q j (i + 1) = op2 (· + ·) (pTo (eqX s j) s q j i) (op2 (· * ·) q[i] (some (cx : Rat))) := by
        rw [pTo, hm, if_pos (.inl hja), hqi, ex]
      have e2 : pTo (eqY s j) s q j (i + 1) = op2 (· + ·) (pTo (eqY s j) s q j i) (op2 (· * ·) q[i] (some (cy : Rat))) := by
        rw [pTo, hm, if_pos (.inl hja), hqi, ey]
      rw [hcx, hcy]
      refine AW_quiet mixedO (by kernel_rfl) ?_
      simp [h2]
      refine hcQ_ro (whole_ro cx (by omega)) ?_
      simp
      refine hcQ_ro (mul_ro q[i] _ hok (okQ_int (by omega))) ?_
      simp
      refine hcQ_ro (add_ro _ _ (pTo_ok _ _ _ _ _) (okQ_op2 _ _ _)) ?_
      simp
      refine AW_quiet mixedO (by kernel_rfl) ?_
      simp [h2]
      refine hcQ_ro (whole_ro cy (by omega)) ?_
      simp
      refine hcQ_ro (mul_ro q[i] _ hok (okQ_int (by omega))) ?_
      simp
      refine hcQ_ro (add_ro _ _ (pTo_ok _ _ _ _ _) (okQ_op2 _ _ _)) ?_
      simp (disch := omega) [i64_in, loopQ_normal]
      refine ⟨i + 1, by omega, by omega, rfl, by simp [e1, e2], by simp [hb2]⟩
    · obtain ⟨cx, hcx⟩ : ∃ c : Int, -vx s s.ms[i] = c := ⟨_, rfl⟩
      obtain ⟨cy, hcy⟩ : ∃ c : Int, -vy s s.ms[i] = c := ⟨_, rfl⟩
      have ex : eqX s j s.ms[i] = cx := by unfold eqX; rw [if_neg hja, if_pos hjb]; exact hcx
      have ey : eqY s j s.ms[i] = cy := by unfold eqY; rw [if_neg hja, if_pos hjb]; exact hcy
      have bx : -100 ≤ cx ∧ cx ≤ 100 := by omega
      have by_ : -100 ≤ cy ∧ cy ≤ 100 := by omega
      have e1 : pTo (eqX s j) s q j (i + 1) = op2 (· + ·) (pTo (eqX s j) s q j i) (op2 (· * ·) q[i] (some (cx : Rat))) := by
        rw [pTo, hm, if_pos (.inr hjb), hqi, ex]
      have e2 : pTo (eqY s j) s q j (i + 1) = op2 (· + ·) (pTo (eqY s j) s q j i) (op2 (· * ·) q[i] (some (cy : Rat))) := by
        rw [pTo, hm, if_pos (.inr hjb), hqi, ey]
      have wx : IntKind.i64.wrap (-vx s s.ms[i]) = cx := by rw [i64_in (by omega) (by omega)]; exact hcx
      have wy : IntKind.i64.wrap (-vy s s.ms[i]) = cy := by rw [i64_in (by omega) (by omega)]; exact hcy
      rw [wx, wy]
      refine AW_quiet mixedO (by kernel_rfl) ?_
      simp [h2]
      refine hcQ_ro (whole_ro cx (by omega)) ?_
      simp
      refine hcQ_ro (mul_ro q[i] _ hok (okQ_int (by omega))) ?_
      simp
      refine hcQ_ro (add_ro _ _ (pTo_ok _ _ _ _ _) (okQ_op2 _ _ _)) ?_
      simp
      refine AW_quiet mixedO (by kernel_rfl) ?_
      simp [h2]
      refine hcQ_ro (whole_ro cy (by omega)) ?_
      simp
      refine hcQ_ro (mul_ro q[i] _ hok (okQ_int (by omega))) ?_
      simp
      refine hcQ_ro (add_ro _ _ (pTo_ok _ _ _ _ _) (okQ_op2 _ _ _)) ?_
      simp (disch := omega) [i64_in, loopQ_normal]
      refine ⟨i + 1, by omega, by omega, rfl, by simp [e1, e2], by simp [hb2]⟩
    · have e1 : pTo (eqX s j) s q j (i + 1) = pTo (eqX s j) s q j i := by rw [pTo, hm, if_neg]; rintro (h | h); exact hja h; exact hjb h
      have e2 : pTo (eqY s j) s q j (i + 1) = pTo (eqY s j) s q j i := by rw [pTo, hm, if_neg]; rintro (h | h); exact hja h; exact hjb h
      simp (disch := omega) [i64_in, loopQ_normal]
      refine ⟨i + 1, by omega, by omega, rfl, by simp [e1, e2], by simp [hb2]⟩
  · have hi2 : i = s.ms.length := by omega
    subst hi2
    exact retRO [fv (pX s q j), fv (pY s q j)] 1 (by simp [pX, pY]) (by simp [frz, pX, pY]) (Sub.refl _)

end Go.Proofs.YthhjmaianlmfpaaGreat.Vm

namespace Go.Proofs.YthhjmaianlmfpaaGreat.Vm
open Go Go.Proofs
set_option linter.unusedSimpArgs false
set_option linter.unusedVariables false

def pullOk (s : Str) (q : List RT) (j : Int) : Bool := fitsQ s q && (decide (0 ≤ j) && decide (j < s.js.length))
def pqs (s : Str) (q : List RT) (j : Int) : List (Option Rat) := if pullOk s q j = true then [pX s (rdAll q) j, pY s (rdAll q) j] else [none]
theorem pqs_ok (s : Str) (q : List RT) (j : Int) : okL (pqs s q j) ∧ (pqs s q j).length ≤ 24 := by
  unfold pqs; split
  · refine ⟨fun x hx => ?_, by simp⟩
    rcases List.mem_cons.1 hx with rfl | hx
    · exact pTo_ok _ _ _ _ _
    · obtain rfl : x = _ := by simpa using hx
      exact pTo_ok _ _ _ _ _
  · refine ⟨fun x hx => ?_, by simp⟩
    obtain rfl : x = none := by simpa using hx
    intro q h; cases h
theorem fitsQ_of {s : Str} {q : List RT} (h : fitsQ s q = true) : SOk s ∧ q.length = s.ms.length ∧ allOk q = true := by
  unfold fitsQ at h; simp at h
  exact ⟨sOk_of h.1.1, h.1.2, h.2⟩
theorem impl_PullOn_nw (s : Str) (q : List RT) (j : Int) (hj : s.js.length ≤ 140737488351232) (hm : s.ms.length ≤ 140737488351232) (hn : ∀ j, j ∈ s.js → j.name.size ≤ 140737488351232) (hq : fitQ q 1048576) : NW Tryz.prog 16 [.agg s.c, .sl (rv q), .int .i64 j] (dV (stQ (pqs s q j)) (allSome (pqs s q j))) := by
  refine nw_of Tryz.func16 rfl rfl (by rw [Tryz.ntmps16]; simp) fun bl => ?_
  rw [Tryz.ntmps16, Tryz.results16]
  refine AW_runA ?_
  simp [Str.c]
  intro g hg0 hg
  refine AW_frzAt 1 3 (.ptr s.c) bl (by simp [hg]) (by simp [frz, dropB, hg, Str.c, V.cl]) ?_
  refine AW_run ?_
  simp
  refine callP_ro (densities_ro s q hj hm hn hq) ?_
  simp
  refine AW_way0 [(2, .int .i64 j), (3, .ptr s.c), (6, .nils), (7, .bool false), (8, .sl (fvs (if fitsQ s q = true then rdAll q else []))), (9, .bool (fitsQ s q))] _ bl 29 (.bool (!pullOk s q j)) ⟨rfl, by simp, Sub.refl _⟩ rfl ?_ ?_
  · cases hf : fitsQ s q
    · simp [pullOk, hf]
    simp [pullOk, hf, Str.c]
    by_cases h1 : j < 0
    · simp [h1]; omega
    · have h2 : 0 ≤ j := by omega
      simp [h1, h2]
      rw [Bool.eq_iff_iff]
      simp
  cases hp : pullOk s q j
  · have hz : pqs s q j = [none] := by unfold pqs; rw [hp]; rfl
    rw [hz]
    simp
    exact retNW [.nils, .bool false] [] (by simp) (own_two.2 ⟨.nils, rfl, own_rs.2 (.inl ⟨rfl, rfl, rfl⟩)⟩) (by simp) (Sub.refl _)
  have hz : pqs s q j = [pX s (rdAll q) j, pY s (rdAll q) j] := by unfold pqs; rw [hp]; rfl
  have hf : fitsQ s q = true := by unfold pullOk at hp; simp at hp; exact hp.1
  obtain ⟨hs, hlen, hall⟩ := fitsQ_of hf
  obtain ⟨hzo, _⟩ := pqs_ok s q j
  rw [hz] at hzo
  rw [hz, hf]
  simp
  refine callP_ro (pull_ro s (rdAll q) j hs (rdAll_ok q) (by simpa using hlen)) ?_
  generalize pX s (rdAll q) j = x at *
  generalize pY s (rdAll q) j = y at *
  simp
  intro g2 hg2 hb2
  refine callP_lend 1 (ys := [.sl (fvs [x, y])]) (by simp [frz, fvs, Int.not_lt.2 hg2, show List.range 2 = [0, 1] from rfl]) (stores_nw [x, y] hzo (by simp)) (dV_sc _ _) fun v gs b' o f fr => ?_
  obtain ⟨w, rfl, ow, w1, w2⟩ := own_dV o
  simp
  exact retNW [w, .bool (allSome [x, y])] gs (by simp) o (fun x hx => by have := f x hx; simp [upd_apply] at this; exact this.2) (fun x y hy => new_keep f fr (by rw [upd_apply, if_neg (fun e => by rw [e, hb2] at hy; cases hy)]; exact hy))

theorem impl_PullOn_ro (s : Str) (q : List RT) (j : Int) (hj : s.js.length ≤ 140737488351232) (hm : s.ms.length ≤ 140737488351232) (hn : ∀ j, j ∈ s.js → j.name.size ≤ 140737488351232) (hq : fitQ q 1048576) : RO Tryz.prog 16 [.agg s.c, .sl (rv q), .int .i64 j] (.tup [.sl (rv (stQ (pqs s q j))), .bool (allSome (pqs s q j))]) := by
  have := ro_of_nw 3 (impl_PullOn_nw s q j hj hm hn hq) (dV_dep _ _ 0)
  rwa [dV_fz] at this
theorem mulC (r : RT) (c : Int) (hr : r.le 1048576) (hc : -100 ≤ c ∧ c ≤ 100) : RO Tryz.prog 54 [.agg r.c, .agg (ro (some (c : Rat))).c] (.agg (ro (op2 (· * ·) (rd r) (some (c : Rat)))).c) := by
  have ok : okQ (some (c : Rat)) := okQ_int (by omega)
  have h1 := ro_le ok
  have := RatMul_ro r (ro (some (c : Rat))) hr ⟨by omega, by omega⟩
  rwa [rd_ro ok] at this
theorem addC (x y : Option Rat) (hx : okQ x) (hy : okQ y) : RO Tryz.prog 53 [.agg (ro x).c, .agg (ro y).c] (.agg (ro (op2 (· + ·) x y)).c) := by
  have h1 := ro_le hx
  have h2 := ro_le hy
  have := RatAdd_ro (ro x) (ro y) ⟨by omega, by omega⟩ ⟨by omega, by omega⟩
  rwa [rd_ro hx, rd_ro hy] at this
theorem okC (x : Option Rat) (hx : okQ x) : RO Tryz.prog 55 [.agg (ro x).c] (.bool x.isSome) := by
  have h1 := ro_le hx
  have := spec_RatOk_ro (ro x) (by omega) (by omega)
  rwa [ok_ro hx] at this

theorem spec_PullOn_ro (s : Str) (q : List RT) (j : Int) (hj : s.js.length ≤ 140737488351232) (hm0 : s.ms.length ≤ 140737488351232) (hn : ∀ j, j ∈ s.js → j.name.size ≤ 140737488351232) (hq : fitQ q 1048576) : RO Tryz.prog 13 [.agg s.c, .sl (rv q), .int .i64 j] (.tup [.sl (rv (stQ (pqs s q j))), .bool (allSome (pqs s q j))]) := by
  have w0 := RatFromInt_ro 0 (by omega)
  rw [zero_cast] at w0
  refine ro_of2 Tryz.func13 rfl rfl (by rw [Tryz.ntmps13]; simp) fun bl => ?_
  rw [Tryz.ntmps13, Tryz.results13]
  refine AW_run ?_
  simp [Str.c]
  intro g hg0 hg
  refine AW_way [(1, .sl (rv q)), (2, .int .i64 j), (3, .loc g 2 0 0), (6, .nils), (7, .bool false)] _ (upd bl g (some ⟨2, [s.c]⟩)) 26 (.bool (!pullOk s q j)) (upd bl g (some ⟨2, [s.c]⟩)) ⟨rfl, by simp, sub_eq (by simp [Str.c])⟩ rfl ?_ ?_
  · simp [Str.c]
    refine callP_ro (l14Fits_ro s q hj hm0 hn hq) ?_
    cases hf : fitsQ s q
    · simp [pullOk, hf]
    simp [Str.c]
    rw [i64_in (by omega) (by omega)]
    refine callP_ro (l01In_ro _ _ _) ?_
    simp [pullOk, hf]
    rw [Bool.eq_iff_iff]
    simp
    omega
  cases hp : pullOk s q j
  · have hz : pqs s q j = [none] := by unfold pqs; rw [hp]; rfl
    rw [hz]
    simp
    exact retRO [.nils, .bool false] 1 (by simp) (by simp [frz, V.cl, stQ, allSome, rv]) (by simp [hg])
  have hz : pqs s q j = [pX s (rdAll q) j, pY s (rdAll q) j] := by unfold pqs; rw [hp]; rfl
  have hf : fitsQ s q = true := by unfold pullOk at hp; simp at hp; exact hp.1
  obtain ⟨hs, hlen, hall⟩ := fitsQ_of hf
  have hms := hs.nm
  rw [hz]
  simp
  refine callP_ro w0 ?_
  simp [RT.c]
  intro g8 hg8
  intros
  have h8g : ¬ g8 = g := by assumption
  have hb8 : bl g8 = none := by assumption
  try simp [h8g, Ne.symm h8g]
  refine callP_ro w0 ?_
  simp [RT.c]
  intro g9 hg9
  intros
  have h9g : ¬ g9 = g := by assumption
  have h98 : ¬ g9 = g8 := by assumption
  have hb9 : bl g9 = none := by assumption
  try simp [h8g, Ne.symm h8g, h9g, Ne.symm h9g, h98, Ne.symm h98, Str.c]
  refine AW_for (fun i : Nat => [(1, .sl (rv q)), (2, .int .i64 j), (3, .loc g 2 0 0), (8, .loc g8 3 0 0), (9, .loc g9 3 0 0), (30, .sl (mv s.ms)), (31, .int .i64 s.ms.length), (32, .int .i64 i), (6, .nils), (7, .bool false)]) (fun i => upd (upd (upd bl g (some ⟨2, [s.c]⟩)) g8 (some ⟨3, [(ro (pTo (eqX s j) s (rdAll q) j i)).c]⟩)) g9 (some ⟨3, [(ro (pTo (eqY s j) s (rdAll q) j i)).c]⟩)) (fun i => i ≤ s.ms.length) (fun i => s.ms.length - i) _ 0 (Nat.zero_le _) ⟨rfl, by simp, sub_eq (by simp [Str.c, pTo, RT.c])⟩ ?_
  intro i hi
  refine AW_run ?_
  simp
  refine ⟨fun h => ?_, fun h => ?_⟩
  · have h2 : i < q.length := by omega
    have hm := mat_at s i h
    have hv := l12Vector_ro s i hs (by omega) (by omega)
    rw [hm] at hv
    have hle := vxy_le hs (List.getElem_mem h)
    have hqi : (rdAll q).getD i none = rd q[i] := by simp [rdAll, h2]
    simp [h, Mb.c, h8g, Ne.symm h8g, h9g, Ne.symm h9g, h98, Ne.symm h98]
    intro gk hgk
    intros
    have hkg : ¬ gk = g := by assumption
    have hk8 : ¬ gk = g8 := by assumption
    have hk9 : ¬ gk = g9 := by assumption
    have hk2 := And.intro hkg (And.intro hk8 hk9)
    try simp [Str.c, h8g, Ne.symm h8g, h9g, Ne.symm h9g, h98, Ne.symm h98, hkg, Ne.symm hkg, hk8, Ne.symm hk8, hk9, Ne.symm hk9]
    refine callP_ro hv ?_
    try simp [h8g, Ne.symm h8g, h9g, Ne.symm h9g, h98, Ne.symm h98, hkg, Ne.symm hkg, hk8, Ne.symm hk8, hk9, Ne.symm hk9]
    refine ⟨fun hja => ?_, fun hja => ⟨fun hjb => ?_, fun hjb => ?_⟩⟩
    · obtain ⟨cx, hcx⟩ : ∃ c : Int, vx s s.ms[i] = c := ⟨_, rfl⟩
      obtain ⟨cy, hcy⟩ : ∃ c : Int, vy s s.ms[i] = c := ⟨_, rfl⟩
      have ex : eqX s j s.ms[i] = cx := by unfold eqX; rw [if_pos hja]; exact hcx
      have ey : eqY s j s.ms[i] = cy := by unfold eqY; rw [if_pos hja]; exact hcy
      have bx : -100 ≤ cx ∧ cx ≤ 100 := by omega
      have by_ : -100 ≤ cy ∧ cy ≤ 100 := by omega
      have e1 : pTo (eqX s j) s (rdAll q) j (i + 1) = op2 (· + ·) (pTo (eqX s j) s (rdAll q) j i) (op2 (· * ·) (rd q[i]) (some (cx : Rat))) := by
        rw [pTo, hm, if_pos (.inl hja), hqi, ex]
      have e2 : pTo (eqY s j) s (rdAll q) j (i + 1) = op2 (· + ·) (pTo (eqY s j) s (rdAll q) j i) (op2 (· * ·) (rd q[i]) (some (cy : Rat))) := by
        rw [pTo, hm, if_pos (.inl hja), hqi, ey]
      have okx := pTo_ok (eqX s j) s (rdAll q) j i
      have oky := pTo_ok (eqY s j) s (rdAll q) j i
      generalize pTo (eqX s j) s (rdAll q) j i = px at *
      generalize pTo (eqY s j) s (rdAll q) j i = py at *
      have hIX := RatFromInt_ro cx (by omega)
      have hIY := RatFromInt_ro cy (by omega)
      have hMX := mulC q[i] cx (hq.2 _ (List.getElem_mem h2)) (by omega)
      have hMY := mulC q[i] cy (hq.2 _ (List.getElem_mem h2)) (by omega)
      have hAX := addC px (op2 (· * ·) (rd q[i]) (some (cx : Rat))) okx (okQ_op2 _ _ _)
      have hAY := addC py (op2 (· * ·) (rd q[i]) (some (cy : Rat))) oky (okQ_op2 _ _ _)
      rw [← e1] at hAX
      rw [← e2] at hAY
      rw [hcx, hcy]
      refine AW_mixedT mixedO [0, 1, 2, 3, 4, 5, 6, 7, 8] 1 9 (by kernel_rfl) ?_
      simp [h2, RT.c, h8g, Ne.symm h8g, h9g, Ne.symm h9g, h98, Ne.symm h98, hkg, Ne.symm hkg, hk8, Ne.symm hk8, hk9, Ne.symm hk9]
      skip
      refine hcQ_ro hIX ?_
      simp [RT.c, h8g, Ne.symm h8g, h9g, Ne.symm h9g, h98, Ne.symm h98, hkg, Ne.symm hkg, hk8, Ne.symm hk8, hk9, Ne.symm hk9]
      refine hcQ_ro hMX ?_
      simp [RT.c, h8g, Ne.symm h8g, h9g, Ne.symm h9g, h98, Ne.symm h98, hkg, Ne.symm hkg, hk8, Ne.symm hk8, hk9, Ne.symm hk9]
      refine hcQ_ro hAX ?_
      simp [RT.c, h8g, Ne.symm h8g, h9g, Ne.symm h9g, h98, Ne.symm h98, hkg, Ne.symm hkg, hk8, Ne.symm hk8, hk9, Ne.symm hk9]
      refine DAny_last (i := 9) (by kernel_rfl) rfl rfl rfl ?_
      simp [RT.c, h8g, Ne.symm h8g, h9g, Ne.symm h9g, h98, Ne.symm h98, hkg, Ne.symm hkg, hk8, Ne.symm hk8, hk9, Ne.symm hk9]
      refine DAny_done (by kernel_rfl) ?_
      try simp
      refine AW_mixedT mixedO [0, 1, 2, 3, 4, 5, 6, 7, 8] 1 9 (by kernel_rfl) ?_
      simp [h2, RT.c, h8g, Ne.symm h8g, h9g, Ne.symm h9g, h98, Ne.symm h98, hkg, Ne.symm hkg, hk8, Ne.symm hk8, hk9, Ne.symm hk9]
      skip
      refine hcQ_ro hIY ?_
      simp [RT.c, h8g, Ne.symm h8g, h9g, Ne.symm h9g, h98, Ne.symm h98, hkg, Ne.symm hkg, hk8, Ne.symm hk8, hk9, Ne.symm hk9]
      refine hcQ_ro hMY ?_
      simp [RT.c, h8g, Ne.symm h8g, h9g, Ne.symm h9g, h98, Ne.symm h98, hkg, Ne.symm hkg, hk8, Ne.symm hk8, hk9, Ne.symm hk9]
      refine hcQ_ro hAY ?_
      simp [RT.c, h8g, Ne.symm h8g, h9g, Ne.symm h9g, h98, Ne.symm h98, hkg, Ne.symm hkg, hk8, Ne.symm hk8, hk9, Ne.symm hk9]
      refine DAny_last (i := 9) (by kernel_rfl) rfl rfl rfl ?_
      simp [RT.c, h8g, Ne.symm h8g, h9g, Ne.symm h9g, h98, Ne.symm h98, hkg, Ne.symm hkg, hk8, Ne.symm hk8, hk9, Ne.symm hk9]
      refine DAny_done (by kernel_rfl) ?_
      try simp
      simp (disch := omega) [i64_in, loopQ_normal]
      refine ⟨i + 1, by omega, by omega, rfl, by simp, by intro z b hz; simp only [upd_apply] at hz ⊢; grind⟩
    · obtain ⟨cx, hcx⟩ : ∃ c : Int, -vx s s.ms[i] = c := ⟨_, rfl⟩
      obtain ⟨cy, hcy⟩ : ∃ c : Int, -vy s s.ms[i] = c := ⟨_, rfl⟩
      have ex : eqX s j s.ms[i] = cx := by unfold eqX; rw [if_neg hja, if_pos hjb]; exact hcx
      have ey : eqY s j s.ms[i] = cy := by unfold eqY; rw [if_neg hja, if_pos hjb]; exact hcy
      have bx : -100 ≤ cx ∧ cx ≤ 100 := by omega
      have by_ : -100 ≤ cy ∧ cy ≤ 100 := by omega
      have e1 : pTo (eqX s j) s (rdAll q) j (i + 1) = op2 (· + ·) (pTo (eqX s j) s (rdAll q) j i) (op2 (· * ·) (rd q[i]) (some (cx : Rat))) := by
        rw [pTo, hm, if_pos (.inr hjb), hqi, ex]
      have e2 : pTo (eqY s j) s (rdAll q) j (i + 1) = op2 (· + ·) (pTo (eqY s j) s (rdAll q) j i) (op2 (· * ·) (rd q[i]) (some (cy : Rat))) := by
        rw [pTo, hm, if_pos (.inr hjb), hqi, ey]
      have okx := pTo_ok (eqX s j) s (rdAll q) j i
      have oky := pTo_ok (eqY s j) s (rdAll q) j i
      generalize pTo (eqX s j) s (rdAll q) j i = px at *
      generalize pTo (eqY s j) s (rdAll q) j i = py at *
      have hIX := RatFromInt_ro cx (by omega)
      have hIY := RatFromInt_ro cy (by omega)
      have hMX := mulC q[i] cx (hq.2 _ (List.getElem_mem h2)) (by omega)
      have hMY := mulC q[i] cy (hq.2 _ (List.getElem_mem h2)) (by omega)
      have hAX := addC px (op2 (· * ·) (rd q[i]) (some (cx : Rat))) okx (okQ_op2 _ _ _)
      have hAY := addC py (op2 (· * ·) (rd q[i]) (some (cy : Rat))) oky (okQ_op2 _ _ _)
      rw [← e1] at hAX
      rw [← e2] at hAY
      have wx : IntKind.i64.wrap (-vx s s.ms[i]) = cx := by rw [i64_in (by omega) (by omega)]; exact hcx
      have wy : IntKind.i64.wrap (-vy s s.ms[i]) = cy := by rw [i64_in (by omega) (by omega)]; exact hcy
      refine AW_mixedT mixedO [0, 1, 2, 3, 4, 5, 6, 7, 8, 9] 1 10 (by kernel_rfl) ?_
      simp [h2, RT.c, h8g, Ne.symm h8g, h9g, Ne.symm h9g, h98, Ne.symm h98, hkg, Ne.symm hkg, hk8, Ne.symm hk8, hk9, Ne.symm hk9]
      rw [wx]
      refine hcQ_ro hIX ?_
      simp [RT.c, h8g, Ne.symm h8g, h9g, Ne.symm h9g, h98, Ne.symm h98, hkg, Ne.symm hkg, hk8, Ne.symm hk8, hk9, Ne.symm hk9]
      refine hcQ_ro hMX ?_
      simp [RT.c, h8g, Ne.symm h8g, h9g, Ne.symm h9g, h98, Ne.symm h98, hkg, Ne.symm hkg, hk8, Ne.symm hk8, hk9, Ne.symm hk9]
      refine hcQ_ro hAX ?_
      simp [RT.c, h8g, Ne.symm h8g, h9g, Ne.symm h9g, h98, Ne.symm h98, hkg, Ne.symm hkg, hk8, Ne.symm hk8, hk9, Ne.symm hk9]
      refine DAny_last (i := 10) (by kernel_rfl) rfl rfl rfl ?_
      simp [RT.c, h8g, Ne.symm h8g, h9g, Ne.symm h9g, h98, Ne.symm h98, hkg, Ne.symm hkg, hk8, Ne.symm hk8, hk9, Ne.symm hk9]
      refine DAny_done (by kernel_rfl) ?_
      try simp
      refine AW_mixedT mixedO [0, 1, 2, 3, 4, 5, 6, 7, 8, 9] 1 10 (by kernel_rfl) ?_
      simp [h2, RT.c, h8g, Ne.symm h8g, h9g, Ne.symm h9g, h98, Ne.symm h98, hkg, Ne.symm hkg, hk8, Ne.symm hk8, hk9, Ne.symm hk9]
      rw [wy]
      refine hcQ_ro hIY ?_
      simp [RT.c, h8g, Ne.symm h8g, h9g, Ne.symm h9g, h98, Ne.symm h98, hkg, Ne.symm hkg, hk8, Ne.symm hk8, hk9, Ne.symm hk9]
      refine hcQ_ro hMY ?_
      simp [RT.c, h8g, Ne.symm h8g, h9g, Ne.symm h9g, h98, Ne.symm h98, hkg, Ne.symm hkg, hk8, Ne.symm hk8, hk9, Ne.symm hk9]
      refine hcQ_ro hAY ?_
      simp [RT.c, h8g, Ne.symm h8g, h9g, Ne.symm h9g, h98, Ne.symm h98, hkg, Ne.symm hkg, hk8, Ne.symm hk8, hk9, Ne.symm hk9]
      refine DAny_last (i := 10) (by kernel_rfl) rfl rfl rfl ?_
      simp [RT.c, h8g, Ne.symm h8g, h9g, Ne.symm h9g, h98, Ne.symm h98, hkg, Ne.symm hkg, hk8, Ne.symm hk8, hk9, Ne.symm hk9]
      refine DAny_done (by kernel_rfl) ?_
      try simp
      simp (disch := omega) [i64_in, loopQ_normal]
      refine ⟨i + 1, by omega, by omega, rfl, by simp, by intro z b hz; simp only [upd_apply] at hz ⊢; grind⟩
    · have e1 : pTo (eqX s j) s (rdAll q) j (i + 1) = pTo (eqX s j) s (rdAll q) j i := by rw [pTo, hm, if_neg]; rintro (h | h); exact hja h; exact hjb h
      have e2 : pTo (eqY s j) s (rdAll q) j (i + 1) = pTo (eqY s j) s (rdAll q) j i := by rw [pTo, hm, if_neg]; rintro (h | h); exact hja h; exact hjb h
      simp (disch := omega) [i64_in, loopQ_normal]
      refine ⟨i + 1, by omega, by omega, rfl, by simp, by rw [e1, e2]; intro z b hz; simp only [upd_apply] at hz ⊢; grind⟩
  · have hi2 : i = s.ms.length := by omega
    subst hi2
    have okx := pTo_ok (eqX s j) s (rdAll q) j s.ms.length
    have oky := pTo_ok (eqY s j) s (rdAll q) j s.ms.length
    unfold pX pY
    generalize pTo (eqX s j) s (rdAll q) j s.ms.length = px at *
    generalize pTo (eqY s j) s (rdAll q) j s.ms.length = py at *
    refine AW_way [(8, .loc g8 3 0 0), (9, .loc g9 3 0 0), (6, .nils), (7, .bool false)] _ (upd (upd (upd bl g (some ⟨2, [s.c]⟩)) g8 (some ⟨3, [(ro px).c]⟩)) g9 (some ⟨3, [(ro py).c]⟩)) 98 (.bool (!allSome [px, py])) (upd (upd (upd bl g (some ⟨2, [s.c]⟩)) g8 (some ⟨3, [(ro px).c]⟩)) g9 (some ⟨3, [(ro py).c]⟩)) ⟨rfl, by simp, Sub.refl _⟩ rfl ?_ ?_
    · simp [RT.c, h8g, Ne.symm h8g, h9g, Ne.symm h9g, h98, Ne.symm h98]
      refine callP_ro (okC px okx) ?_
      simp [RT.c, h8g, Ne.symm h8g, h9g, Ne.symm h9g, h98, Ne.symm h98]
      refine ⟨fun h1 => ?_, fun h1 => ?_⟩
      · simp [allSome, h1]
      · refine callP_ro (okC py oky) ?_
        simp [allSome, h1]
    cases ha : allSome [px, py]
    · have hst : stQ [px, py] = [] := by unfold stQ; rw [ha]; rfl
      rw [hst]
      simp
      exact retRO [.nils, .bool false] 1 (by simp) (by simp [frz, V.cl, rv]) (by intro z b hz; simp only [upd_apply] at hz ⊢; grind)
    · have hst : stQ [px, py] = [ro px, ro py] := by unfold stQ; rw [ha]; rfl
      rw [hst]
      simp [RT.c, h8g, Ne.symm h8g, h9g, Ne.symm h9g, h98, Ne.symm h98]
      intro g4 hg4
      intros
      have hb4 : bl g4 = none := by assumption
      refine retRO [.lsl g4 3 0 2, .bool true] 2 (by simp) (frz_tup2 (frz_slice (sz := 3) (n := 2) hg4 hb4 (els := rv [ro px, ro py]) ?_ (by simp) (rv_cl _))) (by intro z b hz; simp only [upd_apply] at hz ⊢; grind)
      simp [rv, RT.c, show List.range 2 = [0, 1] from rfl]

end Go.Proofs.YthhjmaianlmfpaaGreat.Vm

namespace Go.Proofs.YthhjmaianlmfpaaGreat.Vm
open Go Go.Proofs
set_option linter.unusedSimpArgs false
set_option linter.unusedVariables false

/-! ### Copies that are the call's own -/

theorem jv_clen (ns : List J) : ∀ r, r ∈ jv ns → r.length = 4 := by
  intro r hr
  obtain ⟨n, _, rfl⟩ := List.mem_map.1 hr
  rfl
theorem mv_clen (ns : List Mb) : ∀ r, r ∈ mv ns → r.length = 3 := by
  intro r hr
  obtain ⟨n, _, rfl⟩ := List.mem_map.1 hr
  rfl
theorem jv_ow (ns : List J) : (jv ns).all (fun r => r.all V.ow) = true := by simp [jv, J.c, V.ow]
theorem mv_ow (ns : List Mb) : (mv ns).all (fun r => r.all V.ow) = true := by simp [mv, Mb.c, V.ow]
theorem own_jv {bl : Int → Option Blk} {ns : List J} {v : V} {gs : List Int} : OwnD bl (fl 4 (jv ns)) v gs ↔ (ns = [] ∧ v = .nils ∧ gs = []) ∨ ∃ g, v = .lsl g 4 0 ns.length ∧ gs = [g] ∧ bl g = some ⟨4, jv ns⟩ ∧ (g < 0 → ns = []) := by
  rw [own_fl (jv_cl ns) (jv_clen ns)]
  simp [jv]
theorem own_mv {bl : Int → Option Blk} {ns : List Mb} {v : V} {gs : List Int} : OwnD bl (fl 3 (mv ns)) v gs ↔ (ns = [] ∧ v = .nils ∧ gs = []) ∨ ∃ g, v = .lsl g 3 0 ns.length ∧ gs = [g] ∧ bl g = some ⟨3, mv ns⟩ ∧ (g < 0 → ns = []) := by
  rw [own_fl (mv_cl ns) (mv_clen ns)]
  simp [mv]

theorem toJointS_nw (a : List J) (ha : a.length ≤ 1048576) : NW Tryz.prog 56 [.sl (jv a)] (fl 4 (jv a)) := by
  refine nw_of Tryz.func56 rfl rfl (by rw [Tryz.ntmps56]; simp) fun bl => ?_
  rw [Tryz.ntmps56, Tryz.results56]
  refine AW_run ?_
  simp
  refine ⟨by omega, by unfold maxLen; omega, fun g hg0 hg => ?_⟩
  refine AW_for (fun i : Nat => [(0, .sl (jv a)), (3, .lsl g 4 0 a.length), (4, .int .i64 i)]) (fun i => upd bl g (some ⟨4, part (jv a) [.str { data := #[] }, .int .i64 0, .int .i64 0, .bool false] i⟩)) (fun i => i ≤ a.length) (fun i => a.length - i) _ 0 (Nat.zero_le _) ⟨rfl, by simp, sub_eq (by simp)⟩ ?_
  intro i hi
  refine AW_run ?_
  simp
  refine ⟨fun h => ?_, fun h => ?_⟩
  · have hi' : i < (jv a).length := by simpa using h
    simp [h]
    refine callP_ro (toJoint_ro a[i]) ?_
    simp (disch := omega) [h, part_get _ _ _ hi', i64_in, loopQ_normal, J.c]
    refine ⟨i + 1, by omega, by omega, rfl, by simp, sub_eq ?_⟩
    simp only [upd_idem]
    rw [part_set _ _ _ hi']
    simp [J.c]
  · refine retNW [.lsl g 4 0 a.length] [g] (by simp) ?_ (by simpa using hg) (by simp [hg])
    rw [part_all _ _ _ (by simpa using h)]
    exact own_jv.2 (.inr ⟨g, rfl, rfl, by simp, by omega⟩)

theorem toMemberS_nw (a : List Mb) (ha : a.length ≤ 1048576) : NW Tryz.prog 57 [.sl (mv a)] (fl 3 (mv a)) := by
  refine nw_of Tryz.func57 rfl rfl (by rw [Tryz.ntmps57]; simp) fun bl => ?_
  rw [Tryz.ntmps57, Tryz.results57]
  refine AW_run ?_
  simp
  refine ⟨by omega, by unfold maxLen; omega, fun g hg0 hg => ?_⟩
  refine AW_for (fun i : Nat => [(0, .sl (mv a)), (3, .lsl g 3 0 a.length), (4, .int .i64 i)]) (fun i => upd bl g (some ⟨3, part (mv a) [.int .i64 0, .int .i64 0, .int .i64 0] i⟩)) (fun i => i ≤ a.length) (fun i => a.length - i) _ 0 (Nat.zero_le _) ⟨rfl, by simp, sub_eq (by simp)⟩ ?_
  intro i hi
  refine AW_run ?_
  simp
  refine ⟨fun h => ?_, fun h => ?_⟩
  · have hi' : i < (mv a).length := by simpa using h
    simp [h]
    refine callP_ro (toMember_ro a[i]) ?_
    simp (disch := omega) [h, part_get _ _ _ hi', i64_in, loopQ_normal, Mb.c]
    refine ⟨i + 1, by omega, by omega, rfl, by simp, sub_eq ?_⟩
    simp only [upd_idem]
    rw [part_set _ _ _ hi']
    simp [Mb.c]
  · refine retNW [.lsl g 3 0 a.length] [g] (by simp) ?_ (by simpa using hg) (by simp [hg])
    rw [part_all _ _ _ (by simpa using h)]
    exact own_mv.2 (.inr ⟨g, rfl, rfl, by simp, by omega⟩)

/-- A structure of the call's own. -/
def dStr (s : Str) : List D := [fl 4 (jv s.js), fl 3 (mv s.ms)]

theorem toStructure_nw (s : Str) (hj : s.js.length ≤ 1048576) (hm : s.ms.length ≤ 1048576) : NW Tryz.prog 14 [.agg s.c] (.a (dStr s)) := by
  refine nw_of Tryz.func14 rfl rfl (by rw [Tryz.ntmps14]; simp) fun bl => ?_
  rw [Tryz.ntmps14, Tryz.results14]
  refine AW_run ?_
  simp [Str.c]
  intro g1 hg1 hb1 g2 hg2 h21 hb2
  intro g3 hg3 h32 h31 hb3
  simp [h21, h31, h32, Ne.symm h21, Ne.symm h31, Ne.symm h32]
  refine callP_new (toJointS_nw _ hj) fun v1 gs1 b1 o1 f1 fr1 => ?_
  obtain ⟨c1, c2⟩ := o1.one
  have e1 : ∀ g, g ∈ gs1 → g ≠ g1 ∧ g ≠ g2 ∧ g ≠ g3 ∧ bl g = none := fun g hg => by have := f1 g hg; simp [upd_apply] at this; grind
  have n1 : b1 g1 = _ := fr1 g1 fun h => (e1 g1 h).1 rfl
  have n2 : b1 g2 = _ := fr1 g2 fun h => (e1 g2 h).2.1 rfl
  have n3 : b1 g3 = _ := fr1 g3 fun h => (e1 g3 h).2.2.1 rfl
  simp [h21, h31, h32, Ne.symm h21, Ne.symm h31, Ne.symm h32] at n1 n2 n3
  simp [h21, h31, h32, Ne.symm h21, Ne.symm h31, Ne.symm h32, n1, n2, n3, c1, c2]
  refine callP_new (toMemberS_nw _ hm) fun v2 gs2 b2 o2 f2 fr2 => ?_
  obtain ⟨d1, d2⟩ := o2.one
  have e2 : ∀ g, g ∈ gs2 → g ≠ g3 ∧ b1 g = none := fun g hg => by have := f2 g hg; simp [upd_apply] at this; exact this
  have e3 : ∀ g, g ∈ gs2 → g ∉ gs1 := fun g hg hg1 => by
    obtain ⟨b, hb⟩ := o1.has g hg1
    rw [(e2 g hg).2] at hb; cases hb
  have e4 : ∀ g, g ∈ gs2 → g ≠ g2 := fun g hg h => by have := (e2 g hg).2; rw [h, n2] at this; cases this
  have m1 : b2 g1 = _ := fr2 g1 fun h => by have := (e2 g1 h).2; rw [n1] at this; cases this
  have m2 : b2 g2 = _ := fr2 g2 fun h => by have := (e2 g2 h).2; rw [n2] at this; cases this
  have m3 : b2 g3 = _ := fr2 g3 fun h => (e2 g3 h).1 rfl
  simp [h21, h31, h32, Ne.symm h21, Ne.symm h31, Ne.symm h32, n1, n2] at m1 m2 m3
  simp [h21, h31, h32, Ne.symm h21, Ne.symm h31, Ne.symm h32, m1, m2, m3, d1, d2, c1]
  have k1 : OwnD b2 (fl 4 (jv s.js)) v1 gs1 := o1.frame fun g hg => by
    rw [fr2 g (fun h => e3 g h hg)]
    simp [upd_apply, (e1 g hg).2.2.1]
  have hsub : Sub bl b2 := fun g b hb => by
    have z1 : g ≠ g1 := fun h => by rw [h, hb1] at hb; cases hb
    have z2 : g ≠ g2 := fun h => by rw [h, hb2] at hb; cases hb
    have z3 : g ≠ g3 := fun h => by rw [h, hb3] at hb; cases hb
    have hn1 : g ∉ gs1 := fun h => by rw [(e1 g h).2.2.2] at hb; cases hb
    have hb1 : b1 g = some b := by rw [fr1 g hn1]; simp [upd_apply, z1, z2, z3, hb]
    have hn2 : g ∉ gs2 := fun h => by rw [(e2 g h).2] at hb1; cases hb1
    rw [fr2 g hn2]
    simp [upd_apply, z3, hb1]
  refine retNW [.agg [v1, v2]] (gs1 ++ gs2) ?_ ?_ ?_ ?_
  · simp [h21, h31, h32, Ne.symm h21, Ne.symm h31, Ne.symm h32, m1, m2, m3]
  · show OwnD _ (.a (dStr s)) (.agg [v1, v2]) (gs1 ++ gs2)
    rw [OwnD]
    refine ⟨_, rfl, own_pair.2 ⟨v1, v2, gs1, gs2, rfl, rfl, fun g h1 h2 => e3 g h2 h1, ?_, ?_⟩⟩
    · exact k1.frame fun g hg => by simp [upd_apply, (e1 g hg).2.1, (e1 g hg).2.2.1]
    · exact o2.frame fun g hg => by simp [upd_apply, (e2 g hg).1, e4 g hg]
  · intro g hg
    rcases List.mem_append.1 hg with hg | hg
    · exact (e1 g hg).2.2.2
    · have h2 := (e2 g hg).2
      rw [fr1 g (e3 g hg)] at h2
      simp [upd_apply] at h2
      grind
  · simp [hb2, hb3]; exact hsub

/-- The names and sizes of a structure fit. -/
structure Str.sz (s : Str) : Prop where
  js : s.js.length ≤ 140737488351232
  ms : s.ms.length ≤ 140737488351232
  nm : ∀ j, j ∈ s.js → j.name.size ≤ 140737488351232
theorem frz_str {bl : Int → Option Blk} {s : Str} {vs : List V} {gs : List Int} (h : OwnL bl (dStr s) vs gs) (n : Nat) : frz bl (n + 2) (.agg vs) = some (.agg s.c) := by
  have h1 : OwnD bl (.a (dStr s)) (.agg vs) gs := by rw [OwnD]; exact ⟨vs, rfl, h⟩
  rw [h1.frz (n := n + 2) (by rw [D.dep]; refine ⟨by omega, ?_⟩; simp [dStr, D.depL, fl_dep])]
  simp [D.fz, dStr, D.fzL, Str.c]
theorem dStr_fz (s : Str) : (D.a (dStr s)).fz = .agg s.c := by simp [D.fz, dStr, D.fzL, Str.c]
theorem dStr_dep (s : Str) : (D.a (dStr s)).dep 2 := by
  rw [D.dep]; refine ⟨by omega, ?_⟩; simp [dStr, D.depL, fl_dep]
theorem dStr_sc (s : Str) : (D.a (dStr s)).sc = true := by
  simp [D.sc, dStr, D.scL, fl_sc (jv_ow _), fl_sc (mv_ow _)]
theorem own_agg {bl : Int → Option Blk} {s : Str} {v : V} {gs : List Int} (h : OwnD bl (.a (dStr s)) v gs) : ∃ v1 v2, v = .agg [v1, v2] ∧ OwnL bl (dStr s) [v1, v2] gs ∧ v1.one = true ∧ v1.cells = [v1] ∧ v2.one = true ∧ v2.cells = [v2] := by
  rw [OwnD] at h
  obtain ⟨vs, rfl, o⟩ := h
  obtain ⟨v1, v2, ga, gb, rfl, rfl, hd, o1, o2⟩ := own_pair.1 o
  exact ⟨v1, v2, rfl, o, o1.one.1, o1.one.2, o2.one.1, o2.one.2⟩

end Go.Proofs.YthhjmaianlmfpaaGreat.Vm

namespace Go.Proofs.YthhjmaianlmfpaaGreat.Vm
open Go Go.Proofs
set_option linter.unusedSimpArgs false
set_option linter.unusedVariables false

/-! ### Texts of marks -/
def digs (k : Nat) (out : ByteArray) : ByteArray := if h : k = 0 then out else digs (k / 10) (toBytes [IntKind.u8.wrap (IntKind.i64.wrap (48 + (k : Int).tmod 10))] ++ out)
termination_by k
decreasing_by omega
def mtext (k : Nat) : ByteArray := if k = 0 then { data := #[109, 48] } else ({ data := #[109] } : ByteArray) ++ digs k { data := #[] }
theorem digs_step {k : Nat} (h : k ≠ 0) (out : ByteArray) : digs k out = digs (k / 10) (toBytes [IntKind.u8.wrap (IntKind.i64.wrap (48 + (k : Int).tmod 10))] ++ out) := by
  rw [digs, dif_neg h]
theorem digs_zero (out : ByteArray) : digs 0 out = out := by rw [digs, dif_pos rfl]

theorem markText_ro (k : Nat) (hk : k ≤ 4611686018427387904) : RO Tryz.prog 127 [.int .i64 k] (.str (mtext k)) := by
  refine ro_of2 Tryz.func127 rfl rfl (by rw [Tryz.ntmps127]; simp) fun bl => ?_
  rw [Tryz.ntmps127, Tryz.results127]
  refine AW_run ?_
  simp
  refine ⟨fun h => ?_, fun h => ?_⟩
  · exact retRO0 (by simp [mtext, h]) rfl rfl
  refine AW_for (fun p : Nat × ByteArray => [(0, .int .i64 p.1), (3, .str p.2)]) (fun _ => bl) (fun p => p.1 + p.2.size ≤ k ∧ digs p.1 p.2 = digs k { data := #[] }) (fun p => p.1) _ (k, { data := #[] }) ⟨by simp [ByteArray.size], rfl⟩ ⟨rfl, by simp, Sub.refl _⟩ ?_
  rintro ⟨n, out⟩ ⟨hn, hd⟩
  simp only at hn hd
  refine AW_run ?_
  simp
  refine ⟨fun h1 => ?_, fun h1 => ?_⟩
  · intro g hg0 hg
    have hsz : ∀ x, (toBytes [x]).size = 1 := fun x => rfl
    simp [cvtV, cvtS, elsV, Int.not_lt.2 hg0, bytesOf]
    have h2 := hsz (IntKind.u8.wrap (IntKind.i64.wrap (48 + (n : Int).tmod 10)))
    refine ⟨by omega, ?_⟩
    simp [loopQ_normal]
    refine ⟨n / 10, toBytes [IntKind.u8.wrap (IntKind.i64.wrap (48 + (n : Int).tmod 10))] ++ out, ⟨?_, ?_⟩, by omega, rfl, ?_, ?_⟩
    · rw [ByteArray.size_append, h2]; omega
    · rw [← hd]; exact (digs_step (by omega) out).symm
    · simp
      exact i64_in (by omega) (by omega)
    · simp [hg]
  · have : n = 0 := by omega
    subst this
    rw [digs_zero] at hd
    subst hd
    have h2 : ({ data := #[109] } : ByteArray).size = 1 := rfl
    simp only [h2]
    refine ⟨by omega, ?_⟩
    exact retRO0 (by simp [mtext, h]) rfl rfl

/-! ### Joints and members -/
def mkJ (k n : Nat) : List J := (List.range n).map fun i => ⟨mtext (k + 4 * i), (k + 4 * i + 1 : Nat), (k + 4 * i + 2 : Nat), ((k + 4 * i + 3 : Nat) : Int).tmod 3 == 0⟩
@[simp] theorem mkJ_length (k n : Nat) : (mkJ k n).length = n := by simp [mkJ]
@[simp] theorem mkJ_getE (k n i : Nat) (h : i < (mkJ k n).length) : (mkJ k n)[i] = ⟨mtext (k + 4 * i), (k + 4 * i + 1 : Nat), (k + 4 * i + 2 : Nat), ((k + 4 * i + 3 : Nat) : Int).tmod 3 == 0⟩ := by simp [mkJ]
def mkM (k n : Nat) : List Mb := (List.range n).map fun i => ⟨(k + 3 * i : Nat), (k + 3 * i + 1 : Nat), (k + 3 * i + 2 : Nat)⟩
@[simp] theorem mkM_length (k n : Nat) : (mkM k n).length = n := by simp [mkM]
@[simp] theorem mkM_getE (k n i : Nat) (h : i < (mkM k n).length) : (mkM k n)[i] = ⟨(k + 3 * i : Nat), (k + 3 * i + 1 : Nat), (k + 3 * i + 2 : Nat)⟩ := by simp [mkM]

theorem upd_self {α β : Type} [DecidableEq α] (f : α → β) (a : α) (b : β) (h : f a = b) : upd f a b = f := by
  funext x
  simp only [upd_apply]
  split
  · rename_i hx; subst hx; exact h.symm
  · rfl

theorem markJointS_cp {bl : Int → Option Blk} {K : V → (Int → Option Blk) → Prop} (xs : List J) (k : Nat) (v : V) (gs : List Int) (h : OwnD bl (fl 4 (jv xs)) v gs) (hk : k + 4 * xs.length ≤ 4611686018427387000)
    (hK : ∀ bl', OwnD bl' (fl 4 (jv (mkJ k xs.length))) v gs → (∀ g, g ∉ gs → bl' g = bl g) → K (.int .i64 (k + 4 * xs.length : Nat)) bl') : CallP Tryz.prog 64 [v, .int .i64 k] bl K := by
  refine callP_of Tryz.func64 rfl rfl (by rw [Tryz.ntmps64]; simp) ?_
  rw [Tryz.ntmps64, Tryz.results64]
  refine AW_run ?_
  rcases own_jv.1 h with ⟨rfl, rfl, rfl⟩ | ⟨g, rfl, rfl, hb, hg0⟩
  · simp
    refine AW_for (fun _ : Unit => [(0, .nils), (1, .int .i64 k), (5, .int .i64 0)]) (fun _ => bl) (fun _ => True) (fun _ => 0) _ () trivial ⟨rfl, by simp, Sub.refl _⟩ ?_
    intro _ _
    refine AW_run ?_
    simp
    rw [retK_ret]
    refine ⟨[.int .i64 k], by simp, ?_⟩
    have := hK bl (own_jv.2 (.inl ⟨rfl, rfl, rfl⟩)) (fun _ _ => rfl)
    simpa using this
  · simp
    refine AW_for (fun i : Nat => [(0, .lsl g 4 0 xs.length), (1, .int .i64 (k + 4 * i : Nat)), (5, .int .i64 i)]) (fun i => upd bl g (some ⟨4, over (jv (mkJ k xs.length)) (jv xs) i⟩)) (fun i => i ≤ xs.length) (fun i => xs.length - i) _ 0 (Nat.zero_le _) ⟨rfl, by simp, sub_eq ?_⟩ ?_
    · exact (upd_self _ _ _ (by simpa using hb)).symm
    intro i hi
    refine AW_run ?_
    simp
    refine ⟨fun h1 => ?_, fun h1 => ?_⟩
    · have h2 : i < (jv xs).length := by simpa using h1
      have hge : 0 ≤ g := by
        rcases Int.lt_or_le g 0 with hlt | hge
        · have := hg0 hlt; subst this; simp at h1
        · exact hge
      have hgi := over_get (jv (mkJ k xs.length)) (jv xs) i (by simp) h2
      have hgE := over_getE (jv (mkJ k xs.length)) (jv xs) i (by simp) h2
      have hol : i < (over (jv (mkJ k xs.length)) (jv xs) i).length := by rw [over_length _ _ _ (by simp)]; exact h2
      have hm := markText_ro (k + 4 * i) (by omega)
      simp at hm
      simp [h1]
      refine callP_ro hm ?_
      simp (disch := omega) [h1, hgi, i64_in, J.c, hol, List.getElem?_set_self, List.set_set]
      simp only [loopQ_normal]
      refine ⟨i + 1, by omega, by omega, rfl, by simp; omega, sub_eq ?_⟩
      simp only [upd_idem]
      rw [over_set _ _ _ (by simp) (by simpa using h1) _ (by simp [hgE, J.c, Int.add_assoc])]
    · have hi' : i = xs.length := by omega
      subst hi'
      rw [retK_ret]
      refine ⟨[.int .i64 (k + 4 * xs.length : Nat)], by simp, ?_⟩
      refine hK _ (own_jv.2 (.inr ⟨g, by simp, rfl, ?_, fun h => by have := hg0 h; subst this; rfl⟩)) (fun g' hg' => ?_)
      · simp; rw [over_all _ _ _ (by simp) (by simp)]
      · simp at hg'; simp [hg']

theorem markMemberS_cp {bl : Int → Option Blk} {K : V → (Int → Option Blk) → Prop} (xs : List Mb) (k : Nat) (v : V) (gs : List Int) (h : OwnD bl (fl 3 (mv xs)) v gs) (hk : k + 3 * xs.length ≤ 4611686018427387000)
    (hK : ∀ bl', OwnD bl' (fl 3 (mv (mkM k xs.length))) v gs → (∀ g, g ∉ gs → bl' g = bl g) → K (.int .i64 (k + 3 * xs.length : Nat)) bl') : CallP Tryz.prog 65 [v, .int .i64 k] bl K := by
  refine callP_of Tryz.func65 rfl rfl (by rw [Tryz.ntmps65]; simp) ?_
  rw [Tryz.ntmps65, Tryz.results65]
  refine AW_run ?_
  rcases own_mv.1 h with ⟨rfl, rfl, rfl⟩ | ⟨g, rfl, rfl, hb, hg0⟩
  · simp
    refine AW_for (fun _ : Unit => [(0, .nils), (1, .int .i64 k), (5, .int .i64 0)]) (fun _ => bl) (fun _ => True) (fun _ => 0) _ () trivial ⟨rfl, by simp, Sub.refl _⟩ ?_
    intro _ _
    refine AW_run ?_
    simp
    rw [retK_ret]
    refine ⟨[.int .i64 k], by simp, ?_⟩
    have := hK bl (own_mv.2 (.inl ⟨rfl, rfl, rfl⟩)) (fun _ _ => rfl)
    simpa using this
  · simp
    refine AW_for (fun i : Nat => [(0, .lsl g 3 0 xs.length), (1, .int .i64 (k + 3 * i : Nat)), (5, .int .i64 i)]) (fun i => upd bl g (some ⟨3, over (mv (mkM k xs.length)) (mv xs) i⟩)) (fun i => i ≤ xs.length) (fun i => xs.length - i) _ 0 (Nat.zero_le _) ⟨rfl, by simp, sub_eq ?_⟩ ?_
    · exact (upd_self _ _ _ (by simpa using hb)).symm
    intro i hi
    refine AW_run ?_
    simp
    refine ⟨fun h1 => ?_, fun h1 => ?_⟩
    · have h2 : i < (mv xs).length := by simpa using h1
      have hge : 0 ≤ g := by
        rcases Int.lt_or_le g 0 with hlt | hge
        · have := hg0 hlt; subst this; simp at h1
        · exact hge
      have hgi := over_get (mv (mkM k xs.length)) (mv xs) i (by simp) h2
      have hgE := over_getE (mv (mkM k xs.length)) (mv xs) i (by simp) h2
      have hol : i < (over (mv (mkM k xs.length)) (mv xs) i).length := by rw [over_length _ _ _ (by simp)]; exact h2
      simp (disch := omega) [h1, hgi, i64_in, Mb.c, hol, List.getElem?_set_self, List.set_set]
      simp only [loopQ_normal]
      refine ⟨i + 1, by omega, by omega, rfl, by simp; omega, sub_eq ?_⟩
      simp only [upd_idem]
      rw [over_set _ _ _ (by simp) (by simpa using h1) _ (by simp [hgE, Mb.c, Int.add_assoc])]
    · have hi' : i = xs.length := by omega
      subst hi'
      rw [retK_ret]
      refine ⟨[.int .i64 (k + 3 * xs.length : Nat)], by simp, ?_⟩
      refine hK _ (own_mv.2 (.inr ⟨g, by simp, rfl, ?_, fun h => by have := hg0 h; subst this; rfl⟩)) (fun g' hg' => ?_)
      · simp; rw [over_all _ _ _ (by simp) (by simp)]
      · simp at hg'; simp [hg']

/-- The marks of a structure from k on. -/
def mkS (k : Nat) (s : Str) : Str := ⟨mkJ k s.js.length, mkM (k + 4 * s.js.length) s.ms.length⟩
def mkN (k : Nat) (s : Str) : Nat := k + 4 * s.js.length + 3 * s.ms.length

theorem markStructure_cp {bl : Int → Option Blk} {K : V → (Int → Option Blk) → Prop} (s : Str) (k : Nat) (vs : List V) (gs : List Int) (h : OwnL bl (dStr s) vs gs) (hk : mkN k s ≤ 4611686018427387000)
    (hK : ∀ bl', OwnL bl' (dStr (mkS k s)) vs gs → (∀ g, g ∉ gs → ∀ b, bl g = some b → bl' g = some b) → K (.int .i64 (mkN k s : Nat)) bl') : CallP Tryz.prog 19 [.agg vs, .int .i64 k] bl K := by
  obtain ⟨v, w, g1, g2, rfl, rfl, hd, o1, o2⟩ := own_pair.1 h
  obtain ⟨c1, c2⟩ := o1.one
  obtain ⟨d1, d2⟩ := o2.one
  unfold mkN at hk
  refine callP_of Tryz.func19 rfl rfl (by rw [Tryz.ntmps19]; simp) ?_
  rw [Tryz.ntmps19, Tryz.results19]
  refine AW_run ?_
  simp [c1, d1]
  intro g hg0 hg
  have f1 : ∀ x, x ∈ g1 → x ≠ g := fun x hx h => by obtain ⟨b, hb⟩ := o1.has x hx; rw [h, hg] at hb; cases hb
  have f2 : ∀ x, x ∈ g2 → x ≠ g := fun x hx h => by obtain ⟨b, hb⟩ := o2.has x hx; rw [h, hg] at hb; cases hb
  refine markJointS_cp s.js k v g1 (o1.frame fun x hx => by simp [f1 x hx]) (by omega) fun b1 p1 q1 => ?_
  have n1 : b1 g = some ⟨2, [[v, w]]⟩ := by rw [q1 g (fun h => f1 g h rfl)]; simp
  have p2 : OwnD b1 (fl 3 (mv s.ms)) w g2 := o2.frame fun x hx => by rw [q1 x (fun h => hd x h hx)]; simp [f2 x hx]
  simp [n1]
  have := markMemberS_cp (bl := b1) (K := K) s.ms (k + 4 * s.js.length) w g2 p2 (by omega)
  refine markMemberS_cp s.ms (k + 4 * s.js.length) w g2 p2 (by omega) fun b2 p3 q3 => ?_
  simp
  rw [retK_ret]
  refine ⟨[_], by simp; rfl, ?_⟩
  have := hK b2 (own_pair.2 ⟨v, w, g1, g2, rfl, rfl, hd, p1.frame fun x hx => q3 x (hd x hx), p3⟩) (fun x hx b hb => ?_)
  · simpa [mkN] using this
  · simp at hx
    rw [q3 x hx.2, q1 x hx.1]
    simp only [upd_apply]
    rw [if_neg (fun e => by subst e; rw [hg] at hb; cases hb)]; exact hb

end Go.Proofs.YthhjmaianlmfpaaGreat.Vm

namespace Go.Proofs.YthhjmaianlmfpaaGreat.Vm
open Go Go.Proofs
set_option linter.unusedSimpArgs false
set_option linter.unusedVariables false

end Go.Proofs.YthhjmaianlmfpaaGreat.Vm

namespace Go.Proofs.YthhjmaianlmfpaaGreat.Vm
open Go Go.Proofs
set_option linter.unusedSimpArgs false
set_option linter.unusedVariables false


def noLoad (s : Str) : List Int := if sOk s = true then List.replicate (2 * s.js.length) 0 else []

theorem noLoad_le (s : Str) : (noLoad s).length ≤ 12 := by
  unfold noLoad
  split
  · rename_i h; have := (sOk_of h).nj; simp; omega
  · simp

end Go.Proofs.YthhjmaianlmfpaaGreat.Vm

namespace Go.Proofs.YthhjmaianlmfpaaGreat.Vm
open Go Go.Proofs
set_option linter.unusedSimpArgs false
set_option linter.unusedVariables false

def freeL (s : Str) : List Int := if sOk s = true then frees s.js else []
theorem freeL_le (s : Str) : (freeL s).length ≤ 12 := by
  unfold freeL
  split
  · rename_i h; have := (sOk_of h).nj; have := freesTo_le s.js s.js.length; unfold frees; omega
  · simp

theorem freeJoints_ro (s : Str) (hj : s.js.length ≤ 1048576) : RO Tryz.prog 72 [.ptr s.c] (.sl (iv (frees s.js))) := by
  have := ro_of_nw 1 (freeJoints_nw s hj) (fl_dep _ _ 0)
  simpa using this

theorem l12Free_nw (s : Str) (hj : s.js.length ≤ 1048576) : NW Tryz.prog 68 [.agg s.c] (fl 1 (iv (frees s.js))) := by
  refine nw_of Tryz.func68 rfl rfl (by rw [Tryz.ntmps68]; simp) fun bl => ?_
  rw [Tryz.ntmps68, Tryz.results68]
  refine AW_run ?_
  simp [Str.c]
  intro gs hgs0 hgs g00 hg00 hgs1 hb00
  simp [hgs1, Ne.symm hgs1]
  refine AW_for (fun p : Nat × Int => [(3, .lsl p.2 1 0 (freesTo s.js p.1).length), (8, .sl (jv s.js)), (9, .int .i64 s.js.length), (10, .int .i64 p.1)]) (fun p => upd bl p.2 (some ⟨1, iv (freesTo s.js p.1)⟩)) (fun p => p.1 ≤ s.js.length ∧ bl p.2 = none ∧ (p.2 < 0 → freesTo s.js p.1 = [])) (fun p => s.js.length - p.1) _ (0, g00) ⟨Nat.zero_le _, hb00, fun _ => rfl⟩ (by refine ⟨rfl, by simp [freesTo], ?_⟩; exact sub_put (by simp [freesTo, iv]) (by simp [hgs])) ?_
  rintro ⟨i, g⟩ ⟨hi, hg, h0⟩
  simp only at hi hg h0
  have hl := freesTo_le s.js i
  refine AW_run ?_
  simp
  refine ⟨fun h => ?_, fun h => ?_⟩
  · simp [h, J.c]
    intro g1 hg1 h1g hb1
    refine ⟨fun hf => ?_, fun hf => ?_⟩
    · intro g2 hg2 h21 h2g hb2
      simp [h1g, h21, h2g, Ne.symm h1g, Ne.symm h21, Ne.symm h2g, appV, elsV, Int.not_lt.2 hg2]
      refine ⟨by omega, fun g3 hg3 hb3 => ?_⟩
      have hb3' : bl g3 = none := by grind
      simp (disch := omega) [i64_in, loopQ_normal]
      have hjf : (s.js.getD i default).fixed = false := by simpa [h] using hf
      have hs1 : freesTo s.js (i + 1) = freesTo s.js i ++ [(i : Int)] := by rw [freesTo_succ, hjf]; rfl
      refine ⟨i + 1, g3, ⟨by omega, hb3', by omega⟩, by omega, rfl, by simp [hs1], ?_⟩
      rw [hs1, iv_append]
      exact sub_put (by rw [iv_takeall]; rfl) (by simp [hg, hb1, hb2, h1g, h21, h2g])
    · simp (disch := omega) [i64_in, loopQ_normal]
      have hjf : (s.js.getD i default).fixed = true := by simpa [h] using hf
      have hs1 : freesTo s.js (i + 1) = freesTo s.js i := by rw [freesTo_succ, hjf]; simp
      refine ⟨i + 1, g, ⟨by omega, hg, by rw [hs1]; exact h0⟩, by omega, rfl, by simp [hs1], ?_⟩
      rw [hs1]
      simp [hb1, h1g]
  · have hi : i = s.js.length := by omega
    subst hi
    refine retNW [.lsl g 1 0 (freesTo s.js s.js.length).length] [g] (by simp) ?_ (by simpa using hg) (by simp [hg])
    refine own_iv.2 (.inr ⟨g, rfl, rfl, by simp [frees], h0⟩)
theorem l12Free_ro (s : Str) (hj : s.js.length ≤ 1048576) : RO Tryz.prog 68 [.agg s.c] (.sl (iv (frees s.js))) := by
  have := ro_of_nw 1 (l12Free_nw s hj) (fl_dep _ _ 0)
  simpa using this

theorem impl_FreeJoints_nw (s : Str) (h : s.sz) : NW Tryz.prog 44 [.agg s.c] (fl 1 (iv (freeL s))) := by
  refine nw_of Tryz.func44 rfl rfl (by rw [Tryz.ntmps44]; simp) fun bl => ?_
  rw [Tryz.ntmps44, Tryz.results44]
  refine AW_run ?_
  simp [Str.c]
  intro g hg0 hg
  refine callP_ro (impl_StructureOk_ro s h.js h.ms h.nm) ?_
  simp
  refine ⟨fun h => ?_, fun h => ?_⟩
  · refine retNW [.nils] [] rfl ?_ (by simp) (by simp [hg])
    exact own_iv.2 (.inl ⟨by simp [freeL, h], rfl, rfl⟩)
  · have h6 := (sOk_of h).nj
    refine callP_lend 2 (ys := [.ptr s.c]) (by simp [frz, V.cl, Str.c]) (freeJoints_nw s (by omega)) (sc_iv _) fun v gs b o f fr => ?_
    simp
    refine retNW [v] gs rfl ?_ (fun x hx => ?_) (fun x b hx => ?_)
    · simp [freeL, h]; exact o
    · have := f x hx; simp [upd_apply] at this; exact this.2
    · exact new_keep f fr (by rw [upd_apply, if_neg (fun e => by rw [e, hg] at hx; cases hx)]; exact hx)

theorem impl_FreeJoints_ro (s : Str) (h : s.sz) : RO Tryz.prog 44 [.agg s.c] (.sl (iv (freeL s))) := by
  have := ro_of_nw 1 (impl_FreeJoints_nw s h) (fl_dep _ _ 0)
  simpa using this

def degOf (s : Str) : Int := if sOk s = true then s.ms.length - 2 * (frees s.js).length else 0

end Go.Proofs.YthhjmaianlmfpaaGreat.Vm

namespace Go.Proofs.YthhjmaianlmfpaaGreat.Vm
open Go Go.RowKit
set_option linter.unusedSimpArgs false
set_option linter.unusedVariables false

theorem Hoist_append {P : Program} {ops : Array Oper} {blK : Int → Option Blk} {K : St → Prop} : ∀ (is js : List Nat) (σ : St), Hoist P ops blK is (fun σ' => Hoist P ops blK js K σ') σ → Hoist P ops blK (is ++ js) K σ
  | [], js, σ, h => h
  | i :: is, js, σ, h => by
    rw [List.cons_append]
    unfold Hoist at h ⊢
    split at h
    · obtain ⟨v, h1, h2⟩ := h
      exact ⟨v, h1, Hoist_append is js _ h2⟩
    · exact h.elim
theorem HoistF_mono {P : Program} {ds : List (Option Tmp)} {blK : Int → Option Blk} {K K' : St → Prop} (hK : ∀ σ, K σ → K' σ) : ∀ (l : List Oper) (σ : St), HoistF P ds blK l K σ → HoistF P ds blK l K' σ
  | [], σ, h => hK σ h
  | o :: rest, σ, h => by
    have next : ∀ v, HoistF P ds blK rest K (σ.put o.dst v) → HoistF P ds blK rest K' (σ.put o.dst v) := fun v hv => HoistF_mono hK rest _ hv
    unfold HoistF at h ⊢
    cases hg : o.guard with
    | none =>
      simp only [hg] at h ⊢
      split at h
      · obtain ⟨p, h1, v, n, ys, h2, h3⟩ := h
        exact ⟨p, h1, v, n, ys, h2, next v h3⟩
      · obtain ⟨v, h1, h2⟩ := h
        exact ⟨v, h1, next v h2⟩
    | some jb =>
      obtain ⟨j, b⟩ := jb
      simp only [hg] at h ⊢
      split at h
      · rename_i d hd
        split at h
        · split at h
          · rename_i hq
            obtain ⟨v, h1, h2⟩ := h
            rw [if_pos hq]
            exact ⟨v, h1, next v h2⟩
          · rename_i hq
            rw [if_neg hq]
            exact next _ h
        · exact next _ h
        · exact h.elim
      · exact h.elim
/-- One operation, guarded or not, as what it yields. -/
def HStep (P : Program) (ops : Array Oper) (blK : Int → Option Blk) (i : Nat) (K : St → Prop) (σ : St) : Prop := match ops[i]? with
  | some o => ∃ v, DY P ops blK o σ v ∧ K (σ.put o.dst v)
  | none => False
theorem HStep_call {P : Program} {ops : Array Oper} {blK : Int → Option Blk} {K : St → Prop} {σ : St} {i j d : Nat} {o : Oper} {b : Bool} {f : Operand} {args : Array Operand} {ats : Array TypeId} {fid : FuncId} {xs : List V} {v : V}
    (ho : ops[i]? = some o) (hop : o.op = .call ⟨.value f, args, ats⟩) (hg : o.guard = some (j, b)) (hd : (ops[j]?).bind (·.dst) = some d) (hb : σ.ev (.tmp d) = .bool b) (hc : callV σ f args.toList = some (fid, xs)) (hr : RO P fid xs v) (hK : K (σ.put o.dst v)) : HStep P ops blK i K σ := by
  unfold HStep
  rw [ho]
  refine ⟨v, ?_, hK⟩
  unfold DY
  simp only [hg, hd, hb]
  exact ⟨fun _ => .inr ⟨_, f, (fid, xs), 0, [], hop, rfl, hc, .inr hr⟩, fun hh => by cases b <;> cases hh⟩
theorem HStep_skip {P : Program} {ops : Array Oper} {blK : Int → Option Blk} {K : St → Prop} {σ : St} {i j d : Nat} {o : Oper} {b : Bool}
    (ho : ops[i]? = some o) (hg : o.guard = some (j, b)) (hd : (ops[j]?).bind (·.dst) = some d) (hb : σ.ev (.tmp d) = .bool (!b)) (hK : K (σ.put o.dst (.tup []))) : HStep P ops blK i K σ := by
  unfold HStep
  rw [ho]
  refine ⟨.tup [], ?_, hK⟩
  unfold DY
  simp only [hg, hd, hb]
  cases b
  · exact ⟨fun hh => (by cases hh), fun _ => by first | trivial | rfl⟩
  · exact ⟨fun hh => (by cases hh), fun _ => by first | trivial | rfl⟩
/-- As AW_mixedB, with the guarded call i between the lists is1 and is2. -/
theorem AW_mixedC {P : Program} {id : Nat} {ops : Array Oper} {K : Ex → St → Prop} {σ : St} (hm : P.follows .mixedOrders = true) (blK : Int → Option Blk) (hs : Sub blK σ.bl) (is1 : List Nat) (i : Nat) (is2 : List Nat) (fuel : Nat)
    (hn : (ops.size == fuel + (is1 ++ i :: is2).length && (is1 ++ i :: is2).all (fun i => decide (i < ops.size)) && hoistB ops (is1 ++ i :: is2) (Array.replicate ops.size false)) = true)
    (h : HoistF P (ops.toList.map (·.dst)) blK (is1.filterMap fun i => ops[i]?) (HStep P ops blK i (HoistF P (ops.toList.map (·.dst)) blK (is2.filterMap fun i => ops[i]?) (DAny P ops blK (fun _ => false) (K .normal) fuel (setAll (is1 ++ i :: is2) (Array.replicate ops.size false))))) σ) : AW P (.region id ops true) K σ := by
  simp only [Bool.and_eq_true, beq_iff_eq] at hn
  have hall := List.all_eq_true.1 hn.1.2
  have f1 : is1.all (fun i => decide (i < ops.size)) = true := List.all_eq_true.2 fun x hx => hall x (List.mem_append_left _ hx)
  have f2 : is2.all (fun i => decide (i < ops.size)) = true := List.all_eq_true.2 fun x hx => hall x (List.mem_append_right _ (List.mem_cons_of_mem _ hx))
  refine AW_draw_mixed hm (is1 ++ i :: is2) fuel blK hs hn.1.1 hn.2 (tl := fun _ => false) (fun _ _ _ _ h => by cases h) (Hoist_append is1 (i :: is2) σ (Hoist_is _ is1 σ (filter_some is1 f1) ?_))
  refine HoistF_mono (fun σ' h' => ?_) _ _ h
  unfold HStep at h'
  unfold Hoist
  split at h'
  · rename_i o ho
    obtain ⟨v, h1, h2⟩ := h'
    rw [ho]
    exact ⟨v, h1, Hoist_is _ is2 _ (filter_some is2 f2) h2⟩
  · exact h'.elim

/-- AW_mixedB where the last operations may store. -/
theorem AW_mixedBT {P : Program} {id : Nat} {ops : Array Oper} {K : Ex → St → Prop} {σ : St} (hm : P.follows .mixedOrders = true) (blK : Int → Option Blk) (hs : Sub blK σ.bl) (is : List Nat) (fuel n : Nat) (hn : (ops.size == fuel + is.length && is.all (fun i => decide (i < ops.size)) && hoistB ops is (Array.replicate ops.size false) && tailB ops (fun j => decide (n ≤ j)) is) = true)
    (h : HoistF P (ops.toList.map (·.dst)) blK (is.filterMap fun i => ops[i]?) (DAny P ops blK (fun j => decide (n ≤ j)) (K .normal) fuel (setAll is (Array.replicate ops.size false))) σ) : AW P (.region id ops true) K σ := by
  simp only [Bool.and_eq_true, beq_iff_eq] at hn
  exact AW_draw_mixed hm is fuel blK hs hn.1.1.1 hn.1.2 (tl := fun j => decide (n ≤ j)) (tailB_spec hn.2) (Hoist_is _ is σ (filter_some is hn.1.1.2) h)

end Go.Proofs.YthhjmaianlmfpaaGreat.Vm

namespace Go.Proofs.YthhjmaianlmfpaaGreat.Vm
open Go Go.Proofs
set_option linter.unusedSimpArgs false
set_option linter.unusedVariables false

def lN (l : List Int) (k : Nat) : Int := l.getD k 0
theorem lN_at {l : List Int} {k : Nat} (h : k < l.length) : lN l k = l[k] := by simp [lN, h]
def fX (s : Str) (l : List Int) (q : List (Option Rat)) (i : Nat) : Option Rat := op2 (· + ·) (pX s q i) (some (lN l (2 * i) : Rat))
def fY (s : Str) (l : List Int) (q : List (Option Rat)) (i : Nat) : Option Rat := op2 (· + ·) (pY s q i) (some (lN l (2 * i + 1) : Rat))
theorem fX_ok (s : Str) (l : List Int) (q : List (Option Rat)) (i : Nat) : okQ (fX s l q i) := okQ_op2 _ _ _
theorem fY_ok (s : Str) (l : List Int) (q : List (Option Rat)) (i : Nat) : okQ (fY s l q i) := okQ_op2 _ _ _
def isZ (x : Option Rat) : Bool := x.isSome && decide (sgq x = 0)
theorem isZero_ro (x : Option Rat) : RO Tryz.prog 73 [fv x] (.bool (isZ x)) := by
  refine ro_of2 Tryz.func73 rfl rfl (by rw [Tryz.ntmps73]; simp) fun bl => ?_
  rw [Tryz.ntmps73, Tryz.results73]
  refine AW_run ?_
  simp
  cases x with
  | none =>
    refine AW_region (Ops_of ?_)
    simp [fv]
    exact retRO0 (by simp [isZ]) rfl rfl
  | some q =>
    refine AW_region (Ops_of ?_)
    simp [fv]
    refine callP_ro (Sign_ro q) ?_
    have hz : isZ (some q) = decide (q.num.sign = 0) := rfl
    generalize q.num.sign = z at hz ⊢
    simp
    exact retRO [.bool (isZ (some q))] 0 (by simp [hz, eq_dec]) (by simp [frz]) (Sub.refl _)
def balJ (s : Str) (l : List Int) (q : List (Option Rat)) (i : Nat) : Bool := isZ (fX s l q i) && isZ (fY s l q i)
/-- All free joints before n are in balance. -/
def isBal (s : Str) (l : List Int) (q : List RT) : Bool := (fitsQ s q && fitsL s.js l) && (frees s.js).all fun j => balJ s l (rdAll q) j.toNat
theorem frees_get (js : List J) (t : Nat) (h : t < (frees js).length) : ∃ i : Nat, (frees js)[t] = i ∧ i < js.length := by
  have hm : (frees js)[t] ∈ frees js := List.getElem_mem h
  generalize (frees js)[t] = x at hm ⊢
  unfold frees freesTo at hm
  obtain ⟨i, hi, rfl⟩ := List.mem_map.1 hm
  have := List.mem_filter.1 hi
  exact ⟨i, rfl, by simpa using this.1⟩
theorem fitsL_lN {js : List J} {l : List Int} (h : fitsL js l = true) : l.length = 2 * js.length ∧ ∀ k, k < l.length → -100 ≤ lN l k ∧ lN l k ≤ 100 := by
  unfold fitsL at h
  rw [Bool.and_eq_true] at h
  refine ⟨by simpa using h.1, fun k hk => ?_⟩
  have := List.all_eq_true.1 h.2 l[k] (List.getElem_mem hk)
  rw [lN_at hk]
  simpa [forceOk] using this
theorem impl_IsBalanced_ro (s : Str) (l : List Int) (q : List RT) (hj : s.js.length ≤ 140737488351232) (hm : s.ms.length ≤ 140737488351232) (hn : ∀ j, j ∈ s.js → j.name.size ≤ 140737488351232) (hl : l.length ≤ 140737488351232) (hq : fitQ q 1048576) : RO Tryz.prog 24 [.agg s.c, .sl (iv l), .sl (rv q)] (.bool (isBal s l q)) := by
  refine ro_of2 Tryz.func24 rfl rfl (by rw [Tryz.ntmps24]; simp) fun bl => ?_
  rw [Tryz.ntmps24, Tryz.results24]
  refine AW_runA ?_
  simp [Str.c]
  intro g hg0 hg
  refine AW_frzAt 1 3 (.ptr s.c) bl (by simp [hg]) (by simp [frz, dropB, hg, Str.c, V.cl]) ?_
  refine AW_run ?_
  simp
  refine callP_ro (densities_ro s q hj hm hn hq) ?_
  simp
  refine AW_way0 [(1, .sl (iv l)), (3, .ptr s.c), (6, .bool false), (7, .sl (fvs (if fitsQ s q = true then rdAll q else []))), (8, .bool (fitsQ s q))] _ bl 24 (.bool (!(fitsQ s q && fitsL s.js l))) ⟨rfl, by simp, Sub.refl _⟩ rfl ?_ ?_
  · cases hf : fitsQ s q
    · simp
    simp
    refine callP_ro (fitsLoad_ro s l hj hl) ?_
    simp
  cases hp : (fitsQ s q && fitsL s.js l)
  · have hz : isBal s l q = false := by unfold isBal; rw [hp]; rfl
    simp
    exact retRO [.bool false] 0 (by simp) (by simp [frz, hz]) (Sub.refl _)
  rw [Bool.and_eq_true] at hp
  obtain ⟨hs, hlen, hall⟩ := fitsQ_of hp.1
  obtain ⟨hll, hlb⟩ := fitsL_lN hp.2
  have hb : isBal s l q = (frees s.js).all fun j => balJ s l (rdAll q) j.toNat := by unfold isBal; rw [hp.1, hp.2]; rfl
  have hnj := hs.nj
  have hfl := freesTo_le s.js s.js.length
  change (frees s.js).length ≤ s.js.length at hfl
  rw [hb, hp.1]
  simp
  refine callP_ro (freeJoints_ro s (by omega)) ?_
  simp
  refine AW_for (fun t : Nat => [(1, .sl (iv l)), (3, .ptr s.c), (7, .sl (fvs (rdAll q))), (25, .sl (iv (frees s.js))), (26, .int .i64 (frees s.js).length), (27, .int .i64 t)]) (fun _ => bl) (fun t => t ≤ (frees s.js).length ∧ ∀ k (h : k < (frees s.js).length), k < t → balJ s l (rdAll q) (frees s.js)[k].toNat = true) (fun t => (frees s.js).length - t) _ 0 ⟨Nat.zero_le _, fun k _ h0 => by omega⟩ ⟨rfl, by simp, Sub.refl _⟩ ?_
  rintro t ⟨ht, hc⟩
  refine AW_run ?_
  simp
  refine ⟨fun h => ?_, fun h => ?_⟩
  · obtain ⟨i, ei, hi⟩ := frees_get s.js t h
    simp [h, ei]
    refine callP_ro (pull_ro s (rdAll q) i hs (rdAll_ok q) (by simpa using hlen)) ?_
    simp
    have b1 := hlb (2 * i) (by omega)
    have b2 := hlb (2 * i + 1) (by omega)
    have w1 : IntKind.i64.wrap (2 * (i : Int)) = 2 * i := i64_in (by omega) (by omega)
    have w2 : IntKind.i64.wrap (2 * (i : Int) + 1) = 2 * i + 1 := i64_in (by omega) (by omega)
    have p1 : 2 * i < l.length := by omega
    have p2 : 2 * i + 1 < l.length := by omega
    have p3 : 2 * (i : Int) < l.length := by omega
    have p4 : 2 * (i : Int) + 1 < l.length := by omega
    have p5 : 0 ≤ 2 * (i : Int) := by omega
    have p6 : 0 ≤ 2 * (i : Int) + 1 := by omega
    have p7 : (2 * (i : Int)).toNat = 2 * i := by omega
    have p8 : (2 * (i : Int) + 1).toNat = 2 * i + 1 := by omega
    have q1 := lN_at p1
    have q2 := lN_at p2
    refine AW_way0 [(1, .sl (iv l)), (3, .ptr s.c), (7, .sl (fvs (rdAll q))), (25, .sl (iv (frees s.js))), (26, .int .i64 (frees s.js).length), (27, .int .i64 t), (10, .int .i64 i), (11, fv (pX s (rdAll q) i)), (12, fv (pY s (rdAll q) i))] _ bl 59 (.bool (!balJ s l (rdAll q) i)) ⟨rfl, by simp, Sub.refl _⟩ rfl ?_ ?_
    · simp [w1, w2, p1, p2, p3, p4, p5, p6, p7, p8]
      rw [← q1]
      refine callP_ro (whole_ro _ (by omega)) ?_
      simp [w1, w2, p1, p2, p3, p4, p5, p6, p7, p8]
      refine callP_ro (add_ro _ _ (pTo_ok _ _ _ _ _) (okQ_int (by omega))) ?_
      simp [w1, w2, p1, p2, p3, p4, p5, p6, p7, p8]
      refine callP_ro (isZero_ro (fX s l (rdAll q) i)) ?_
      simp [w1, w2, p1, p2, p3, p4, p5, p6, p7, p8]
      refine ⟨fun z1 => ?_, fun z1 => ?_⟩
      · simp [balJ, z1]
      rw [← q2]
      refine callP_ro (whole_ro _ (by omega)) ?_
      simp [w1, w2, p1, p2, p3, p4, p5, p6, p7, p8]
      refine callP_ro (add_ro _ _ (pTo_ok _ _ _ _ _) (okQ_int (by omega))) ?_
      simp [w1, w2, p1, p2, p3, p4, p5, p6, p7, p8]
      refine callP_ro (isZero_ro (fY s l (rdAll q) i)) ?_
      simp [balJ, z1]
    cases hbj : balJ s l (rdAll q) i
    · have hno : ((frees s.js).all fun j => balJ s l (rdAll q) j.toNat) = false := by
        rw [List.all_eq_false]
        exact ⟨_, List.getElem_mem h, by rw [ei]; simpa using hbj⟩
      rw [hno]
      simp
      exact retRO [.bool false] 0 (by simp) (by simp [frz]) (Sub.refl _)
    · simp
      simp (disch := omega) [i64_in, loopQ_normal]
      refine ⟨t + 1, ⟨by omega, fun k hk hkt => ?_⟩, by omega, rfl, by simp, Sub.refl _⟩
      rcases Nat.lt_or_ge k t with hlt | hge
      · exact hc k hk hlt
      · obtain rfl : k = t := by omega
        rw [ei]; simpa using hbj
  · have hi2 : t = (frees s.js).length := by omega
    have : (frees s.js).all (fun j => balJ s l (rdAll q) j.toNat) = true := List.all_eq_true.2 fun x hx => by
      obtain ⟨k, hk, rfl⟩ := List.getElem_of_mem hx
      exact hc k hk (by omega)
    rw [this]
    exact retRO [.bool true] 0 (by simp) (by simp [frz]) (Sub.refl _)

/-! ### In the reference -/
def frcL (s : Str) (l : List Int) (q : List RT) (i : Nat) : List RT := if allSome [pX s (rdAll q) i, pY s (rdAll q) i] = true then [ro (fX s l (rdAll q) i), ro (fY s l (rdAll q) i)] else []
def frcB (s : Str) (l : List Int) (q : List RT) (i : Nat) : Bool := allSome [fX s l (rdAll q) i, fY s l (rdAll q) i]
theorem frcB_no {s : Str} {l : List Int} {q : List RT} {i : Nat} (h : allSome [pX s (rdAll q) i, pY s (rdAll q) i] = false) : frcB s l q i = false := by
  unfold frcB fX fY
  generalize pX s (rdAll q) i = x at *
  generalize pY s (rdAll q) i = y at *
  cases x with
  | none => simp [allSome, op2]
  | some a =>
    cases y with
    | none => simp [allSome, op2]
    | some b => simp [allSome] at h
theorem RatFromC_ro (n : Int) (hn : -100 ≤ n ∧ n ≤ 100) : RO Tryz.prog 51 [.int .i64 n] (.agg (ro (some (n : Rat))).c) := RatFromInt_ro n (by omega)
theorem l14Force_ro (s : Str) (l : List Int) (q : List RT) (i : Nat) (hj : s.js.length ≤ 140737488351232) (hm : s.ms.length ≤ 140737488351232) (hn : ∀ j, j ∈ s.js → j.name.size ≤ 140737488351232) (hq : fitQ q 1048576) (hf : fitsQ s q = true) (hl : fitsL s.js l = true) (hi : i < s.js.length) :
    RO Tryz.prog 69 [.agg s.c, .sl (iv l), .sl (rv q), .int .i64 i] (.tup [.sl (rv (frcL s l q i)), .bool (frcB s l q i)]) := by
  obtain ⟨hs, hlen, hall⟩ := fitsQ_of hf
  obtain ⟨hll, hlb⟩ := fitsL_lN hl
  have hnj := hs.nj
  have b1 := hlb (2 * i) (by omega)
  have b2 := hlb (2 * i + 1) (by omega)
  have w1 : IntKind.i64.wrap (2 * (i : Int)) = 2 * i := i64_in (by omega) (by omega)
  have w2 : IntKind.i64.wrap (2 * (i : Int) + 1) = 2 * i + 1 := i64_in (by omega) (by omega)
  have p1 : 2 * i < l.length := by omega
  have p2 : 2 * i + 1 < l.length := by omega
  have p3 : 2 * (i : Int) < l.length := by omega
  have p4 : 2 * (i : Int) + 1 < l.length := by omega
  have p5 : 0 ≤ 2 * (i : Int) := by omega
  have p6 : 0 ≤ 2 * (i : Int) + 1 := by omega
  have p7 : (2 * (i : Int)).toNat = 2 * i := by omega
  have p8 : (2 * (i : Int) + 1).toNat = 2 * i + 1 := by omega
  have q1 := lN_at p1
  have q2 := lN_at p2
  have hP := spec_PullOn_ro s q i hj hm hn hq
  have hpo : pullOk s q i = true := by unfold pullOk; simp [hf]; omega
  have hpq : pqs s q i = [pX s (rdAll q) i, pY s (rdAll q) i] := by unfold pqs; rw [hpo]; rfl
  rw [hpq] at hP
  have okx := pTo_ok (eqX s i) s (rdAll q) i s.ms.length
  have oky := pTo_ok (eqY s i) s (rdAll q) i s.ms.length
  have hAX := addC (pX s (rdAll q) i) (some (lN l (2 * i) : Rat)) okx (okQ_int (by omega))
  have hAY := addC (pY s (rdAll q) i) (some (lN l (2 * i + 1) : Rat)) oky (okQ_int (by omega))
  have hIX := RatFromC_ro (lN l (2 * i)) b1
  have hIY := RatFromC_ro (lN l (2 * i + 1)) b2
  rw [q1] at hIX
  rw [q2] at hIY
  have hKX := okC _ (fX_ok s l (rdAll q) i)
  have hKY := okC _ (fY_ok s l (rdAll q) i)
  change RO Tryz.prog _ _ (.agg (ro (fX s l (rdAll q) i)).c) at hAX
  change RO Tryz.prog _ _ (.agg (ro (fY s l (rdAll q) i)).c) at hAY
  rw [q1] at hAX
  rw [q2] at hAY
  refine ro_of2 Tryz.func69 rfl rfl (by rw [Tryz.ntmps69]; simp) fun bl => ?_
  rw [Tryz.ntmps69, Tryz.results69]
  refine AW_run ?_
  simp [Str.c]
  intro g hg0 hg
  refine callP_ro hP ?_
  cases ha : allSome [pX s (rdAll q) i, pY s (rdAll q) i]
  · have e1 : frcL s l q i = [] := by unfold frcL; rw [ha]; rfl
    rw [e1, frcB_no ha]
    simp
    exact retRO [.nils, .bool false] 1 (by simp) (by simp [frz, V.cl, rv]) (by simp [hg])
  have e1 : frcL s l q i = [ro (fX s l (rdAll q) i), ro (fY s l (rdAll q) i)] := by unfold frcL; rw [ha]; rfl
  have e2 : stQ [pX s (rdAll q) i, pY s (rdAll q) i] = [ro (pX s (rdAll q) i), ro (pY s (rdAll q) i)] := by unfold stQ; rw [ha]; rfl
  rw [e1, e2]
  have e3 : frcB s l q i = ((fX s l (rdAll q) i).isSome && (fY s l (rdAll q) i).isSome) := by simp [frcB, allSome]
  rw [e3]
  generalize fX s l (rdAll q) i = x at *
  generalize fY s l (rdAll q) i = y at *
  generalize pX s (rdAll q) i = px at *
  generalize pY s (rdAll q) i = py at *
  simp [rv, RT.c]
  refine AW_mixedB mixedO (upd bl g (some ⟨2, [s.c]⟩)) (sub_eq (by simp [Str.c])) [0, 1, 2, 3, 4, 5, 6, 7, 8, 9] 2 (by kernel_rfl) ?_
  simp [rv, RT.c, w1, w2, p1, p2, p3, p4, p5, p6, p7, p8]
  refine hcQ_ro hIX ?_
  simp [RT.c, w1, w2, p1, p2, p3, p4, p5, p6, p7, p8]
  refine hcQ_ro hAX ?_
  simp [RT.c]
  refine DAny_one (i := 10) (by kernel_rfl) rfl rfl ?_
  simp [RT.c]
  intro g12 hg12
  intros
  have h12g : ¬ g12 = g := by assumption
  have hb12 : bl g12 = none := by assumption
  refine ⟨by simp only [Str.c]; intro z b hz; simp only [upd_apply] at hz ⊢; grind, DAny_one (i := 11) (by kernel_rfl) rfl rfl ?_⟩
  simp [RT.c, h12g, Ne.symm h12g]
  refine ⟨by simp only [Str.c]; intro z b hz; simp only [upd_apply] at hz ⊢; grind, DAny_done (by kernel_rfl) ?_⟩
  simp
  refine AW_mixedB mixedO (upd (upd bl g (some ⟨2, [s.c]⟩)) g12 (some ⟨3, [(ro x).c]⟩)) (by simp only [Str.c, RT.c]; intro z b hz; simp only [upd_apply] at hz ⊢; grind) [0, 1, 2, 3, 4, 5, 6, 7, 8, 9, 10] 2 (by kernel_rfl) ?_
  simp [rv, RT.c, w1, w2, p1, p2, p3, p4, p5, p6, p7, p8, h12g, Ne.symm h12g]
  refine hcQ_ro hIY ?_
  simp [RT.c, w1, w2, p1, p2, p3, p4, p5, p6, p7, p8, h12g, Ne.symm h12g]
  refine hcQ_ro hAY ?_
  simp [RT.c, h12g, Ne.symm h12g]
  refine DAny_one (i := 11) (by kernel_rfl) rfl rfl ?_
  simp [RT.c, h12g, Ne.symm h12g]
  intro g13 hg13
  intros
  have h13g : ¬ g13 = g := by assumption
  have h1312 : ¬ g13 = g12 := by assumption
  have hb13 : bl g13 = none := by assumption
  refine ⟨by simp only [Str.c]; intro z b hz; simp only [upd_apply] at hz ⊢; grind, DAny_one (i := 12) (by kernel_rfl) rfl rfl ?_⟩
  simp [RT.c, h12g, Ne.symm h12g, h13g, Ne.symm h13g, h1312, Ne.symm h1312]
  refine ⟨by simp only [Str.c]; intro z b hz; simp only [upd_apply] at hz ⊢; grind, DAny_done (by kernel_rfl) ?_⟩
  simp
  have hfz : ∀ (B : Int → Option Blk) (g4 : Int), 0 ≤ g4 → bl g4 = none → B g4 = some ⟨3, rv [ro x, ro y]⟩ → ∀ b : Bool, frz (dropB B bl) 2 (.tup [.lsl g4 3 0 2, .bool b]) = some (.tup [.sl (rv [ro x, ro y]), .bool b]) := fun B g4 hg4 hb4 hB b =>
    frz_tup2 (frz_slice (sz := 3) (n := 2) hg4 hb4 (els := rv [ro x, ro y]) hB (by simp) (rv_cl _))
  refine AW_mixedC mixedO (upd (upd bl g12 (some ⟨3, [(ro x).c]⟩)) g13 (some ⟨3, [(ro y).c]⟩)) (by simp only [Str.c, RT.c]; intro z b hz; simp only [upd_apply] at hz ⊢; grind) [0, 1, 3, 4, 5, 6] 7 [8] 3 (by kernel_rfl) ?_
  simp [RT.c, h12g, Ne.symm h12g, h13g, Ne.symm h13g, h1312, Ne.symm h1312]
  refine hcQ_ro hKX ?_
  have hsub : ∀ (g4 : Int) (X : Option Blk), g4 ≠ g12 → g4 ≠ g13 → bl g4 = none → Sub (upd (upd bl g12 (some ⟨3, [(ro x).c]⟩)) g13 (some ⟨3, [(ro y).c]⟩)) (upd (upd (upd (upd bl g (some ⟨2, [[.sl (jv s.js), .sl (mv s.ms)]]⟩)) g12 (some ⟨3, [(ro x).c]⟩)) g13 (some ⟨3, [(ro y).c]⟩)) g4 X) := fun g4 X h1 h2 h3 => by
    intro z b hz; simp only [upd_apply] at hz ⊢; grind
  have hsub2 : ∀ (g4 : Int) (X : Option Blk), bl g4 = none → Sub bl (upd (upd (upd (upd bl g (some ⟨2, [[.sl (jv s.js), .sl (mv s.ms)]]⟩)) g12 (some ⟨3, [(ro x).c]⟩)) g13 (some ⟨3, [(ro y).c]⟩)) g4 X) := fun g4 X h1 => by
    intro z b hz; simp only [upd_apply] at hz ⊢; grind
  simp only [RT.c] at hsub hsub2 hKY
  cases hxs : x.isSome
  · simp
    refine HStep_skip rfl rfl rfl (by simp) ?_
    simp
    refine DAny_one (i := 2) (by kernel_rfl) rfl rfl ?_
    simp [RT.c, h12g, Ne.symm h12g, h13g, Ne.symm h13g, h1312, Ne.symm h1312, show List.range 2 = [0, 1] from rfl]
    intro g4 hg4
    intros
    have h4g : ¬ g4 = g := by assumption
    have h412 : ¬ g4 = g12 := by assumption
    have h413 : ¬ g4 = g13 := by assumption
    have hb4 : bl g4 = none := by assumption
    refine ⟨hsub _ _ h412 h413 hb4, DAny_one (i := 9) (by kernel_rfl) rfl rfl ?_⟩
    simp [h12g, Ne.symm h12g, h13g, Ne.symm h13g, h1312, Ne.symm h1312]
    refine ⟨hsub _ _ h412 h413 hb4, DAny_one (i := 10) (by kernel_rfl) rfl rfl ?_⟩
    simp [h12g, Ne.symm h12g, h13g, Ne.symm h13g, h1312, Ne.symm h1312]
    refine ⟨hsub _ _ h412 h413 hb4, DAny_done (by kernel_rfl) ?_⟩
    simp
    exact retRO [.lsl g4 3 0 2, .bool false] 2 (by simp) (hfz _ g4 hg4 hb4 (by simp [rv, RT.c]) _) (hsub2 _ _ hb4)
  · simp
    refine HStep_call rfl rfl rfl rfl (by simp) (by simp [callV]) hKY ?_
    simp
    refine DAny_one (i := 2) (by kernel_rfl) rfl rfl ?_
    simp [RT.c, h12g, Ne.symm h12g, h13g, Ne.symm h13g, h1312, Ne.symm h1312, show List.range 2 = [0, 1] from rfl]
    intro g4 hg4
    intros
    have h4g : ¬ g4 = g := by assumption
    have h412 : ¬ g4 = g12 := by assumption
    have h413 : ¬ g4 = g13 := by assumption
    have hb4 : bl g4 = none := by assumption
    refine ⟨hsub _ _ h412 h413 hb4, DAny_one (i := 9) (by kernel_rfl) rfl rfl ?_⟩
    simp [h12g, Ne.symm h12g, h13g, Ne.symm h13g, h1312, Ne.symm h1312]
    refine ⟨hsub _ _ h412 h413 hb4, DAny_one (i := 10) (by kernel_rfl) rfl rfl ?_⟩
    simp [h12g, Ne.symm h12g, h13g, Ne.symm h13g, h1312, Ne.symm h1312]
    refine ⟨hsub _ _ h412 h413 hb4, DAny_done (by kernel_rfl) ?_⟩
    simp
    exact retRO [.lsl g4 3 0 2, .bool y.isSome] 2 (by simp) (hfz _ g4 hg4 hb4 (by simp [rv, RT.c]) _) (hsub2 _ _ hb4)

theorem isZ_spec (x : Option Rat) (h : x.isSome = true) : isZ x = decide (sgq x = 0) := by unfold isZ; rw [h]; rfl
theorem rv_two (a b : RT) : rv [a, b] = [a.c, b.c] := rfl
theorem spec_IsBalanced_ro (s : Str) (l : List Int) (q : List RT) (hj : s.js.length ≤ 140737488351232) (hm : s.ms.length ≤ 140737488351232) (hn : ∀ j, j ∈ s.js → j.name.size ≤ 140737488351232) (hl : l.length ≤ 140737488351232) (hq : fitQ q 1048576) : RO Tryz.prog 22 [.agg s.c, .sl (iv l), .sl (rv q)] (.bool (isBal s l q)) := by
  refine ro_of2 Tryz.func22 rfl rfl (by rw [Tryz.ntmps22]; simp) fun bl => ?_
  rw [Tryz.ntmps22, Tryz.results22]
  refine AW_run ?_
  simp [Str.c]
  intro g hg0 hg
  refine AW_way [(1, .sl (iv l)), (2, .sl (rv q)), (3, .loc g 2 0 0), (6, .bool false)] _ (upd bl g (some ⟨2, [s.c]⟩)) 20 (.bool (!(fitsQ s q && fitsL s.js l))) (upd bl g (some ⟨2, [s.c]⟩)) ⟨rfl, by simp, sub_eq (by simp [Str.c])⟩ rfl ?_ ?_
  · simp [Str.c]
    refine callP_ro (spec_LoadOk_ro s l hj hm hn hl) ?_
    have hlo : lOk s l = (sOk s && fitsL s.js l) := rfl
    cases h1 : sOk s
    · simp [hlo, h1, fitsQ]
    cases h2 : fitsL s.js l
    · simp [hlo, h1, h2]
    simp [hlo, h1, h2, Str.c]
    refine callP_ro (l14Fits_ro s q hj hm hn hq) ?_
    simp
  cases hp : (fitsQ s q && fitsL s.js l)
  · have hz : isBal s l q = false := by unfold isBal; rw [hp]; rfl
    simp
    exact retRO [.bool false] 0 (by simp) (by simp [frz, hz]) (by simp [hg])
  rw [Bool.and_eq_true] at hp
  obtain ⟨hs, hlen, hall⟩ := fitsQ_of hp.1
  have hb : isBal s l q = (frees s.js).all fun j => balJ s l (rdAll q) j.toNat := by unfold isBal; rw [hp.1, hp.2]; rfl
  have hnj := hs.nj
  have hfl := freesTo_le s.js s.js.length
  change (frees s.js).length ≤ s.js.length at hfl
  rw [hb]
  simp [Str.c]
  refine callP_ro (l12Free_ro s (by omega)) ?_
  simp
  refine AW_for (fun t : Nat => [(1, .sl (iv l)), (2, .sl (rv q)), (3, .loc g 2 0 0), (22, .sl (iv (frees s.js))), (23, .int .i64 (frees s.js).length), (24, .int .i64 t)]) (fun _ => upd bl g (some ⟨2, [s.c]⟩)) (fun t => t ≤ (frees s.js).length ∧ ∀ k (h : k < (frees s.js).length), k < t → balJ s l (rdAll q) (frees s.js)[k].toNat = true) (fun t => (frees s.js).length - t) _ 0 ⟨Nat.zero_le _, fun k _ h0 => by omega⟩ ⟨rfl, by simp, sub_eq (by simp [Str.c])⟩ ?_
  rintro t ⟨ht, hc⟩
  refine AW_run ?_
  simp
  refine ⟨fun h => ?_, fun h => ?_⟩
  · obtain ⟨i, ei, hi⟩ := frees_get s.js t h
    simp [h, ei, Str.c]
    refine callP_ro (l14Force_ro s l q i hj hm hn hq hp.1 hp.2 hi) ?_
    simp
    have okX := fX_ok s l (rdAll q) i
    have okY := fY_ok s l (rdAll q) i
    have hno : balJ s l (rdAll q) i = false → ((frees s.js).all fun j => balJ s l (rdAll q) j.toNat) = false := fun hbj => by
      rw [List.all_eq_false]
      exact ⟨_, List.getElem_mem h, by rw [ei]; simpa using hbj⟩
    have hyes : balJ s l (rdAll q) i = true → ∀ k (h : k < (frees s.js).length), k < t + 1 → balJ s l (rdAll q) (frees s.js)[k].toNat = true := fun hbj k hk hkt => by
      rcases Nat.lt_or_ge k t with hlt | hge
      · exact hc k hk hlt
      · obtain rfl : k = t := by omega
        rw [ei]; simpa using hbj
    refine AW_way [(1, .sl (iv l)), (2, .sl (rv q)), (3, .loc g 2 0 0), (22, .sl (iv (frees s.js))), (23, .int .i64 (frees s.js).length), (24, .int .i64 t), (9, .sl (rv (frcL s l q i))), (10, .bool (frcB s l q i))] _ (upd bl g (some ⟨2, [s.c]⟩)) 51 (.bool (!balJ s l (rdAll q) i)) (upd bl g (some ⟨2, [s.c]⟩)) ⟨rfl, by simp, sub_eq (by simp [Str.c])⟩ rfl ?_ ?_
    · cases hfb : frcB s l q i
      · have hbj : balJ s l (rdAll q) i = false := by
          unfold frcB allSome at hfb
          simp only [List.all_cons, List.all_nil, Bool.and_true] at hfb
          unfold balJ isZ
          rcases Bool.and_eq_false_iff.1 hfb with h1 | h1 <;> simp [h1]
        simp [hbj]
      · have ha : allSome [pX s (rdAll q) i, pY s (rdAll q) i] = true := by
          rcases h1 : allSome [pX s (rdAll q) i, pY s (rdAll q) i] with _ | _
          · rw [frcB_no h1] at hfb; cases hfb
          · rfl
        have eL : frcL s l q i = [ro (fX s l (rdAll q) i), ro (fY s l (rdAll q) i)] := by unfold frcL; rw [ha]; rfl
        have hfb2 : (fX s l (rdAll q) i).isSome = true ∧ (fY s l (rdAll q) i).isSome = true := by
          unfold frcB allSome at hfb; simpa using hfb
        have lx := ro_le okX
        have ly := ro_le okY
        have hSX := RatSign_ro (ro (fX s l (rdAll q) i)) (by omega) (by omega)
        have hSY := RatSign_ro (ro (fY s l (rdAll q) i)) (by omega) (by omega)
        rw [rd_ro okX] at hSX
        rw [rd_ro okY] at hSY
        have zx := isZ_spec _ hfb2.1
        have zy := isZ_spec _ hfb2.2
        rw [eL, rv_two]
        unfold balJ
        rw [zx, zy]
        generalize sgq (fX s l (rdAll q) i) = ax at hSX ⊢
        generalize sgq (fY s l (rdAll q) i) = ay at hSY ⊢
        simp [RT.c]
        refine callP_ro hSX ?_
        simp [RT.c]
        refine ⟨fun h1 => .inl h1, fun h1 => ?_⟩
        refine callP_ro hSY ?_
        simp [RT.c, h1]
        rw [Bool.eq_iff_iff]; simp
    cases hbj : balJ s l (rdAll q) i
    · rw [hno hbj]
      simp
      exact retRO [.bool false] 0 (by simp) (by simp [frz]) (by simp [hg])
    · simp
      simp (disch := omega) [i64_in, loopQ_normal]
      exact ⟨t + 1, ⟨by omega, hyes hbj⟩, by omega, rfl, by simp, sub_eq (by simp [Str.c])⟩
  · have hi2 : t = (frees s.js).length := by omega
    have : (frees s.js).all (fun j => balJ s l (rdAll q) j.toNat) = true := List.all_eq_true.2 fun x hx => by
      obtain ⟨k, hk, rfl⟩ := List.getElem_of_mem hx
      exact hc k hk (by omega)
    rw [this]
    exact retRO [.bool true] 0 (by simp) (by simp [frz]) (by simp [hg])

theorem impl_IsEquilibrium_ro (s : Str) (l : List Int) (q : List RT) (hj : s.js.length ≤ 140737488351232) (hm : s.ms.length ≤ 140737488351232) (hn : ∀ j, j ∈ s.js → j.name.size ≤ 140737488351232) (hl : l.length ≤ 140737488351232) (hq : fitQ q 1048576) : RO Tryz.prog 27 [.agg s.c, .sl (iv l), .sl (rv q)] (.bool (isBal s l q && hasS s q)) := by
  refine ro_of2 Tryz.func27 rfl rfl (by rw [Tryz.ntmps27]; simp) fun bl => ?_
  rw [Tryz.ntmps27, Tryz.results27]
  refine AW_run ?_
  simp [Str.c]
  intro g hg0 hg
  refine AW_way [(1, .sl (iv l)), (2, .sl (rv q)), (3, .loc g 2 0 0)] _ (upd bl g (some ⟨2, [s.c]⟩)) 6 (.bool (isBal s l q && hasS s q)) (upd bl g (some ⟨2, [s.c]⟩)) ⟨rfl, by simp, sub_eq (by simp [Str.c])⟩ rfl ?_ ?_
  · simp [Str.c]
    refine callP_ro (impl_IsBalanced_ro s l q hj hm hn hl hq) ?_
    simp
    refine ⟨fun h1 => ?_, fun h1 => ?_⟩
    · simp only [h1]
      simp [Str.c]
      refine callP_ro (impl_HasSigns_ro s q hj hm hn hq) ?_
      simp
    · simp [h1]
  simp
  exact retRO [.bool (isBal s l q && hasS s q)] 0 (by simp) (by simp [frz]) (by simp [hg])
theorem spec_IsEquilibrium_ro (s : Str) (l : List Int) (q : List RT) (hj : s.js.length ≤ 140737488351232) (hm : s.ms.length ≤ 140737488351232) (hn : ∀ j, j ∈ s.js → j.name.size ≤ 140737488351232) (hl : l.length ≤ 140737488351232) (hq : fitQ q 1048576) : RO Tryz.prog 26 [.agg s.c, .sl (iv l), .sl (rv q)] (.bool (isBal s l q && hasS s q)) := by
  refine ro_of2 Tryz.func26 rfl rfl (by rw [Tryz.ntmps26]; simp) fun bl => ?_
  rw [Tryz.ntmps26, Tryz.results26]
  refine AW_run ?_
  simp [Str.c]
  intro g hg0 hg
  refine AW_way [(1, .sl (iv l)), (2, .sl (rv q)), (3, .loc g 2 0 0)] _ (upd bl g (some ⟨2, [s.c]⟩)) 6 (.bool (isBal s l q && hasS s q)) (upd bl g (some ⟨2, [s.c]⟩)) ⟨rfl, by simp, sub_eq (by simp [Str.c])⟩ rfl ?_ ?_
  · simp [Str.c]
    refine callP_ro (spec_IsBalanced_ro s l q hj hm hn hl hq) ?_
    simp
    refine ⟨fun h1 => ?_, fun h1 => ?_⟩
    · simp only [h1]
      simp [Str.c]
      refine callP_ro (spec_HasSigns_ro s q hj hm hn hq) ?_
      simp
    · simp [h1]
  simp
  exact retRO [.bool (isBal s l q && hasS s q)] 0 (by simp) (by simp [frz]) (by simp [hg])

end Go.Proofs.YthhjmaianlmfpaaGreat.Vm
