/- StructureOk. -/

import Derived.Test.YticmgmemnpcbbaaGreatQCFnExactCanCarry3

namespace Go.Proofs.YticmgmemnpcbbaaGreat.Vm
open Go Go.Proofs
set_option linter.unusedSimpArgs false
set_option linter.unusedVariables false

theorem AW_way0 {P : Program} {id : Nat} {ops : Array Oper} {K : Ex → St → Prop} {σ : St} (l : List (Nat × V)) (n : Nat) (bl : Int → Option Blk) (t : Nat) (v : V) (hf : Fit l n bl σ) (hd : (l.all fun p => !(ops.toList.map (·.dst)).contains (some p.1)) = true)
    (h1 : OpsF P (ops.toList.map (·.dst)) ops.toList (fun σ' => σ'.sl t = v ∧ σ'.bl = bl) ⟨n, hv l, bl⟩) (h2 : K .normal ⟨n, hv ((t, v) :: l), bl⟩) : AW P (.region id ops false) K σ := AW_way l n bl t v bl hf hd h1 h2

instance : Inhabited J := ⟨⟨⟨#[]⟩, 0, 0, false⟩⟩
/-- The joint at an index. -/
def jat (js : List J) (n : Int) : J := js.getD n.toNat default
def mOk (js : List J) (m : Mb) : Bool :=
  (decide (0 ≤ m.a) && decide (m.a < js.length)) && (decide (0 ≤ m.b) && decide (m.b < js.length)) && (decide (1 ≤ m.kind) && decide (m.kind ≤ 3)) &&
  ((decide ((jat js m.a).x ≠ (jat js m.b).x) || decide ((jat js m.a).y ≠ (jat js m.b).y)) && !((jat js m.a).fixed && (jat js m.b).fixed))
def sOk (s : Str) : Bool := decide (s.js.length ≤ 6) && decide (s.ms.length ≤ 8) &&
  decide (∀ i (h : i < s.js.length), s.js[i].ok = true ∧ ixf (fun j => decide (j.name = s.js[i].name)) s.js = i) && s.ms.all (mOk s.js)

theorem jv_at {js : List J} {n : Int} (h0 : 0 ≤ n) (h1 : n < js.length) : (jv js)[n.toNat]? = some (jat js n).c := by
  have : n.toNat < js.length := by omega
  simp [jv, jat, this]

theorem memberOk_ro (s : Str) (m : Mb) (hj : s.js.length ≤ 140737488351232) : RO Tryz.prog 91 [.ptr s.c, .agg m.c] (.bool (mOk s.js m)) := by
  refine ro_of2 Tryz.func91 rfl rfl (by rw [Tryz.ntmps91]; simp) fun bl => ?_
  rw [Tryz.ntmps91, Tryz.results91]
  refine AW_run ?_
  simp [Mb.c, Str.c]
  intro g hg0 hg
  refine AW_way [(0, .ptr s.c), (3, .loc g 3 0 0), (5, .int .i64 s.js.length)] _ (upd bl g (some ⟨3, [m.c]⟩)) 42 (.bool (! ((decide (0 ≤ m.a) && decide (m.a < s.js.length)) && (decide (0 ≤ m.b) && decide (m.b < s.js.length)) && (decide (1 ≤ m.kind) && decide (m.kind ≤ 3))))) (upd bl g (some ⟨3, [m.c]⟩)) ⟨rfl, by simp [Mb.c, Str.c], sub_eq (by simp [Mb.c])⟩ rfl ?_ ?_
  · simp [Mb.c]
    refine ⟨fun h => by omega, fun h1 => ⟨fun h => by omega, fun h2 => ⟨fun h => by omega, fun h3 => ⟨fun h => by omega, fun h4 => ⟨fun h => by omega, fun h5 => ?_⟩⟩⟩⟩⟩
    rw [Bool.eq_iff_iff]; simp; omega
  simp
  refine ⟨fun h => ?_, fun h1 h2 h3 h4 h5 h6 => ?_⟩
  · refine retRO [_] 0 rfl ?_ (by simp [hg])
    simp [frz, mOk]
    intro h1 h2 h3 h4 h5 h6
    omega
  · refine AW_mixed mixedO [0, 1, 2, 3, 4, 5, 6, 7, 8, 9, 10, 11, 12, 13, 14, 15] 4 (by kernel_rfl) ?_
    simp [Str.c, Mb.c, h1, h3, jv_at h1 h2, jv_at h3 h4, J.c]
    refine DAny_two (i := 16) (j := 17) (by kernel_rfl) rfl rfl rfl rfl ?_ ?_
    · simp
      intro g1 hg1 h1g hb1
      refine ⟨by simp [hg, hb1, h1g], DAny_one (i := 17) (by kernel_rfl) rfl rfl ?_⟩
      simp
      intro g2 hg2 h21 h2g hb2
      refine ⟨by simp [hg, hb1, h1g, h21, h2g, hb2], DAny_one (i := 18) (by kernel_rfl) rfl rfl ?_⟩
      simp [h1g, h21, h2g, Ne.symm h1g, Ne.symm h21, Ne.symm h2g]
      refine ⟨by simp [hg, hb1, h1g, h21, h2g, hb2], DAny_one (i := 19) (by kernel_rfl) rfl rfl ?_⟩
      simp [h1g, h21, h2g, Ne.symm h1g, Ne.symm h21, Ne.symm h2g]
      refine ⟨by simp [hg, hb1, h1g, h21, h2g, hb2], DAny_done (by kernel_rfl) ?_⟩
      simp [h1g, h21, h2g, Ne.symm h1g, Ne.symm h21, Ne.symm h2g]
      refine AW_way0 [(6, .loc g1 4 0 0), (7, .loc g2 4 0 0)] _ _ 4 (.bool (mOk s.js m)) ⟨rfl, by simp, Sub.refl _⟩ rfl ?_ ?_
      · simp [h1g, h21, h2g, Ne.symm h1g, Ne.symm h21, Ne.symm h2g, mOk, h1, h2, h3, h4, h5, h6]
        grind
      simp
      exact retRO [_] 0 rfl rfl (by simp [hg, hb1, hb2])
    · simp
      intro g2 hg2 h2g hb2
      refine ⟨by simp [hg, hb2, h2g], DAny_one (i := 16) (by kernel_rfl) rfl rfl ?_⟩
      simp
      intro g1 hg1 h12 h1g hb1
      have h21 := Ne.symm h12
      refine ⟨by simp [hg, hb1, h1g, h21, h2g, hb2], DAny_one (i := 18) (by kernel_rfl) rfl rfl ?_⟩
      simp [h1g, h12, h21, h2g, Ne.symm h1g, Ne.symm h2g]
      refine ⟨by simp [hg, hb1, h1g, h21, h2g, hb2], DAny_one (i := 19) (by kernel_rfl) rfl rfl ?_⟩
      simp [h1g, h12, h21, h2g, Ne.symm h1g, Ne.symm h2g]
      refine ⟨by simp [hg, hb1, h1g, h21, h2g, hb2], DAny_done (by kernel_rfl) ?_⟩
      simp [h1g, h12, h21, h2g, Ne.symm h1g, Ne.symm h2g]
      refine AW_way0 [(6, .loc g1 4 0 0), (7, .loc g2 4 0 0)] _ _ 4 (.bool (mOk s.js m)) ⟨rfl, by simp, Sub.refl _⟩ rfl ?_ ?_
      · simp [h1g, h12, h21, h2g, Ne.symm h1g, Ne.symm h2g, mOk, h1, h2, h3, h4, h5, h6]
        grind
      simp
      exact retRO [_] 0 rfl rfl (by simp [hg, hb1, hb2])

end Go.Proofs.YticmgmemnpcbbaaGreat.Vm

namespace Go.Proofs.YticmgmemnpcbbaaGreat.Vm
open Go Go.Proofs
set_option linter.unusedSimpArgs false
set_option linter.unusedVariables false

theorem IndexFunc_members_ro (a : List Mb) (f : FuncId) (cap : List V) (p : Mb → Bool) (ha : a.length ≤ 140737488351232) (hf : ∀ j, j ∈ a → RO Tryz.prog f (.agg j.c :: cap) (.bool (p j))) :
    RO Tryz.prog 168 [.sl (mv a), .fn f cap] (.int .i64 (ixf p a)) := by
  refine ro_of2 Tryz.func168 rfl rfl (by rw [Tryz.ntmps168]; simp) fun bl => ?_
  rw [Tryz.ntmps168, Tryz.results168]
  refine AW_run ?_
  simp
  refine AW_for (fun i : Nat => [(0, .sl (mv a)), (1, .fn f cap), (7, .int .i64 a.length), (8, .int .i64 i)]) (fun _ => bl) (fun i => i ≤ a.length ∧ ∀ j (h1 : j < a.length), j < i → p a[j] = false) (fun i => a.length - i) _ 0 ⟨Nat.zero_le _, fun j _ h0 => by omega⟩ ⟨rfl, by simp, Sub.refl _⟩ ?_
  intro i ⟨hi, hc⟩
  refine AW_run ?_
  simp
  refine ⟨fun h1 => ?_, fun h1 => ?_⟩
  · simp [h1]
    refine callP_ro (hf _ (List.getElem_mem h1)) ?_
    simp
    refine ⟨fun h2 => ?_, fun h2 => ?_⟩
    · exact retRO0 (by simp [ixf_here h1 hc h2]) rfl rfl
    · simp (disch := omega) [i64_in, loopQ_normal]
      refine ⟨i + 1, ⟨by omega, fun j hj1 hji => ?_⟩, by omega, rfl, by simp, Sub.refl _⟩
      rcases Nat.lt_or_ge j i with hlt | hge
      · exact hc j hj1 hlt
      · obtain rfl : j = i := by omega
        exact h2
  · exact retRO0 (by simp [ixf_none fun j hj => hc j hj (by omega)]) rfl rfl

theorem StructureOk1_ro (s : Str) (m : Mb) (hj : s.js.length ≤ 140737488351232) : RO Tryz.prog 90 [.agg m.c, .ptr s.c] (.bool (!mOk s.js m)) := by
  refine ro_of2 Tryz.func90 rfl rfl (by rw [Tryz.ntmps90]; simp) fun bl => ?_
  rw [Tryz.ntmps90, Tryz.results90]
  refine AW_run ?_
  simp [Mb.c]
  intro g hg0 hg
  refine callP_ro (memberOk_ro s m hj) ?_
  simp
  exact retRO [_] 0 rfl rfl (by simp [hg])

theorem ixf_lt {α : Type} (p : α → Bool) (xs : List α) : (decide (0 ≤ ixf p xs)) = xs.any p := by
  unfold ixf
  cases h : xs.findIdx? p with
  | none =>
    rw [List.findIdx?_eq_none_iff] at h
    have : xs.any p = false := by rw [List.any_eq_false]; intro x hx; simp [h x hx]
    simp [this]
  | some i =>
    rw [List.findIdx?_eq_some_iff_getElem] at h
    obtain ⟨h1, h2, _⟩ := h
    have : xs.any p = true := List.any_eq_true.2 ⟨xs[i], List.getElem_mem h1, h2⟩
    rw [this]; simp

theorem ContainsFunc_members_ro (a : List Mb) (f : FuncId) (cap : List V) (p : Mb → Bool) (ha : a.length ≤ 140737488351232) (hf : ∀ j, j ∈ a → RO Tryz.prog f (.agg j.c :: cap) (.bool (p j))) :
    RO Tryz.prog 89 [.sl (mv a), .fn f cap] (.bool (a.any p)) := by
  refine ro_of2 Tryz.func89 rfl rfl (by rw [Tryz.ntmps89]; simp) fun bl => ?_
  rw [Tryz.ntmps89, Tryz.results89]
  refine AW_run ?_
  simp
  refine callP_ro (IndexFunc_members_ro a f cap p ha hf) ?_
  simp
  exact retRO0 (by simp [ixf_lt]) rfl rfl

/-- The joint at i is valid and the first of its name. -/
def jOk (js : List J) (i : Nat) : Bool := if h : i < js.length then js[i].ok && decide (ixf (fun j => decide (j.name = js[i].name)) js = i) else false
theorem sOk_eq (s : Str) : sOk s = (decide (s.js.length ≤ 6) && decide (s.ms.length ≤ 8) && decide (∀ i, i < s.js.length → jOk s.js i = true) && s.ms.all (mOk s.js)) := by
  unfold sOk
  congr 2
  rw [Bool.eq_iff_iff]
  simp only [decide_eq_true_eq]
  constructor
  · intro h i hi; simp only [jOk, dif_pos hi, Bool.and_eq_true, decide_eq_true_eq]; exact h i hi
  · intro h i hi; have := h i hi; simp only [jOk, dif_pos hi, Bool.and_eq_true, decide_eq_true_eq] at this; exact this

theorem impl_StructureOk_ro (s : Str) (hj : s.js.length ≤ 140737488351232) (hm : s.ms.length ≤ 140737488351232) (hn : ∀ j, j ∈ s.js → j.name.size ≤ 140737488351232) : RO Tryz.prog 24 [.agg s.c] (.bool (sOk s)) := by
  refine ro_of2 Tryz.func24 rfl rfl (by rw [Tryz.ntmps24]; simp) fun bl => ?_
  rw [Tryz.ntmps24, Tryz.results24]
  refine AW_run ?_
  simp [Str.c]
  intro g hg0 hg
  refine AW_way [(1, .loc g 2 0 0)] _ (upd bl g (some ⟨2, [s.c]⟩)) 14 (.bool (! (decide (s.js.length ≤ 6) && decide (s.ms.length ≤ 8)))) (upd bl g (some ⟨2, [s.c]⟩)) ⟨rfl, by simp, sub_eq (by simp [Str.c])⟩ rfl ?_ ?_
  · simp [Str.c]
    refine ⟨fun h => .inl (by omega), fun h => ?_⟩
    rw [Bool.eq_iff_iff]; simp; omega
  simp [Str.c]
  refine ⟨fun h => ?_, fun hl1 hl2 => ?_⟩
  · refine retRO [_] 0 rfl ?_ (by simp [hg])
    simp [frz, sOk_eq]; omega
  refine AW_for (fun i : Nat => [(1, .loc g 2 0 0), (16, .sl (jv s.js)), (17, .int .i64 s.js.length), (18, .int .i64 i)]) (fun _ => upd bl g (some ⟨2, [s.c]⟩)) (fun i => i ≤ s.js.length ∧ ∀ j, j < i → jOk s.js j = true) (fun i => s.js.length - i) _ 0 ⟨Nat.zero_le _, fun j h0 => by omega⟩ ⟨rfl, by simp, sub_eq (by simp [Str.c])⟩ ?_
  intro i ⟨hi, hc⟩
  refine AW_run ?_
  simp
  refine ⟨fun h1 => ?_, fun h1 => ?_⟩
  · simp [h1, J.c]
    intro g2 hg2 h2g hb2
    refine AW_way [(1, .loc g 2 0 0), (3, .int .i64 i), (4, .loc g2 4 0 0), (16, .sl (jv s.js)), (17, .int .i64 s.js.length), (18, .int .i64 i)] _ (upd (upd bl g (some ⟨2, [s.c]⟩)) g2 (some ⟨4, [s.js[i].c]⟩)) 33 (.bool (!jOk s.js i)) (upd (upd bl g (some ⟨2, [s.c]⟩)) g2 (some ⟨4, [s.js[i].c]⟩)) ⟨rfl, by simp, sub_eq (by simp [J.c])⟩ rfl ?_ ?_
    · simp [J.c, h2g, Ne.symm h2g]
      refine callP_ro (impl_JointOk_ro s.js[i] (hn _ (List.getElem_mem h1))) ?_
      simp [h2g, Ne.symm h2g, Str.c]
      refine ⟨fun h => by simp [jOk, h1, h], fun h => ?_⟩
      refine callP_ro (impl_JointNamed_ro s _ hj) ?_
      simp [jOk, h1, h]
      rw [Bool.eq_iff_iff]; simp
    simp
    refine ⟨fun h3 => ?_, fun h3 => ?_⟩
    · refine retRO [_] 0 rfl ?_ (by simp [hg, hb2])
      have : ¬ ∀ i, i < s.js.length → jOk s.js i = true := fun hh => by rw [hh i h1] at h3; cases h3
      simp [frz, sOk_eq, this]
    · simp (disch := omega) [i64_in, loopQ_normal]
      refine ⟨i + 1, ⟨by omega, fun j hji => ?_⟩, by omega, rfl, by simp, by simp [h2g, hb2, hg]⟩
      rcases Nat.lt_or_ge j i with hlt | hge
      · exact hc j hlt
      · obtain rfl : j = i := by omega
        exact h3
  · have hall : ∀ i, i < s.js.length → jOk s.js i = true := fun j hj => hc j (by omega)
    simp [Str.c]
    refine callP_borrow 2 (ys := [.sl (mv s.ms), .fn 90 [.ptr s.c]]) ?_ (ContainsFunc_members_ro s.ms _ _ (fun m => !mOk s.js m) hm fun m _ => StructureOk1_ro s m hj) rfl ?_
    · simp [frz, dropB, V.cl, Str.c]
    simp
    have hd : decide (∀ i, i < s.js.length → jOk s.js i = true) = true := decide_eq_true hall
    have hs : sOk s = !s.ms.any fun m => !mOk s.js m := by
      rw [sOk_eq]
      simp only [hl1, hl2, hd, decide_true, Bool.true_and]
      rw [Bool.eq_iff_iff]; simp
    exact retRO [_] 0 rfl (by rw [hs]; rfl) (by simp [hg])

end Go.Proofs.YticmgmemnpcbbaaGreat.Vm

namespace Go.Proofs.YticmgmemnpcbbaaGreat.Vm
open Go Go.Proofs
set_option linter.unusedSimpArgs false
set_option linter.unusedVariables false

theorem spec_StructureOk_ro (s : Str) (hj : s.js.length ≤ 140737488351232) (hm : s.ms.length ≤ 140737488351232) (hn : ∀ j, j ∈ s.js → j.name.size ≤ 140737488351232) : RO Tryz.prog 122 [.agg s.c] (.bool (sOk s)) := by
  refine ro_of2 Tryz.func122 rfl rfl (by rw [Tryz.ntmps122]; simp) fun bl => ?_
  rw [Tryz.ntmps122, Tryz.results122]
  refine AW_run ?_
  simp [Str.c]
  intro g hg0 hg
  refine AW_way [(1, .loc g 2 0 0)] _ (upd bl g (some ⟨2, [s.c]⟩)) 19 (.bool (! (decide (s.js.length ≤ 6) && decide (s.ms.length ≤ 8)))) (upd bl g (some ⟨2, [s.c]⟩)) ⟨rfl, by simp, sub_eq (by simp [Str.c])⟩ rfl ?_ ?_
  · simp [Str.c]
    refine ⟨fun h => .inl (by omega), fun h => ?_⟩
    rw [Bool.eq_iff_iff]; simp; omega
  simp [Str.c]
  refine ⟨fun h => ?_, fun hl1 hl2 => ?_⟩
  · refine retRO [_] 0 rfl ?_ (by simp [hg])
    simp [frz, sOk_eq]; omega
  refine AW_for (fun i : Nat => [(1, .loc g 2 0 0), (21, .sl (jv s.js)), (22, .int .i64 s.js.length), (23, .int .i64 i)]) (fun _ => upd bl g (some ⟨2, [s.c]⟩)) (fun i => i ≤ s.js.length ∧ ∀ j, j < i → jOk s.js j = true) (fun i => s.js.length - i) _ 0 ⟨Nat.zero_le _, fun j h0 => by omega⟩ ⟨rfl, by simp, sub_eq (by simp [Str.c])⟩ ?_
  intro i ⟨hi, hc⟩
  refine AW_run ?_
  simp
  refine ⟨fun h1 => ?_, fun h1 => ?_⟩
  · simp [h1, J.c]
    intro g2 hg2 h2g hb2
    refine AW_way [(1, .loc g 2 0 0), (3, .int .i64 i), (4, .loc g2 4 0 0), (21, .sl (jv s.js)), (22, .int .i64 s.js.length), (23, .int .i64 i)] _ (upd (upd bl g (some ⟨2, [s.c]⟩)) g2 (some ⟨4, [s.js[i].c]⟩)) 38 (.bool (!jOk s.js i)) (upd (upd bl g (some ⟨2, [s.c]⟩)) g2 (some ⟨4, [s.js[i].c]⟩)) ⟨rfl, by simp, sub_eq (by simp [J.c])⟩ rfl ?_ ?_
    · simp [J.c, h2g, Ne.symm h2g]
      refine callP_ro (spec_JointOk_ro s.js[i] (hn _ (List.getElem_mem h1))) ?_
      simp [h2g, Ne.symm h2g, Str.c]
      refine ⟨fun h => by simp [jOk, h1, h], fun h => ?_⟩
      refine callP_ro (spec_JointNamed_ro s _ hj) ?_
      simp [jOk, h1, h]
      rw [Bool.eq_iff_iff]; simp
    simp
    refine ⟨fun h3 => ?_, fun h3 => ?_⟩
    · refine retRO [_] 0 rfl ?_ (by simp [hg, hb2])
      have : ¬ ∀ i, i < s.js.length → jOk s.js i = true := fun hh => by rw [hh i h1] at h3; cases h3
      simp [frz, sOk_eq, this]
    · simp (disch := omega) [i64_in, loopQ_normal]
      refine ⟨i + 1, ⟨by omega, fun j hji => ?_⟩, by omega, rfl, by simp, by simp [h2g, hb2, hg]⟩
      rcases Nat.lt_or_ge j i with hlt | hge
      · exact hc j hlt
      · obtain rfl : j = i := by omega
        exact h3
  have hall : ∀ i, i < s.js.length → jOk s.js i = true := fun j hj => hc j (by omega)
  simp [Str.c]
  simp (disch := omega) [i64_in]
  have hd : decide (∀ i, i < s.js.length → jOk s.js i = true) = true := decide_eq_true hall
  have hs : sOk s = s.ms.all (mOk s.js) := by
    rw [sOk_eq]
    simp only [hl1, hl2, hd, decide_true, Bool.true_and]
  rw [hs]
  refine AW_for (fun i : Nat => [(1, .loc g 2 0 0), (5, .int .i64 (s.js.length - 1)), (45, .sl (mv s.ms)), (46, .int .i64 s.ms.length), (47, .int .i64 i)]) (fun _ => upd bl g (some ⟨2, [s.c]⟩)) (fun i => i ≤ s.ms.length ∧ ∀ j (h : j < s.ms.length), j < i → mOk s.js s.ms[j] = true) (fun i => s.ms.length - i) _ 0 ⟨Nat.zero_le _, fun j _ h0 => by omega⟩ ⟨rfl, by simp, sub_eq (by simp [Str.c])⟩ ?_
  clear hc hi h1
  intro k ⟨hk, hc⟩
  refine AW_run ?_
  simp
  refine ⟨fun h1 => ?_, fun h1 => ?_⟩
  · simp [h1, Mb.c]
    intro g2 hg2 h2g hb2
    refine AW_way [(1, .loc g 2 0 0), (5, .int .i64 (s.js.length - 1)), (7, .loc g2 3 0 0), (45, .sl (mv s.ms)), (46, .int .i64 s.ms.length), (47, .int .i64 k)] _ (upd (upd bl g (some ⟨2, [s.c]⟩)) g2 (some ⟨3, [s.ms[k].c]⟩)) 68
      (.bool (! ((decide (0 ≤ s.ms[k].a) && decide (s.ms[k].a < s.js.length)) && (decide (0 ≤ s.ms[k].b) && decide (s.ms[k].b < s.js.length)) && (decide (1 ≤ s.ms[k].kind) && decide (s.ms[k].kind ≤ 3))))) (upd (upd bl g (some ⟨2, [s.c]⟩)) g2 (some ⟨3, [s.ms[k].c]⟩)) ⟨rfl, by simp, sub_eq (by simp [Mb.c])⟩ rfl ?_ ?_
    · simp [Mb.c, h2g, Ne.symm h2g]
      refine callP_ro (l01In_ro _ _ _) ?_
      simp [h2g, Ne.symm h2g]
      refine ⟨fun h => by omega, fun h2 h3 => ?_⟩
      refine callP_ro (l01In_ro _ _ _) ?_
      simp [h2g, Ne.symm h2g]
      refine ⟨fun h => by omega, fun h4 h5 => ?_⟩
      refine callP_ro (l01In_ro _ _ _) ?_
      simp
      omega
    simp
    refine ⟨fun h => ?_, fun h2 h3 h4 h5 h6 h7 => ?_⟩
    · refine retRO [_] 0 rfl ?_ (by simp [hg, hb2])
      have h0 : mOk s.js s.ms[k] = false := by
        simp [mOk]
        intro a1 a2 a3 a4 a5 a6
        omega
      have : s.ms.all (mOk s.js) = false := by
        rw [Bool.eq_false_iff]; intro hh
        rw [List.all_eq_true.1 hh _ (List.getElem_mem h1)] at h0; cases h0
      rw [this]; rfl
    simp [h2g, Ne.symm h2g, Str.c, Mb.c, h2, h4, jv_at h2 h3, jv_at h4 h5, J.c]
    intro g3 hg3 h32 h3g hb3
    simp [h2g, Ne.symm h2g, h32, h3g, Ne.symm h32, Ne.symm h3g, Str.c, Mb.c, h2, h4, jv_at h2 h3, jv_at h4 h5, J.c]
    intro g4 hg4 h43 h42 h4g hb4
    try simp [h2g, Ne.symm h2g, h32, h3g, Ne.symm h32, Ne.symm h3g, h43, h42, h4g, Ne.symm h43, Ne.symm h42, Ne.symm h4g]
    refine AW_way0 [(1, .loc g 2 0 0), (5, .int .i64 (s.js.length - 1)), (8, .loc g3 4 0 0), (9, .loc g4 4 0 0), (45, .sl (mv s.ms)), (46, .int .i64 s.ms.length), (47, .int .i64 k)] _ _ 100 (.bool (!mOk s.js s.ms[k])) ⟨rfl, by simp, Sub.refl _⟩ rfl ?_ ?_
    · simp [h2g, Ne.symm h2g, h32, h3g, Ne.symm h32, Ne.symm h3g, h43, h42, h4g, Ne.symm h43, Ne.symm h42, Ne.symm h4g, mOk, h2, h3, h4, h5, h6, h7]
      grind
    simp
    refine ⟨fun h8 => ?_, fun h8 => ?_⟩
    · refine retRO [_] 0 rfl ?_ (by simp [hg, hb2, hb3, hb4])
      have : s.ms.all (mOk s.js) = false := by
        rw [Bool.eq_false_iff]; intro hh
        rw [List.all_eq_true.1 hh _ (List.getElem_mem h1)] at h8; cases h8
      rw [this]; rfl
    · simp (disch := omega) [i64_in, loopQ_normal]
      refine ⟨k + 1, ⟨by omega, fun j hj1 hji => ?_⟩, by omega, rfl, by simp, by simp [h2g, h3g, h4g, hb2, hb3, hb4, hg, Str.c]⟩
      rcases Nat.lt_or_ge j k with hlt | hge
      · exact hc j hj1 hlt
      · obtain rfl : j = k := by omega
        exact h8
  · refine retRO [_] 0 rfl ?_ (by simp [hg])
    have : s.ms.all (mOk s.js) = true := List.all_eq_true.2 fun m hm => by
      obtain ⟨j, hj, rfl⟩ := List.mem_iff_getElem.1 hm
      exact hc j hj (by omega)
    rw [this]; rfl

end Go.Proofs.YticmgmemnpcbbaaGreat.Vm

namespace Go.Proofs.YticmgmemnpcbbaaGreat.Vm
open Go Go.Proofs
set_option linter.unusedSimpArgs false
set_option linter.unusedVariables false

end Go.Proofs.YticmgmemnpcbbaaGreat.Vm

namespace Go.Proofs.YticmgmemnpcbbaaGreat.Vm
open Go Go.Proofs
set_option linter.unusedSimpArgs false
set_option linter.unusedVariables false

theorem IndexFunc_ints_ro (a : List Int) (f : FuncId) (cap : List V) (p : Int → Bool) (ha : a.length ≤ 140737488351232) (hf : ∀ j, j ∈ a → RO Tryz.prog f (V.int .i64 j :: cap) (.bool (p j))) :
    RO Tryz.prog 225 [.sl (iv a), .fn f cap] (.int .i64 (ixf p a)) := by
  refine ro_of2 Tryz.func225 rfl rfl (by rw [Tryz.ntmps225]; simp) fun bl => ?_
  rw [Tryz.ntmps225, Tryz.results225]
  refine AW_run ?_
  simp
  refine AW_for (fun i : Nat => [(0, .sl (iv a)), (1, .fn f cap), (7, .int .i64 a.length), (8, .int .i64 i)]) (fun _ => bl) (fun i => i ≤ a.length ∧ ∀ j (h1 : j < a.length), j < i → p a[j] = false) (fun i => a.length - i) _ 0 ⟨Nat.zero_le _, fun j _ h0 => by omega⟩ ⟨rfl, by simp, Sub.refl _⟩ ?_
  intro i ⟨hi, hc⟩
  refine AW_run ?_
  simp
  refine ⟨fun h1 => ?_, fun h1 => ?_⟩
  · simp [h1]
    refine callP_ro (hf _ (List.getElem_mem h1)) ?_
    simp
    refine ⟨fun h2 => ?_, fun h2 => ?_⟩
    · exact retRO0 (by simp [ixf_here h1 hc h2]) rfl rfl
    · simp (disch := omega) [i64_in, loopQ_normal]
      refine ⟨i + 1, ⟨by omega, fun j hj1 hji => ?_⟩, by omega, rfl, by simp, Sub.refl _⟩
      rcases Nat.lt_or_ge j i with hlt | hge
      · exact hc j hj1 hlt
      · obtain rfl : j = i := by omega
        exact h2
  · exact retRO0 (by simp [ixf_none fun j hj => hc j hj (by omega)]) rfl rfl

theorem ContainsFunc_ints_ro (a : List Int) (f : FuncId) (cap : List V) (p : Int → Bool) (ha : a.length ≤ 140737488351232) (hf : ∀ j, j ∈ a → RO Tryz.prog f (V.int .i64 j :: cap) (.bool (p j))) :
    RO Tryz.prog 154 [.sl (iv a), .fn f cap] (.bool (a.any p)) := by
  refine ro_of2 Tryz.func154 rfl rfl (by rw [Tryz.ntmps154]; simp) fun bl => ?_
  rw [Tryz.ntmps154, Tryz.results154]
  refine AW_run ?_
  simp
  refine callP_ro (IndexFunc_ints_ro a f cap p ha hf) ?_
  simp
  exact retRO0 (by simp [ixf_lt]) rfl rfl

def forceOk (n : Int) : Bool := decide (-100 ≤ n) && decide (n ≤ 100)
def fitsL (js : List J) (l : List Int) : Bool := decide (l.length = 2 * js.length) && l.all forceOk
def lOk (s : Str) (l : List Int) : Bool := sOk s && fitsL s.js l

theorem isForce_ro (n : Int) : RO Tryz.prog 156 [.int .i64 n] (.bool (forceOk n)) := by
  refine ro_of2 Tryz.func156 rfl rfl (by rw [Tryz.ntmps156]; simp) fun bl => ?_
  rw [Tryz.ntmps156, Tryz.results156]
  refine AW_run ?_
  simp
  refine AW_way [(0, .int .i64 n)] _ bl 2 (.bool (forceOk n)) bl ⟨rfl, by simp, Sub.refl _⟩ rfl ?_ ?_
  · simp [forceOk]; grind
  simp
  exact retRO0 (by simp) rfl rfl

theorem fitsLoad1_ro (n : Int) : RO Tryz.prog 155 [.int .i64 n] (.bool (!forceOk n)) := by
  refine ro_of2 Tryz.func155 rfl rfl (by rw [Tryz.ntmps155]; simp) fun bl => ?_
  rw [Tryz.ntmps155, Tryz.results155]
  refine AW_run ?_
  simp
  refine callP_ro (isForce_ro n) ?_
  simp
  exact retRO0 (by simp) rfl rfl

theorem fitsLoad_ro (s : Str) (l : List Int) (hj : s.js.length ≤ 140737488351232) (hl : l.length ≤ 140737488351232) : RO Tryz.prog 79 [.ptr s.c, .sl (iv l)] (.bool (fitsL s.js l)) := by
  refine ro_of2 Tryz.func79 rfl rfl (by rw [Tryz.ntmps79]; simp) fun bl => ?_
  rw [Tryz.ntmps79, Tryz.results79]
  refine AW_run ?_
  simp
  refine AW_way [(0, .ptr s.c), (1, .sl (iv l))] _ bl 4 (.bool (fitsL s.js l)) bl ⟨rfl, by simp, Sub.refl _⟩ rfl ?_ ?_
  · simp [Str.c]
    simp (disch := omega) [i64_in]
    refine ⟨fun h => ?_, fun h => ?_⟩
    · refine callP_ro (ContainsFunc_ints_ro l _ [] (fun n => !forceOk n) hl fun n _ => fitsLoad1_ro n) ?_
      simp
      have : l.length = 2 * s.js.length := by omega
      simp [fitsL, this]
      rw [Bool.eq_iff_iff]; simp
    · have : ¬ l.length = 2 * s.js.length := by omega
      simp [fitsL, this]
  simp
  exact retRO0 (by simp) rfl rfl

theorem impl_LoadOk_ro (s : Str) (l : List Int) (hj : s.js.length ≤ 140737488351232) (hm : s.ms.length ≤ 140737488351232) (hn : ∀ j, j ∈ s.js → j.name.size ≤ 140737488351232) (hl : l.length ≤ 140737488351232) : RO Tryz.prog 23 [.agg s.c, .sl (iv l)] (.bool (lOk s l)) := by
  refine ro_of2 Tryz.func23 rfl rfl (by rw [Tryz.ntmps23]; simp) fun bl => ?_
  rw [Tryz.ntmps23, Tryz.results23]
  refine AW_run ?_
  simp [Str.c]
  intro g hg0 hg
  refine AW_way0 [(1, .sl (iv l)), (2, .loc g 2 0 0)] _ _ 4 (.bool (lOk s l)) ⟨rfl, by simp, Sub.refl _⟩ rfl ?_ ?_
  · simp
    refine callP_ro (impl_StructureOk_ro s hj hm hn) ?_
    simp
    refine ⟨fun h => ?_, fun h => ?_⟩
    · refine callP_borrow 2 (ys := [.ptr s.c, .sl (iv l)]) ?_ (fitsLoad_ro s l hj hl) rfl ?_
      · simp [frz, dropB, V.cl, Str.c]
      simp [lOk, h]
    · simp [lOk, h]
  simp
  exact retRO [_] 0 rfl rfl (by simp [hg])

theorem spec_LoadOk_ro (s : Str) (l : List Int) (hj : s.js.length ≤ 140737488351232) (hm : s.ms.length ≤ 140737488351232) (hn : ∀ j, j ∈ s.js → j.name.size ≤ 140737488351232) (hl : l.length ≤ 140737488351232) : RO Tryz.prog 115 [.agg s.c, .sl (iv l)] (.bool (lOk s l)) := by
  refine ro_of2 Tryz.func115 rfl rfl (by rw [Tryz.ntmps115]; simp) fun bl => ?_
  rw [Tryz.ntmps115, Tryz.results115]
  refine AW_run ?_
  simp [Str.c]
  intro g hg0 hg
  refine AW_way [(1, .sl (iv l)), (2, .loc g 2 0 0)] _ (upd bl g (some ⟨2, [s.c]⟩)) 18 (.bool (!(sOk s && decide (l.length = 2 * s.js.length)))) (upd bl g (some ⟨2, [s.c]⟩)) ⟨rfl, by simp, sub_eq (by simp [Str.c])⟩ rfl ?_ ?_
  · simp [Str.c]
    refine callP_ro (spec_StructureOk_ro s hj hm hn) ?_
    simp
    refine ⟨fun h => by simp [h], fun h => ?_⟩
    simp (disch := omega) [i64_in, h]
    rw [Bool.eq_iff_iff]; simp; omega
  simp [Str.c]
  refine ⟨fun h => ?_, fun h1 h2 => ?_⟩
  · refine retRO [_] 0 rfl ?_ (by simp [hg])
    simp [frz, lOk, fitsL]
    intro a b
    rcases h with h | h
    · rw [h] at a; cases a
    · exact absurd b h
  have hs : lOk s l = l.all forceOk := by simp [lOk, fitsL, h1, h2]
  rw [hs]
  refine AW_for (fun i : Nat => [(19, .sl (iv l)), (20, .int .i64 l.length), (21, .int .i64 i)]) (fun _ => bl) (fun i => i ≤ l.length ∧ ∀ j (h : j < l.length), j < i → forceOk l[j] = true) (fun i => l.length - i) _ 0 ⟨Nat.zero_le _, fun j _ h0 => by omega⟩ ⟨rfl, by simp, by simp [hg]⟩ ?_
  intro i ⟨hi, hc⟩
  refine AW_run ?_
  simp
  refine ⟨fun h3 => ?_, fun h3 => ?_⟩
  · simp [h3]
    refine callP_ro (l01In_ro _ _ _) ?_
    simp
    refine ⟨fun h => ?_, fun h4 h5 => ?_⟩
    · have h0 : forceOk l[i] = false := by
        simp [forceOk]; omega
      have : l.all forceOk = false := by
        rw [Bool.eq_false_iff]; intro hh
        rw [List.all_eq_true.1 hh _ (List.getElem_mem h3)] at h0; cases h0
      exact retRO [_] 0 rfl (by rw [this]; rfl) (Sub.refl _)
    · simp (disch := omega) [i64_in, loopQ_normal]
      refine ⟨i + 1, ⟨by omega, fun j hj1 hji => ?_⟩, by omega, rfl, by simp, Sub.refl _⟩
      rcases Nat.lt_or_ge j i with hlt | hge
      · exact hc j hj1 hlt
      · obtain rfl : j = i := by omega
        simp [forceOk, h4, h5]
  · have : l.all forceOk = true := List.all_eq_true.2 fun m hm => by
      obtain ⟨j, hj, rfl⟩ := List.mem_iff_getElem.1 hm
      exact hc j hj (by omega)
    exact retRO [_] 0 rfl (by rw [this]; rfl) (Sub.refl _)

end Go.Proofs.YticmgmemnpcbbaaGreat.Vm

namespace Go.Proofs.YticmgmemnpcbbaaGreat.Vm
open Go Go.Proofs
set_option linter.unusedSimpArgs false
set_option linter.unusedVariables false

/-- What a valid structure is known for. -/
structure SOk (s : Str) : Prop where
  nj : s.js.length ≤ 6
  nm : s.ms.length ≤ 8
  pl : ∀ i, i < s.js.length → (-50 ≤ (s.js.getD i default).x ∧ (s.js.getD i default).x ≤ 50) ∧ (-50 ≤ (s.js.getD i default).y ∧ (s.js.getD i default).y ≤ 50)
  ix : ∀ m, m ∈ s.ms → (0 ≤ m.a ∧ m.a < s.js.length) ∧ (0 ≤ m.b ∧ m.b < s.js.length)
  kd : ∀ m, m ∈ s.ms → 1 ≤ m.kind ∧ m.kind ≤ 3

theorem sOk_of {s : Str} (h : sOk s = true) : SOk s := by
  unfold sOk at h
  simp only [Bool.and_eq_true, decide_eq_true_eq] at h
  obtain ⟨⟨⟨h1, h2⟩, h3⟩, h4⟩ := h
  refine ⟨h1, h2, fun i hi => ?_, fun m hm => ?_, fun m hm => ?_⟩
  · have := (h3 i hi).1
    simp [J.ok] at this
    simp [hi]
    omega
  · have := List.all_eq_true.1 h4 m hm
    simp [mOk] at this
    omega
  · have := List.all_eq_true.1 h4 m hm
    simp [mOk] at this
    omega

theorem SOk.at {s : Str} (h : SOk s) {n : Int} (h0 : 0 ≤ n) (h1 : n < s.js.length) : (-50 ≤ (jat s.js n).x ∧ (jat s.js n).x ≤ 50) ∧ (-50 ≤ (jat s.js n).y ∧ (jat s.js n).y ≤ 50) := h.pl n.toNat (by omega)

instance : Inhabited Mb := ⟨⟨0, 0, 0⟩⟩
/-- From joint A to joint B of a member. -/
def vx (s : Str) (m : Mb) : Int := (jat s.js m.b).x - (jat s.js m.a).x
def vy (s : Str) (m : Mb) : Int := (jat s.js m.b).y - (jat s.js m.a).y
def mat (s : Str) (k : Int) : Mb := s.ms.getD k.toNat default
theorem mat_mem {s : Str} {k : Int} (h0 : 0 ≤ k) (h1 : k < s.ms.length) : mat s k ∈ s.ms := by
  have : k.toNat < s.ms.length := by omega
  simp [mat, this]
theorem mv_at {s : Str} {k : Int} (h0 : 0 ≤ k) (h1 : k < s.ms.length) : (mv s.ms)[k.toNat]? = some (mat s k).c := by
  have : k.toNat < s.ms.length := by omega
  simp [mv, mat, this]

theorem l12Vector_ro (s : Str) (k : Int) (hs : SOk s) (h0 : 0 ≤ k) (h1 : k < s.ms.length) : RO Tryz.prog 251 [.agg s.c, .int .i64 k] (.tup [.int .i64 (vx s (mat s k)), .int .i64 (vy s (mat s k))]) := by
  obtain ⟨⟨a1, a2⟩, ⟨b1, b2⟩⟩ := hs.ix _ (mat_mem h0 h1)
  have ca := hs.at a1 a2
  have cb := hs.at b1 b2
  refine ro_of2 Tryz.func251 rfl rfl (by rw [Tryz.ntmps251]; simp) fun bl => ?_
  rw [Tryz.ntmps251, Tryz.results251]
  refine AW_run ?_
  simp [Str.c]
  intro g hg0 hg
  refine AW_mixed mixedO [0, 1, 2, 3, 4, 5, 6, 7, 8, 9] 2 (by kernel_rfl) ?_
  simp [Str.c, h0, mv_at h0 h1, Mb.c, a1, jv_at a1 a2, J.c]
  refine DAny_one (i := 10) (by kernel_rfl) rfl rfl ?_
  simp
  intro g1 hg1 h1g hb1
  refine ⟨by simp [hg, hb1, h1g], DAny_one (i := 11) (by kernel_rfl) rfl rfl ?_⟩
  simp [h1g, Ne.symm h1g]
  refine ⟨by simp [hg, hb1, h1g], DAny_done (by kernel_rfl) ?_⟩
  simp [h1g, Ne.symm h1g]
  refine AW_mixed mixedO [0, 1, 2, 3, 4, 5, 6, 7, 8, 9] 2 (by kernel_rfl) ?_
  simp [Str.c, h0, mv_at h0 h1, Mb.c, b1, jv_at b1 b2, J.c, h1g, Ne.symm h1g]
  refine DAny_one (i := 10) (by kernel_rfl) rfl rfl ?_
  simp
  intro g2 hg2 h2g h21 hb2
  refine ⟨by simp [hg, hb1, h1g, hb2, h2g, h21], DAny_one (i := 11) (by kernel_rfl) rfl rfl ?_⟩
  simp [h1g, Ne.symm h1g, h2g, h21, Ne.symm h2g, Ne.symm h21]
  refine ⟨by simp [hg, hb1, h1g, hb2, h2g, h21], DAny_done (by kernel_rfl) ?_⟩
  simp [h1g, Ne.symm h1g, h2g, h21, Ne.symm h2g, Ne.symm h21]
  refine AW_quiet mixedO (by kernel_rfl) ?_
  simp [h1g, Ne.symm h1g, h2g, h21, Ne.symm h2g, Ne.symm h21]
  simp (disch := omega) [i64_in]
  exact retRO [_, _] 1 rfl rfl (by simp [hg, hb1, hb2])

theorem vector_ro (s : Str) (k : Int) (hs : SOk s) (h0 : 0 ≤ k) (h1 : k < s.ms.length) : RO Tryz.prog 157 [.ptr s.c, .int .i64 k] (.tup [.int .i64 (vx s (mat s k)), .int .i64 (vy s (mat s k))]) := by
  obtain ⟨⟨a1, a2⟩, ⟨b1, b2⟩⟩ := hs.ix _ (mat_mem h0 h1)
  have ca := hs.at a1 a2
  have cb := hs.at b1 b2
  refine ro_of2 Tryz.func157 rfl rfl (by rw [Tryz.ntmps157]; simp) fun bl => ?_
  rw [Tryz.ntmps157, Tryz.results157]
  refine AW_run ?_
  simp [Str.c, h0, mv_at h0 h1, Mb.c]
  intro g hg0 hg
  refine AW_quiet mixedO (by kernel_rfl) ?_
  simp [a1, b1, jv_at a1 a2, jv_at b1 b2, J.c]
  simp (disch := omega) [i64_in]
  exact retRO [_, _] 1 rfl rfl (by simp [hg])

def vecX (s : Str) (k : Int) : Int := if (decide (0 ≤ k) && decide (k < s.ms.length) && sOk s) = true then vx s (mat s k) else 0
def vecY (s : Str) (k : Int) : Int := if (decide (0 ≤ k) && decide (k < s.ms.length) && sOk s) = true then vy s (mat s k) else 0

/-- What a member adds to the force on joint j. -/
def eqX (s : Str) (j : Int) (m : Mb) : Int := if j = m.a then vx s m else if j = m.b then -vx s m else 0
def eqY (s : Str) (j : Int) (m : Mb) : Int := if j = m.a then vy s m else if j = m.b then -vy s m else 0

end Go.Proofs.YticmgmemnpcbbaaGreat.Vm

namespace Go.Proofs.YticmgmemnpcbbaaGreat.Vm
open Go Go.RowKit
set_option linter.unusedSimpArgs false
set_option linter.unusedVariables false

/-- Data of the call's own: a cell, a slice, a place, a struct, several results. -/
inductive D where
  | c (x : V)
  | s (sz : Nat) (rows : List (List D))
  | p (row : List D)
  | a (cs : List D)
  | t (cs : List D)
  deriving Inhabited

mutual
def OwnD (bl : Int → Option Blk) : D → V → List Int → Prop
  | .c x, v, gs => v = x ∧ x.cl = true ∧ gs = []
  | .s sz rows, v, gs => (rows = [] ∧ v = .nils ∧ gs = []) ∨ ∃ g els gs', v = .lsl g sz 0 rows.length ∧ gs = g :: gs' ∧ g ∉ gs' ∧ bl g = some ⟨sz, els⟩ ∧ (g < 0 → els = []) ∧ OwnR bl sz rows els gs'
  | .p row, v, gs => ∃ g e gs', v = .loc g row.length 0 0 ∧ gs = g :: gs' ∧ g ∉ gs' ∧ 0 ≤ g ∧ bl g = some ⟨row.length, [e]⟩ ∧ OwnL bl row e gs'
  | .a cs, v, gs => ∃ vs, v = .agg vs ∧ OwnL bl cs vs gs
  | .t cs, v, gs => ∃ vs, v = .tup vs ∧ OwnL bl cs vs gs
def OwnL (bl : Int → Option Blk) : List D → List V → List Int → Prop
  | [], vs, gs => vs = [] ∧ gs = []
  | d :: ds, vs, gs => ∃ v vs' g1 g2, vs = v :: vs' ∧ gs = g1 ++ g2 ∧ (∀ g, g ∈ g1 → g ∉ g2) ∧ OwnD bl d v g1 ∧ OwnL bl ds vs' g2
def OwnR (bl : Int → Option Blk) (sz : Nat) : List (List D) → List (List V) → List Int → Prop
  | [], els, gs => els = [] ∧ gs = []
  | r :: rs, els, gs => ∃ e els' g1 g2, els = e :: els' ∧ gs = g1 ++ g2 ∧ (∀ g, g ∈ g1 → g ∉ g2) ∧ e.length = sz ∧ (e.all V.one = true) ∧ OwnL bl r e g1 ∧ OwnR bl sz rs els' g2
end

mutual
def D.fz : D → V
  | .c x => x
  | .s _ rows => .sl (D.fzR rows)
  | .p row => .ptr (D.fzL row)
  | .a cs => .agg (D.fzL cs)
  | .t cs => .tup (D.fzL cs)
def D.fzL : List D → List V
  | [] => []
  | d :: ds => d.fz :: D.fzL ds
def D.fzR : List (List D) → List (List V)
  | [] => []
  | r :: rs => D.fzL r :: D.fzR rs
end
theorem fzL_map : ∀ (ds : List D), D.fzL ds = ds.map D.fz
  | [] => by simp [D.fzL]
  | d :: ds => by simp [D.fzL, fzL_map ds]
theorem fzR_map : ∀ (rs : List (List D)), D.fzR rs = rs.map fun r => r.map D.fz
  | [] => by simp [D.fzR]
  | r :: rs => by simp [D.fzR, fzR_map rs, fzL_map]

/-! ### Only the blocks named matter -/
mutual
theorem OwnD.frame {bl bl' : Int → Option Blk} : ∀ {d : D} {v : V} {gs : List Int}, OwnD bl d v gs → (∀ g, g ∈ gs → bl' g = bl g) → OwnD bl' d v gs
  | .c x, v, gs, h, _ => by rw [OwnD] at h ⊢; exact h
  | .s sz rows, v, gs, h, hg => by
    rw [OwnD] at h ⊢
    rcases h with h | ⟨g, els, gs', h1, h2, h3, h4, h5, h6⟩
    · exact .inl h
    · subst h2
      exact .inr ⟨g, els, gs', h1, rfl, h3, by rw [hg g (by simp)]; exact h4, h5, OwnR.frame h6 fun g' hg' => hg g' (by simp [hg'])⟩
  | .p row, v, gs, h, hg => by
    rw [OwnD] at h ⊢
    obtain ⟨g, e, gs', h1, h2, h3, h0, h4, h5⟩ := h
    subst h2
    exact ⟨g, e, gs', h1, rfl, h3, h0, by rw [hg g (by simp)]; exact h4, OwnL.frame h5 fun g' hg' => hg g' (by simp [hg'])⟩
  | .a cs, v, gs, h, hg => by
    rw [OwnD] at h ⊢
    obtain ⟨vs, h1, h2⟩ := h
    exact ⟨vs, h1, OwnL.frame h2 hg⟩
  | .t cs, v, gs, h, hg => by
    rw [OwnD] at h ⊢
    obtain ⟨vs, h1, h2⟩ := h
    exact ⟨vs, h1, OwnL.frame h2 hg⟩
theorem OwnL.frame {bl bl' : Int → Option Blk} : ∀ {ds : List D} {vs : List V} {gs : List Int}, OwnL bl ds vs gs → (∀ g, g ∈ gs → bl' g = bl g) → OwnL bl' ds vs gs
  | [], vs, gs, h, _ => by rw [OwnL] at h ⊢; exact h
  | d :: ds, vs, gs, h, hg => by
    rw [OwnL] at h ⊢
    obtain ⟨v, vs', g1, g2, h1, h2, h3, h4, h5⟩ := h
    subst h2
    exact ⟨v, vs', g1, g2, h1, rfl, h3, OwnD.frame h4 fun g hgg => hg g (by simp [hgg]), OwnL.frame h5 fun g hgg => hg g (by simp [hgg])⟩
theorem OwnR.frame {bl bl' : Int → Option Blk} {sz : Nat} : ∀ {rs : List (List D)} {els : List (List V)} {gs : List Int}, OwnR bl sz rs els gs → (∀ g, g ∈ gs → bl' g = bl g) → OwnR bl' sz rs els gs
  | [], vs, gs, h, _ => by rw [OwnR] at h ⊢; exact h
  | r :: rs, els, gs, h, hg => by
    rw [OwnR] at h ⊢
    obtain ⟨e, els', g1, g2, h1, h2, h3, h4, h4', h5, h6⟩ := h
    subst h2
    exact ⟨e, els', g1, g2, h1, rfl, h3, h4, h4', OwnL.frame h5 fun g hgg => hg g (by simp [hgg]), OwnR.frame h6 fun g hgg => hg g (by simp [hgg])⟩
end

mutual
theorem OwnD.has {bl : Int → Option Blk} : ∀ {d : D} {v : V} {gs : List Int}, OwnD bl d v gs → ∀ g, g ∈ gs → ∃ b, bl g = some b
  | .c x, v, gs, h, g, hg => by rw [OwnD] at h; rw [h.2.2] at hg; cases hg
  | .s sz rows, v, gs, h, g, hg => by
    rw [OwnD] at h
    rcases h with ⟨_, _, h⟩ | ⟨g0, els, gs', h1, h2, h3, h4, h5, h6⟩
    · rw [h] at hg; cases hg
    · subst h2
      rcases List.mem_cons.1 hg with rfl | hg
      · exact ⟨_, h4⟩
      · exact OwnR.has h6 g hg
  | .p row, v, gs, h, g, hg => by
    rw [OwnD] at h
    obtain ⟨g0, e, gs', h1, h2, h3, h0, h4, h5⟩ := h
    subst h2
    rcases List.mem_cons.1 hg with rfl | hg
    · exact ⟨_, h4⟩
    · exact OwnL.has h5 g hg
  | .a cs, v, gs, h, g, hg => by
    rw [OwnD] at h
    obtain ⟨vs, h1, h2⟩ := h
    exact OwnL.has h2 g hg
  | .t cs, v, gs, h, g, hg => by
    rw [OwnD] at h
    obtain ⟨vs, h1, h2⟩ := h
    exact OwnL.has h2 g hg
theorem OwnL.has {bl : Int → Option Blk} : ∀ {ds : List D} {vs : List V} {gs : List Int}, OwnL bl ds vs gs → ∀ g, g ∈ gs → ∃ b, bl g = some b
  | [], vs, gs, h, g, hg => by rw [OwnL] at h; rw [h.2] at hg; cases hg
  | d :: ds, vs, gs, h, g, hg => by
    rw [OwnL] at h
    obtain ⟨v, vs', g1, g2, h1, h2, h3, h4, h5⟩ := h
    subst h2
    rcases List.mem_append.1 hg with hg | hg
    · exact OwnD.has h4 g hg
    · exact OwnL.has h5 g hg
theorem OwnR.has {bl : Int → Option Blk} {sz : Nat} : ∀ {rs : List (List D)} {els : List (List V)} {gs : List Int}, OwnR bl sz rs els gs → ∀ g, g ∈ gs → ∃ b, bl g = some b
  | [], vs, gs, h, g, hg => by rw [OwnR] at h; rw [h.2] at hg; cases hg
  | r :: rs, els, gs, h, g, hg => by
    rw [OwnR] at h
    obtain ⟨e, els', g1, g2, h1, h2, h3, h4, h4', h5, h6⟩ := h
    subst h2
    rcases List.mem_append.1 hg with hg | hg
    · exact OwnL.has h5 g hg
    · exact OwnR.has h6 g hg
end

theorem OwnR.length {bl : Int → Option Blk} {sz : Nat} : ∀ {ds : List (List D)} {vs : List (List V)} {gs : List Int}, OwnR bl sz ds vs gs → vs.length = ds.length
  | [], vs, gs, h => by rw [OwnR] at h; simp [h.1]
  | d :: ds, vs, gs, h => by
    rw [OwnR] at h
    obtain ⟨v, vs', g1, g2, h1, h2, h3, h4, h4', h5, h6⟩ := h
    rw [h1]; simp [OwnR.length h6]

/-! ### Freezing -/
theorem frz_cl {bl : Int → Option Blk} {n : Nat} {x : V} (h : x.cl = true) : frz bl n x = some x := by
  cases x <;> first | (simp [V.cl] at h; done) | (unfold frz; rfl)
theorem mapM_cl {bl : Int → Option Blk} {n : Nat} : ∀ {xs : List V}, xs.all V.cl = true → xs.mapM (frz bl n) = some xs
  | [], _ => rfl
  | x :: xs, h => by
    simp only [List.all_cons, Bool.and_eq_true] at h
    rw [List.mapM_cons, frz_cl h.1, mapM_cl h.2]; rfl
theorem mapMM_cl {bl : Int → Option Blk} {n : Nat} : ∀ {xs : List (List V)}, xs.all (fun e => e.all V.cl) = true → xs.mapM (fun e : List V => e.mapM (frz bl n)) = some xs
  | [], _ => rfl
  | x :: xs, h => by
    simp only [List.all_cons, Bool.and_eq_true] at h
    rw [List.mapM_cons, mapM_cl h.1, mapMM_cl h.2]; rfl
theorem frz_agg {bl : Int → Option Blk} {n : Nat} {cs : List V} : frz bl (n + 1) (.agg cs) = (cs.mapM (frz bl n)).map .agg := by
  simp only [frz]
  split
  · rename_i h; rw [mapM_cl h]; rfl
  · rfl
theorem frz_tup {bl : Int → Option Blk} {n : Nat} {cs : List V} : frz bl (n + 1) (.tup cs) = (cs.mapM (frz bl n)).map .tup := by
  simp only [frz]
  split
  · rename_i h; rw [mapM_cl h]; rfl
  · rfl
theorem frz_loc0 {bl : Int → Option Blk} {n sz : Nat} {g : Int} {e : List V} (hb : bl g = some ⟨sz, [e]⟩) : frz bl (n + 1) (.loc g sz 0 0) = (e.mapM (frz bl n)).map .ptr := by
  simp only [frz, hb]
  simp only [if_true, List.getElem?_cons_zero, List.drop_zero]
  split
  · rename_i h; rw [mapM_cl h]; rfl
  · rfl
theorem frz_lsl {bl : Int → Option Blk} {n sz : Nat} {g : Int} {els : List (List V)} (h0 : 0 ≤ g) (hb : bl g = some ⟨sz, els⟩) : frz bl (n + 1) (.lsl g sz 0 els.length) = (els.mapM (fun e : List V => e.mapM (frz bl n))).map .sl := by
  simp only [frz, hb]
  rw [if_neg (by omega), if_pos (by simp)]
  simp only [List.drop_zero, List.take_length]
  split
  · rename_i h; rw [mapMM_cl h]; rfl
  · rfl

mutual
def D.dep : Nat → D → Prop
  | _, .c _ => True
  | n, .s _ rows => 1 ≤ n ∧ D.depR (n - 1) rows
  | n, .p row => 1 ≤ n ∧ D.depL (n - 1) row
  | n, .a cs => 1 ≤ n ∧ D.depL (n - 1) cs
  | n, .t cs => 1 ≤ n ∧ D.depL (n - 1) cs
def D.depL : Nat → List D → Prop
  | _, [] => True
  | n, d :: ds => d.dep n ∧ D.depL n ds
def D.depR : Nat → List (List D) → Prop
  | _, [] => True
  | n, r :: rs => D.depL n r ∧ D.depR n rs
end

mutual
theorem OwnD.frz {bl : Int → Option Blk} : ∀ {d : D} {n : Nat} {v : V} {gs : List Int}, OwnD bl d v gs → d.dep n → Vm.frz bl n v = some d.fz
  | .c x, n, v, gs, h, _ => by rw [OwnD] at h; rw [h.1, frz_cl h.2.1, D.fz]
  | .s sz rows, n, v, gs, h, hn => by
    rw [OwnD] at h; rw [D.dep] at hn; rw [D.fz]
    obtain ⟨n, rfl⟩ : ∃ m, n = m + 1 := ⟨n - 1, by omega⟩
    rw [Nat.add_sub_cancel] at hn
    rcases h with ⟨rfl, rfl, _⟩ | ⟨g0, els, gs', h1, h2, h3, h4, h5, h6⟩
    · simp [Vm.frz, D.fzR]
    · have hl := OwnR.length h6
      rw [h1, ← hl]
      rcases Int.lt_or_le g0 0 with hg | hg
      · have := h5 hg
        subst this
        have : rows = [] := List.eq_nil_of_length_eq_zero (by simpa using hl.symm)
        subst this
        simp [Vm.frz, hg, D.fzR]
      · rw [frz_lsl hg h4, OwnR.frz h6 hn.2]; rfl
  | .p row, n, v, gs, h, hn => by
    rw [OwnD] at h; rw [D.dep] at hn; rw [D.fz]
    obtain ⟨n, rfl⟩ : ∃ m, n = m + 1 := ⟨n - 1, by omega⟩
    rw [Nat.add_sub_cancel] at hn
    obtain ⟨g0, e, gs', h1, h2, h3, h0, h4, h5⟩ := h
    rw [h1, frz_loc0 h4, OwnL.frz h5 hn.2]; rfl
  | .a cs, n, v, gs, h, hn => by
    rw [OwnD] at h; rw [D.dep] at hn; rw [D.fz]
    obtain ⟨n, rfl⟩ : ∃ m, n = m + 1 := ⟨n - 1, by omega⟩
    rw [Nat.add_sub_cancel] at hn
    obtain ⟨vs, h1, h2⟩ := h
    rw [h1, frz_agg, OwnL.frz h2 hn.2]; rfl
  | .t cs, n, v, gs, h, hn => by
    rw [OwnD] at h; rw [D.dep] at hn; rw [D.fz]
    obtain ⟨n, rfl⟩ : ∃ m, n = m + 1 := ⟨n - 1, by omega⟩
    rw [Nat.add_sub_cancel] at hn
    obtain ⟨vs, h1, h2⟩ := h
    rw [h1, frz_tup, OwnL.frz h2 hn.2]; rfl
theorem OwnL.frz {bl : Int → Option Blk} : ∀ {ds : List D} {n : Nat} {vs : List V} {gs : List Int}, OwnL bl ds vs gs → D.depL n ds → vs.mapM (Vm.frz bl n) = some (D.fzL ds)
  | [], n, vs, gs, h, _ => by rw [OwnL] at h; rw [h.1, D.fzL]; rfl
  | d :: ds, n, vs, gs, h, hn => by
    rw [OwnL] at h; rw [D.depL] at hn; rw [D.fzL]
    obtain ⟨v, vs', g1, g2, h1, h2, h3, h4, h5⟩ := h
    rw [h1, List.mapM_cons, OwnD.frz h4 hn.1, OwnL.frz h5 hn.2]; rfl
theorem OwnR.frz {bl : Int → Option Blk} {sz : Nat} : ∀ {rs : List (List D)} {n : Nat} {els : List (List V)} {gs : List Int}, OwnR bl sz rs els gs → D.depR n rs → els.mapM (fun e : List V => e.mapM (Vm.frz bl n)) = some (D.fzR rs)
  | [], n, vs, gs, h, _ => by rw [OwnR] at h; rw [h.1, D.fzR]; rfl
  | r :: rs, n, els, gs, h, hn => by
    rw [OwnR] at h; rw [D.depR] at hn; rw [D.fzR]
    obtain ⟨e, els', g1, g2, h1, h2, h3, h4, h4', h5, h6⟩ := h
    rw [h1, List.mapM_cons, OwnL.frz h5 hn.1, OwnR.frz h6 hn.2]; rfl
end

/-! ### Values that read the same whatever is frozen -/
mutual
def V.ow : V → Bool
  | .bool _ | .int _ _ | .str _ | .nilp | .nils | .sle | .lsl _ _ _ _ | .loc _ _ _ _ => true
  | .agg vs => V.owL vs
  | .tup vs => V.owL vs
  | _ => false
def V.owL : List V → Bool
  | [] => true
  | v :: vs => v.ow && V.owL vs
end
theorem owL_mem : ∀ {vs : List V}, V.owL vs = true → ∀ v, v ∈ vs → v.ow = true
  | [], _, v, hv => by cases hv
  | x :: vs, h, v, hv => by
    rw [V.owL, Bool.and_eq_true] at h
    rcases List.mem_cons.1 hv with rfl | hv
    · exact h.1
    · exact owL_mem h.2 v hv
section
variable {P : Program} {w0 : World} {M F : Nat → Prop} {w : World} {bl : Int → Option Blk}
theorem rep_ow {G : Nat → Prop} {x : V} {v : Value} (hx : x.ow = true) (h : Rep F w x v) : Rep G w x v := by
  induction h with
  | agg cs arr hlen hr ih => rw [V.ow] at hx; exact .agg cs arr hlen fun i x h => ih i x h (owL_mem hx x (List.mem_of_getElem? h))
  | tup cs arr hlen hr ih => rw [V.ow] at hx; exact .tup cs arr hlen fun i x h => ih i x h (owL_mem hx x (List.mem_of_getElem? h))
  | loc g sz k j => exact .loc g sz k j
  | lsl g sz o n cap hg hle hcap hb => exact .lsl g sz o n cap hg hle hcap hb
  | lsln g sz hg => exact .lsln g sz hg
  | bool b => exact .bool b
  | int k n => exact .int k n
  | str s => exact .str s
  | nilp => exact .nilp
  | nils => exact .nils
  | sle a cap => exact .sle a cap
  | _ => simp [V.ow] at hx

mutual
/-- No address of frozen data anywhere. -/
def D.sc : D → Bool
  | .c x => x.ow
  | .s _ rows => D.scR rows
  | .p row => D.scL row
  | .a cs => D.scL cs
  | .t cs => D.scL cs
def D.scL : List D → Bool
  | [] => true
  | d :: ds => d.sc && D.scL ds
def D.scR : List (List D) → Bool
  | [] => true
  | r :: rs => D.scL r && D.scR rs
end
def owB (bl : Int → Option Blk) (g : Int) : Prop := ∃ sz els, bl g = some ⟨sz, els⟩ ∧ ∀ e, e ∈ els → ∀ x, x ∈ e → x.ow = true

mutual
end

/-! ### Calls that make data -/
theorem Mem.sub {bl2 : Int → Option Blk} (h : Mem w0 M F bl w) (hs : Sub bl2 bl) : Mem w0 M F bl2 w := by
  refine ⟨h.os, h.tape, h.output, h.size, h.frame, h.shapes, h.fr, ?_, fun g b hb => h.own g b (hs g b hb), fun g b hb => h.blk g b (hs g b hb)⟩
  obtain ⟨n, hn⟩ := h.fin
  refine ⟨n, fun g hg => ?_⟩
  cases hb : bl2 g with
  | none => rfl
  | some b => have := hs g b hb; rw [hn g hg] at this; cases this

/-- New data d, and nothing else. -/
def Made (bl : Int → Option Blk) (d : D) (v : V) (bl' : Int → Option Blk) : Prop := ∃ gs, OwnD bl' d v gs ∧ (∀ g, g ∈ gs → bl g = none) ∧ ∀ g, g ∉ gs → bl' g = bl g
/-- The function reads its arguments and makes d. -/
def NW (P : Program) (f : FuncId) (xs : List V) (d : D) : Prop := ∀ bl, CallP P f xs bl (Made bl d)
/-- .. but for what is left behind. -/
def MadeK (bl : Int → Option Blk) (d : D) (v : V) (bl' : Int → Option Blk) : Prop := ∃ gs, OwnD bl' d v gs ∧ (∀ g, g ∈ gs → bl g = none) ∧ Sub bl bl'

theorem callP_made {f : FuncId} {xs : List V} {d : D} (h : CallP P f xs bl (MadeK bl d)) : CallP P f xs bl (Made bl d) :=
  ⟨h.1, fun w0 M F w vs hm hr => (h.2 w0 M F w vs hm hr).mono fun e w' ⟨v, x, bl', F', h1, h2, h3, h4, h5, h6, gs, h7, h8, h9⟩ => by
    refine ⟨v, x, fun g => if g ∈ gs then bl' g else bl g, F', h1, h2, h3, h4, h5.sub fun g b hb => ?_, h6, gs, h7.frame fun g hg => by simp [hg], h8, fun g hg => by simp [hg]⟩
    split at hb
    · exact hb
    · exact h9 g b hb⟩

theorem nw_of {f : FuncId} {fn : Func} {c : Code} {xs : List V} {d : D} (hf : P.funcs[f]? = some fn) (hb : fn.body = some c) (hn : (fn.name == "runtime.NumGoroutine") = false) (hl : xs.length ≤ fn.ntmps)
    (h : ∀ bl, AW P c (retK P fn.results.toList (MadeK bl d)) ⟨fn.ntmps, fun t => xs.getD t .junk, bl⟩) : NW P f xs d := fun bl => callP_made (callP_of hf hb hn hl (h bl))

theorem retNW {rs : List ResultVar} {d : D} {σ : St} (vs : List V) (gs : List Int) (h : resV P σ rs = some vs) (ho : OwnD σ.bl d (retV vs) gs) (hf : ∀ g, g ∈ gs → bl g = none) (hs : Sub bl σ.bl) :
    retK P rs (MadeK bl d) .ret σ := by rw [retK_ret]; exact ⟨vs, h, gs, ho, hf, hs⟩

theorem Made.sub {d : D} {v : V} {gs : List Int} {bl' : Int → Option Blk} (h2 : ∀ g, g ∈ gs → bl g = none) (h3 : ∀ g, g ∉ gs → bl' g = bl g) : Sub bl bl' := fun g b hb => by
  rw [h3 g (fun hg => by rw [h2 g hg] at hb; cases hb)]; exact hb

/-- What has been made may be frozen. -/
theorem ro_of_nw {f : FuncId} {xs : List V} {d : D} (n : Nat) (h : NW P f xs d) (hn : d.dep n) : RO P f xs d.fz := fun bl =>
  callP_frz ((h bl).mono fun v bl' ⟨gs, h1, h2, h3⟩ => ⟨n, (OwnD.frame h1 fun g hg => by unfold dropB; rw [h2 g hg]).frz hn, Made.sub (d := d) (v := v) h2 h3⟩) ⟨rfl, rfl⟩

/-- A call that makes plain data may be handed data of the call's own. -/
theorem callP_lend {f : FuncId} {xs ys : List V} {d : D} {k : V → (Int → Option Blk) → Prop} (n : Nat) (hx : frzL bl n xs = some ys) (h : NW P f ys d) (hd : d.sc = true)
    (hk : ∀ v gs bl', OwnD bl' d v gs → (∀ g, g ∈ gs → bl g = none) → (∀ g, g ∉ gs → bl' g = bl g) → k v bl') : CallP P f xs bl k := by
  have h0 := h (fun g => if g < 0 then bl g else none)
  refine ⟨h0.1, fun w0 M F w vs hm hrep => ?_⟩
  have hsub : Sub (fun g => if g < 0 then bl g else none) bl := fun g b hb => by
    simp only at hb; split at hb
    · exact hb
    · cases hb
  have hm1 := hm.start.freeze hsub
  have hown : ∀ g b, bl g = some b → 0 ≤ g → (F g.toNat ∨ Own (dropB bl fun g => if g < 0 then bl g else none) g.toNat) := fun g b hb h0 =>
    .inr ⟨g, b, by unfold dropB; simp only; rw [if_neg (by omega)]; exact hb, h0, rfl⟩
  have hlen := frzL_get hx
  have hreps : Reps (fun k => F k ∨ Own (dropB bl fun g => if g < 0 then bl g else none) k) w ys vs := by
    refine ⟨by rw [hrep.1, hlen.1], fun i y hy => ?_⟩
    obtain ⟨x, h1, h2⟩ := hlen.2 i y hy
    exact frz_sound (fun g b hb => hm.blk g b hb) hown (fun b hb => .inl hb) n x y _ (hrep.2 i x h1) h2
  refine (h0.2 w (Own bl) _ w vs hm1 hreps).mono fun e w' ⟨v, x, bl', F', h1, h2, h3, h4, h5, h6, gs, h7, h8, h9⟩ => ?_
  have hF : ∀ b, F b → w'.heap[b]? = w.heap[b]? := fun b hb => h3 b (.inl hb)
  have hO : ∀ g b, bl g = some b → 0 ≤ g → w'.heap[g.toNat]? = w.heap[g.toNat]? := fun g b hb h0 => h3 _ (hown g b hb h0)
  obtain ⟨k1, k2⟩ := h7.ow hd
  have hnew : ∀ g, g ∈ gs → bl g = none := fun g hg => by
    have h10 := h8 g hg
    simp only at h10
    split at h10
    · exact h10
    · rename_i hg0
      cases hb : bl g with
      | none => rfl
      | some b =>
        obtain ⟨b', hb'⟩ := h7.has g hg
        have := h5.blk g b' hb'
        unfold BlkIn at this
        rw [if_neg hg0] at this
        exact absurd (h2 _ (hown g b hb (by omega))) this.1
  refine ⟨v, x, fun g => if g ∈ gs then bl' g else bl g, F, h1, fun _ h => h, hF, h4, ?_, rep_ow k1 h6, hk x gs _ (h7.frame fun g hg => by simp [hg]) hnew fun g hg => by simp [hg]⟩
  refine hm.step h5.os h5.tape h5.output h5.size h4 (fun k => Own bl k) (fun k hk hX => h5.frame k hk hX) (fun k hk => by obtain ⟨g, b, hb, h0, rfl⟩ := hk; exact hm.own g b hb h0)
    (fun k hk => Nat.lt_of_lt_of_le (hm.fr k hk) h5.size) ?_ fun g b hb => ?_
  · obtain ⟨n1, hn1⟩ := hm.fin
    obtain ⟨n2, hn2⟩ := h5.fin
    refine ⟨min n1 n2, fun g hg => ?_⟩
    split
    · exact hn2 g (by omega)
    · exact hn1 g (by omega)
  · split at hb
    · rename_i hg
      have hB := h5.blk g b hb
      refine ⟨fun h0 => ?_, ?_⟩
      · rcases h5.own g b hb h0 with h11 | ⟨g', b', hb', h0', he⟩
        · exact .inl (Nat.le_trans hm.size h11)
        · have : g' = g := by omega
          subst this
          rw [hnew g' hg] at hb'; cases hb'
      · unfold BlkIn at hB ⊢
        split
        · rename_i hg0; rw [if_pos hg0] at hB; exact hB
        · rename_i hg0
          rw [if_neg hg0] at hB
          obtain ⟨c1, c, t, c2, c3, c4⟩ := hB
          refine ⟨fun hFg => c1 (h2 _ (.inl hFg)), c, t, c2, c3, fun k e he => ⟨(c4 k e he).1, fun j y hy => ?_⟩⟩
          obtain ⟨c5, u, c6, c7⟩ := (c4 k e he).2 j y hy
          obtain ⟨sz, els, c8, c9⟩ := k2 g hg
          rw [hb] at c8
          cases c8
          exact ⟨c5, u, c6, rep_ow (c9 e (List.mem_of_getElem? he) y (List.mem_of_getElem? hy)) c7⟩
    · refine ⟨hm.own g b hb, ?_⟩
      refine (hm.blk g b hb).mono (fun _ h => h) (fun h0 hFg => ?_) hF h4 (fun h0 => hO g b hb h0)
      have := hm.blk g b hb
      unfold BlkIn at this
      rw [if_neg (by omega)] at this
      exact this.1 hFg

/-- Arguments may be told with less. -/
theorem callP_wk {f : FuncId} {xs ys : List V} {k : V → (Int → Option Blk) → Prop} (n : Nat) (hx : frzL (fun _ => none) n xs = some ys) (h : CallP P f ys bl k) : CallP P f xs bl k := by
  refine ⟨h.1, fun w0 M F w vs hm hrep => h.2 w0 M F w vs hm ?_⟩
  have hlen := frzL_get hx
  refine ⟨by rw [hrep.1, hlen.1], fun i y hy => ?_⟩
  obtain ⟨x, h1, h2⟩ := hlen.2 i y hy
  exact frz_sound (bl := fun _ => none) (fun g b hb => by cases hb) (fun g b hb => by cases hb) (fun b hb => hb) n x y _ (hrep.2 i x h1) h2
end

/-! ### More on blocks -/
theorem fresh_of {bl bl' : Int → Option Blk} {g : Int} (hs : Sub bl bl') (h : bl' g = none) : bl g = none := by
  cases hb : bl g with
  | none => rfl
  | some b => have := hs g b hb; rw [h] at this; cases this
@[simp] theorem sub_rem {bl bl' : Int → Option Blk} {g : Int} (h : bl g = none) : Sub bl (rem bl' g) = Sub bl bl' := by
  apply propext
  constructor
  · intro hs g' b' hb
    have := hs g' b' hb
    unfold rem at this
    split at this
    · cases this
    · exact this
  · intro hs; exact hs.rem h
@[simp] theorem rem_apply (f : Int → Option Blk) (g x : Int) : rem f g x = if x = g then none else f x := rfl
theorem sub_same {bl bl' : Int → Option Blk} {g : Int} {b : Option Blk} (hs : Sub bl bl') : Sub (upd bl g b) (upd bl' g b) := fun g' b' hb => by
  rw [upd_apply] at hb ⊢
  split
  · rename_i h; rw [if_pos h] at hb; exact hb
  · rename_i h; rw [if_neg h] at hb; exact hs g' b' hb

theorem sub_put {bl bl' : Int → Option Blk} {g : Int} {sz : Nat} {els els' : List (List V)} (he : els = els') (hs : Sub bl bl') : Sub (upd bl g (some ⟨sz, els⟩)) (upd bl' g (some ⟨sz, els'⟩)) := by
  subst he; exact sub_same hs

/-- One slot is frozen; blocks are given up. -/
theorem AW_frzAt {P : Program} {c : Code} {K : Ex → St → Prop} {σ : St} (n t : Nat) (v : V) (bl2 : Int → Option Blk) (hs : Sub bl2 σ.bl) (hv : frz (dropB σ.bl bl2) n (σ.sl t) = some v) (h : AW P c K ⟨σ.n, upd σ.sl t v, bl2⟩) : AW P c K σ := by
  refine AW_frz n _ bl2 hs (fun t' => ?_) h
  by_cases e : t' = t
  · subst e; right; rw [upd_same]; exact hv
  · left; exact upd_ne _ _ _ _ e

/-- An empty slice is nil or it is not. -/
theorem callP_nilsplit {P : Program} {f : FuncId} {post : List V} {bl : Int → Option Blk} {k : V → (Int → Option Blk) → Prop} (h1 : CallP P f (.nils :: post) bl k) (h2 : CallP P f (.sle :: post) bl k) : CallP P f (.sl [] :: post) bl k := by
  refine ⟨h1.1, fun w0 M F w vs hm hr => ?_⟩
  have key : ∀ v, (∀ w, Rep F w (.sl []) v → Rep F w .nils v ∨ Rep F w .sle v) := by
    intro v w h
    generalize hx : V.sl [] = x at h
    cases h <;> cases hx
    · rename_i a cap ha
      cases a with
      | none => rw [ha rfl]; exact .inl .nils
      | some a => exact .inr (.sle a cap)
    · exact .inr (.sle _ _)
  have h0 := hr.2 0 _ rfl
  have put : ∀ y, Rep F w y (vs.getD 0 undef) → Reps F w (y :: post) vs := fun y hy => ⟨by rw [hr.1]; rfl, fun i x hx => by
    cases i with
    | zero => cases hx; exact hy
    | succ i => exact hr.2 (i + 1) x (by simpa using hx)⟩
  rcases key _ w h0 with h | h
  · exact h1.2 w0 M F w vs hm (put _ h)
  · exact h2.2 w0 M F w vs hm (put _ h)

/-- A nil slice in a block is seen as an empty one of the call's own. -/
theorem AW_ghostCell {P : Program} {c : Code} {K : Ex → St → Prop} {σ : St} {g : Int} {s : Nat} {els : List (List V)} {e : List V} (k j sz : Nat) (hb : σ.bl g = some ⟨s, els⟩) (he : els[k]? = some e) (hj : e[j]? = some .nils)
    (h : ∀ g' : Int, σ.bl g' = none → g' ≠ g → AW P c K ⟨σ.n, σ.sl, upd (upd σ.bl g (some ⟨s, els.set k (e.set j (.lsl g' sz 0 0))⟩)) g' (some ⟨sz, []⟩)⟩) : AW P c K σ := by
  intro w0 M F a w hs
  obtain ⟨g', hg0, hgn, hm⟩ := hs.mem.ghost sz
  have hne : g' ≠ g := fun h => by rw [h, hb] at hgn; cases hgn
  have hB := hs.mem.blk g _ hb
  unfold BlkIn at hB
  have hge : ¬ g < 0 := fun h => by rw [if_pos h] at hB; simp only at hB; rw [hB] at he; cases he
  rw [if_neg hge] at hB
  obtain ⟨h1, cs, t, h2, h3, h4⟩ := hB
  refine h g' hgn hne w0 M F a w ⟨?_, hs.size, hs.sl, hs.defers⟩
  have hkl := (List.getElem?_eq_some_iff.1 he).1
  have hjl := (List.getElem?_eq_some_iff.1 hj).1
  refine ⟨hm.os, hm.tape, hm.output, hm.size, hm.frame, hm.shapes, hm.fr, ?_, fun x b hx h0 => ?_, fun x b hx => ?_⟩
  · obtain ⟨n, hn⟩ := hm.fin
    refine ⟨min n 0, fun x hx => ?_⟩
    have := hn x (by omega)
    show upd _ _ _ x = none
    simp only [upd_apply] at this ⊢
    split
    · rename_i hh; rw [if_pos hh] at this; exact this
    · rename_i hh
      rw [if_neg hh] at this
      rw [if_neg (by omega)]; exact this
  · by_cases hxg : x = g
    · subst hxg; exact hs.mem.own x _ hb h0
    · refine hm.own x b ?_ h0
      simp only [upd_apply] at hx ⊢
      rw [if_neg hxg] at hx
      exact hx
  · by_cases hxg : x = g
    · subst hxg
      simp only [upd_apply] at hx
      rw [if_neg (Ne.symm hne), if_pos trivial] at hx
      cases hx
      unfold BlkIn
      rw [if_neg hge]
      refine ⟨h1, cs, t, h2, by simpa using h3, fun k' e' he' => ?_⟩
      simp only at he' ⊢
      by_cases hkk : k' = k
      · subst hkk
        rw [List.getElem?_set_self hkl] at he'
        cases he'
        obtain ⟨h5, h6⟩ := h4 k' e he
        refine ⟨by rw [List.length_set]; exact h5, fun j' x' hx' => ?_⟩
        by_cases hjj : j' = j
        · subst hjj
          rw [List.getElem?_set_self hjl] at hx'
          cases hx'
          obtain ⟨h7, v, h8, h9⟩ := h6 j' _ hj
          refine ⟨rfl, v, h8, ?_⟩
          cases h9
          exact .lsln g' sz hg0
        · rw [List.getElem?_set_ne (Ne.symm hjj)] at hx'
          exact h6 j' x' hx'
      · rw [List.getElem?_set_ne (Ne.symm hkk)] at he'
        exact h4 k' e' he'
    · refine hm.blk x b ?_
      simp only [upd_apply] at hx ⊢
      rw [if_neg hxg] at hx
      exact hx

/-- Rows of plain cells. -/
def fl (sz : Nat) (rows : List (List V)) : D := .s sz (rows.map fun r => r.map .c)
theorem fzL_c (r : List V) : D.fzL (r.map .c) = r := by
  rw [fzL_map, List.map_map]
  conv => rhs; rw [← List.map_id r]
  exact List.map_congr_left fun x _ => by simp [D.fz]
@[simp] theorem fl_fz (sz : Nat) (rows : List (List V)) : (fl sz rows).fz = .sl rows := by
  unfold fl
  rw [D.fz, fzR_map, List.map_map]
  congr 1
  conv => rhs; rw [← List.map_id rows]
  exact List.map_congr_left fun r _ => by
    show List.map D.fz (r.map .c) = r
    rw [← fzL_map, fzL_c]
theorem depL_c (n : Nat) : ∀ (r : List V), D.depL n (r.map .c)
  | [] => by simp [D.depL]
  | x :: r => by simp [D.depL, D.dep, depL_c n r]
theorem depR_c (n : Nat) : ∀ (rows : List (List V)), D.depR n (rows.map fun r => r.map .c)
  | [] => by simp [D.depR]
  | r :: rs => by simp [D.depR, depL_c, depR_c n rs]
theorem fl_dep (sz : Nat) (rows : List (List V)) (n : Nat) : (fl sz rows).dep (n + 1) := by
  unfold fl
  rw [D.dep]
  exact ⟨by omega, depR_c _ _⟩
theorem V.one_of_cl {x : V} (h : x.cl = true) : x.one = true := by cases x <;> first | rfl | (simp [V.cl] at h)
theorem ownL_c {bl : Int → Option Blk} : ∀ {r vs : List V} {gs : List Int}, r.all V.cl = true → (OwnL bl (r.map .c) vs gs ↔ vs = r ∧ gs = [])
  | [], vs, gs, _ => by rw [List.map_nil, OwnL]
  | x :: r, vs, gs, h => by
    simp only [List.all_cons, Bool.and_eq_true] at h
    rw [List.map_cons, OwnL]
    constructor
    · rintro ⟨v, vs', g1, g2, rfl, rfl, _, h1, h2⟩
      rw [OwnD] at h1
      obtain ⟨rfl, _, rfl⟩ := h1
      obtain ⟨rfl, rfl⟩ := (ownL_c h.2).1 h2
      exact ⟨rfl, rfl⟩
    · rintro ⟨rfl, rfl⟩
      exact ⟨x, r, [], [], rfl, rfl, fun g hg => (by cases hg), by rw [OwnD]; exact ⟨rfl, h.1, rfl⟩, (ownL_c h.2).2 ⟨rfl, rfl⟩⟩
theorem ownR_c {bl : Int → Option Blk} {sz : Nat} : ∀ {rows els : List (List V)} {gs : List Int}, rows.all (fun r => r.all V.cl) = true → (∀ r, r ∈ rows → r.length = sz) → (OwnR bl sz (rows.map fun r => r.map .c) els gs ↔ els = rows ∧ gs = [])
  | [], els, gs, _, _ => by rw [List.map_nil, OwnR]
  | r :: rows, els, gs, h, hl => by
    simp only [List.all_cons, Bool.and_eq_true] at h
    rw [List.map_cons, OwnR]
    constructor
    · rintro ⟨e, els', g1, g2, rfl, rfl, _, _, _, h1, h2⟩
      obtain ⟨rfl, rfl⟩ := (ownL_c h.1).1 h1
      obtain ⟨rfl, rfl⟩ := (ownR_c h.2 fun r hr => hl r (List.mem_cons_of_mem _ hr)).1 h2
      exact ⟨rfl, rfl⟩
    · rintro ⟨rfl, rfl⟩
      exact ⟨r, rows, [], [], rfl, rfl, fun g hg => (by cases hg), hl r List.mem_cons_self, List.all_eq_true.2 fun x hx => V.one_of_cl (List.all_eq_true.1 h.1 x hx), (ownL_c h.1).2 ⟨rfl, rfl⟩, (ownR_c h.2 fun r hr => hl r (List.mem_cons_of_mem _ hr)).2 ⟨rfl, rfl⟩⟩
/-- A slice of plain rows. -/
theorem own_fl {bl : Int → Option Blk} {sz : Nat} {rows : List (List V)} {v : V} {gs : List Int} (h : rows.all (fun r => r.all V.cl) = true) (hl : ∀ r, r ∈ rows → r.length = sz) :
    OwnD bl (fl sz rows) v gs ↔ (rows = [] ∧ v = .nils ∧ gs = []) ∨ ∃ g, v = .lsl g sz 0 rows.length ∧ gs = [g] ∧ bl g = some ⟨sz, rows⟩ ∧ (g < 0 → rows = []) := by
  unfold fl
  rw [OwnD]
  constructor
  · rintro (⟨h1, h2, h3⟩ | ⟨g, els, gs', h1, h2, h3, h4, h5, h6⟩)
    · exact .inl ⟨by simpa using h1, h2, h3⟩
    · obtain ⟨rfl, rfl⟩ := (ownR_c h hl).1 h6
      exact .inr ⟨g, by simpa using h1, h2, h4, h5⟩
  · rintro (⟨h1, h2, h3⟩ | ⟨g, h1, h2, h4, h5⟩)
    · exact .inl ⟨by simpa using h1, h2, h3⟩
    · exact .inr ⟨g, rows, [], by simpa using h1, h2, by simp, h4, h5, (ownR_c h hl).2 ⟨rfl, rfl⟩⟩
end Go.Proofs.YticmgmemnpcbbaaGreat.Vm

namespace Go.Proofs.YticmgmemnpcbbaaGreat.Vm
open Go Go.Proofs
set_option linter.unusedSimpArgs false
set_option linter.unusedVariables false

theorem iv_clen (ns : List Int) : ∀ r, r ∈ iv ns → r.length = 1 := by
  intro r hr
  obtain ⟨n, _, rfl⟩ := List.mem_map.1 hr
  rfl
theorem iv_append (a b : List Int) : iv (a ++ b) = iv a ++ iv b := by simp [iv]
theorem iv_takeall (ns : List Int) : (iv ns).take ns.length = iv ns := by rw [← iv_length ns, List.take_length]
theorem own_iv {bl : Int → Option Blk} {ns : List Int} {v : V} {gs : List Int} : OwnD bl (fl 1 (iv ns)) v gs ↔ (ns = [] ∧ v = .nils ∧ gs = []) ∨ ∃ g, v = .lsl g 1 0 ns.length ∧ gs = [g] ∧ bl g = some ⟨1, iv ns⟩ ∧ (g < 0 → ns = []) := by
  rw [own_fl (iv_cl ns) (iv_clen ns)]
  simp [iv]

/-- The joints before n that are free. -/
def freesTo (js : List J) (n : Nat) : List Int := ((List.range n).filter fun i => !(js.getD i default).fixed).map fun (i : Nat) => (i : Int)
def frees (js : List J) : List Int := freesTo js js.length
theorem freesTo_succ (js : List J) (n : Nat) : freesTo js (n + 1) = freesTo js n ++ if (js.getD n default).fixed then [] else [(n : Int)] := by
  unfold freesTo
  rw [List.range_succ, List.filter_append, List.map_append]
  congr 1
  cases h : (js.getD n default).fixed <;> simp only [List.filter_cons, List.filter_nil, h] <;> simp
theorem freesTo_le (js : List J) (n : Nat) : (freesTo js n).length ≤ n := by
  unfold freesTo
  rw [List.length_map]
  exact Nat.le_trans (List.length_filter_le _ _) (by simp)
theorem getD_at {α : Type} (xs : List α) (i : Nat) (d : α) (h : i < xs.length) : xs.getD i d = xs[i] := by simp [h]

theorem freeJoints_nw (s : Str) (hj : s.js.length ≤ 1048576) : NW Tryz.prog 74 [.ptr s.c] (fl 1 (iv (frees s.js))) := by
  refine nw_of Tryz.func74 rfl rfl (by rw [Tryz.ntmps74]; simp) fun bl => ?_
  rw [Tryz.ntmps74, Tryz.results74]
  refine AW_run ?_
  simp [Str.c]
  refine AW_ghost 3 1 (by simp) fun g00 hg00 => ?_
  refine AW_for (fun p : Nat × Int => [(3, .lsl p.2 1 0 (freesTo s.js p.1).length), (9, .sl (jv s.js)), (10, .int .i64 s.js.length), (11, .int .i64 p.1)]) (fun p => upd bl p.2 (some ⟨1, iv (freesTo s.js p.1)⟩)) (fun p => p.1 ≤ s.js.length ∧ bl p.2 = none ∧ (p.2 < 0 → freesTo s.js p.1 = [])) (fun p => s.js.length - p.1) _ (0, g00) ⟨Nat.zero_le _, hg00, fun _ => rfl⟩ ⟨rfl, by simp [freesTo], sub_eq (by simp [freesTo, iv])⟩ ?_
  rintro ⟨i, g⟩ ⟨hi, hg, h0⟩
  simp only at hi hg h0
  have hl := freesTo_le s.js i
  refine AW_run ?_
  simp
  refine ⟨fun h => ?_, fun h => ?_⟩
  · simp [h, J.c]
    intro g1 hg1 h1g hb1
    refine ⟨fun hf => ?_, fun hf => ?_⟩
    · intro g2 hg2 h21 h2g hb2
      simp [h1g, h21, h2g, Ne.symm h1g, Ne.symm h21, Ne.symm h2g, appV, elsV, Int.not_lt.2 hg2]
      refine ⟨by omega, fun g3 hg3 hb3 => ?_⟩
      have hb3' : bl g3 = none := by grind
      simp (disch := omega) [i64_in, loopQ_normal]
      have hjf : (s.js.getD i default).fixed = false := by simpa [h] using hf
      have hs1 : freesTo s.js (i + 1) = freesTo s.js i ++ [(i : Int)] := by rw [freesTo_succ, hjf]; rfl
      refine ⟨i + 1, g3, ⟨by omega, hb3', by omega⟩, by omega, rfl, by simp [hs1], ?_⟩
      rw [hs1, iv_append]
      exact sub_put (by rw [iv_takeall]; rfl) (by simp [hg, hb1, hb2, h1g, h21, h2g])
    · simp (disch := omega) [i64_in, loopQ_normal]
      have hjf : (s.js.getD i default).fixed = true := by simpa [h] using hf
      have hs1 : freesTo s.js (i + 1) = freesTo s.js i := by rw [freesTo_succ, hjf]; simp
      refine ⟨i + 1, g, ⟨by omega, hg, by rw [hs1]; exact h0⟩, by omega, rfl, by simp [hs1], ?_⟩
      rw [hs1]
      simp [hb1, h1g]
  · have hi : i = s.js.length := by omega
    subst hi
    refine retNW [.lsl g 1 0 (freesTo s.js s.js.length).length] [g] (by simp) ?_ (by simpa using hg) (by simp [hg])
    refine own_iv.2 (.inr ⟨g, rfl, rfl, by simp [frees], h0⟩)

end Go.Proofs.YticmgmemnpcbbaaGreat.Vm

namespace Go.Proofs.YticmgmemnpcbbaaGreat.Vm
open Go Go.RowKit
set_option linter.unusedVariables false

section
variable {P : Program} {ops : Array Oper} {w0 : World} {M F : Nat → Prop} {a : Act} {w : World}

/-- i is one of the last, or one of the last is done. -/
def late (tl : Nat → Bool) (l : Array Bool) (i : Nat) : Bool := tl i || (List.range l.size).any fun k => tl k && l.getD k false
/-- DAny, where nothing is kept once one of the last operations is done. -/
def DL (P : Program) (ops : Array Oper) (blK : Int → Option Blk) (tl : Nat → Bool) (K : St → Prop) : Nat → Array Bool → St → Prop
  | 0, l, σ => Region.ready .any ops l = [] ∧ K σ
  | fuel + 1, l, σ => (Region.ready .any ops l = [] → K σ) ∧ ∀ i ∈ Region.ready .any ops l, D1 P ops i (fun σ' => (late tl l i = false → Sub blK σ'.bl) ∧ DL P ops blK tl K fuel (l.setIfInBounds i true) σ') σ

theorem DL_sound {blK : Int → Option Blk} {tl : Nat → Bool} {K : St → Prop} {Q : Exit → Act → World → Prop} {F0 : Nat → Prop} (hQ : ∀ σ F a w, (∀ b, F0 b → F b) → Sim w0 M F σ a w → K σ → Q .normal a w) :
    ∀ (fuel : Nat) (l : Array Bool) (σ : St) (F : Nat → Prop) (a : Act) (w : World), (∀ b, F0 b → F b) → DL P ops blK tl K fuel l σ → Sim w0 M F σ a w → wpAny P .any ops Q fuel l a w
  | 0, l, σ, F, a, w, hF, h, hs => ⟨h.1, hQ σ F a w hF hs h.2⟩
  | fuel + 1, l, σ, F, a, w, hF, h, hs => ⟨fun h0 => hQ σ F a w hF hs (h.1 h0), fun i hi => D1_sound (h.2 i hi) hs fun σ' F' a' w' hF' hs' hk => DL_sound hQ fuel _ σ' F' a' w' (fun b hb => hF' b (hF b hb)) hk.2 hs'⟩

theorem AW_drawL {id : Nat} {K : Ex → St → Prop} {σ : St} (hm : P.follows .mixedOrders = true) (blK : Int → Option Blk) {tl : Nat → Bool} (h : DL P ops blK tl (K .normal) ops.size (Array.replicate ops.size false) σ) : AW P (.region id ops true) K σ := by
  intro w0 M F a w hs
  refine wp_region_any hm (DL_sound (F0 := F) (w0 := w0) (M := M) (fun σ' F' a' w' hF' hs' hK => ⟨.normal, σ', F', rfl, hF', hs', hK⟩) _ _ σ F a _ (fun _ h => h) h ?_)
  have hsh : Shapes w { w with drawn := w.drawn + 1 } := fun b c t f hc => ⟨c, f, hc, rfl⟩
  refine ⟨⟨hs.mem.os, hs.mem.tape, hs.mem.output, hs.mem.size, hs.mem.frame, hs.mem.shapes, hs.mem.fr, hs.mem.fin, hs.mem.own, fun g b hb => ?_⟩, hs.size, fun t ht => ?_, hs.defers⟩
  · have hh : ∀ b, F b → ({ w with drawn := w.drawn + 1 } : World).heap[b]? = w.heap[b]? := fun _ _ => rfl
    have hg : 0 ≤ g → ({ w with drawn := w.drawn + 1 } : World).heap[g.toNat]? = w.heap[g.toNat]? := fun _ => rfl
    refine BlkIn.mono (fun _ h => h) (fun h0 hFg => ?_) hh hsh hg (hs.mem.blk g b hb)
    have := hs.mem.blk g b hb
    unfold BlkIn at this
    rw [if_neg (by omega)] at this
    exact this.1 hFg
  · have hh : ∀ b, F b → ({ w with drawn := w.drawn + 1 } : World).heap[b]? = w.heap[b]? := fun _ _ => rfl
    exact Rep.mono (fun _ h => h) hh hsh (hs.sl t ht)

theorem DL_first {blK : Int → Option Blk} {tl : Nat → Bool} {K : St → Prop} {i : Nat} {oi : Oper} {v : V} (hi : ops[i]? = some oi) (hti : tl i = false) (hT : ∀ j oj, tl j = true → ops[j]? = some oj → ∃ e ∈ oj.after, Region.binds .any e = true ∧ e.on = i) : ∀ (fuel : Nat) (l : Array Bool) (σ : St),
    (∀ j oj, ops[j]? = some oj → j ≠ i → l.getD j true = false → (∀ e ∈ oj.after, Region.binds .any e = true → e.on ≠ i) → oi.apart ops oj = true) → (∀ k, tl k = true → l.getD k false = false) →
    i ∈ Region.ready .any ops l → Sub blK σ.bl → DY P ops blK oi σ v → DL P ops blK tl K fuel (l.setIfInBounds i true) (σ.put oi.dst v) → DL P ops blK tl K (fuel + 1) l σ := by
  have hbl : ∀ (σ : St), (σ.put oi.dst v).bl = σ.bl := fun σ => by cases oi.dst <;> rfl
  intro fuel
  induction fuel with
  | zero =>
    intro l σ _ hN hr hs hy H
    refine ⟨fun h => (by rw [h] at hr; cases hr), fun j hj => ?_⟩
    by_cases hji : j = i
    · subst hji; exact hy.step hi hs ⟨fun _ => by rw [hbl]; exact hs, H⟩
    · have := ready_mono hj hji
      rw [H.1] at this
      cases this
  | succ fuel ih =>
    intro l σ hfree hN hr hs hy H
    refine ⟨fun h => (by rw [h] at hr; cases hr), fun j hj => ?_⟩
    by_cases hji : j = i
    · subst hji; exact hy.step hi hs ⟨fun _ => by rw [hbl]; exact hs, H⟩
    · have h1 := H.2 j (ready_mono hj hji)
      obtain ⟨hjun, oj, hoj, hall⟩ := mem_ready.1 hj
      have hnot : ∀ e ∈ oj.after, Region.binds .any e = true → e.on ≠ i := fun e he hb heq => by
        have h1 := hall e he hb
        have h0 := (mem_ready.1 hr).1
        rw [heq] at h1
        rcases Nat.lt_or_ge i l.size with h' | h'
        · simp [h'] at h0 h1; rw [h0] at h1; cases h1
        · simp [Array.getElem?_eq_none h'] at h1
      have h2 := DY.put hoj (hfree j oj hoj hji hjun hnot) hy h1
      have hfree' : ∀ k ok, ops[k]? = some ok → k ≠ i → (l.setIfInBounds j true).getD k true = false →
          (∀ e ∈ ok.after, Region.binds .any e = true → e.on ≠ i) → oi.apart ops ok = true := fun k ok hk hki hun hno => by
        refine hfree k ok hk hki ?_ hno
        by_cases hjk : j = k
        · subst hjk; exact hjun
        · rw [getD_set_ne true hjk] at hun; exact hun
      refine D1_mono h2 fun σ' ⟨h3, h4, h5⟩ => ?_
      have htj : tl j = false := by
        cases htl : tl j with
        | false => rfl
        | true =>
          obtain ⟨e, he, hb, hon⟩ := hT j oj htl hoj
          exact absurd hon (hnot e he hb)
      have hlate : late tl (l.setIfInBounds i true) j = false := by
        unfold late
        rw [htj, Bool.false_or, List.any_eq_false]
        intro k _ hk
        simp only [Bool.and_eq_true] at hk
        by_cases hki : i = k
        · subst hki; rw [hti] at hk; cases hk.1
        · rw [getD_set_ne false hki, hN k hk.1] at hk; cases hk.2
      have hN' : ∀ k, tl k = true → (l.setIfInBounds j true).getD k false = false := fun k hk => by
        by_cases hkj : j = k
        · subst hkj; rw [htj] at hk; cases hk
        · rw [getD_set_ne false hkj]; exact hN k hk
      have h4 := h4 hlate
      rw [hbl] at h4
      refine ⟨fun _ => h4, ih (l.setIfInBounds j true) σ' hfree' hN' (ready_mono hr (Ne.symm hji)) h4 h3 ?_⟩
      rw [Array.setIfInBounds_comm _ _ hji]
      exact h5

theorem DL_hoist {blK : Int → Option Blk} {tl : Nat → Bool} {K : St → Prop} (fuel : Nat) : ∀ (is : List Nat) (l : Array Bool) (σ : St), (∀ i, i ∈ is → tl i = false) → (∀ k, tl k = true → l.getD k false = false) → (∀ i, i ∈ is → ∀ j oj, tl j = true → ops[j]? = some oj → ∃ e ∈ oj.after, Region.binds .any e = true ∧ e.on = i) → hoistB ops is l = true → Sub blK σ.bl →
    Hoist P ops blK is (DL P ops blK tl K fuel (setAll is l)) σ → DL P ops blK tl K (fuel + is.length) l σ
  | [], l, σ, _, _, _, _, _, h => h
  | i :: is, l, σ, hI, hN, hT, hB, hs, h => by
    simp only [hoistB, Bool.and_eq_true] at hB
    obtain ⟨⟨hr, hf⟩, hB'⟩ := hB
    unfold Hoist at h
    split at h
    · rename_i o ho
      obtain ⟨v, hy, hK⟩ := h
      have : fuel + (i :: is).length = (fuel + is.length) + 1 := by simp; omega
      rw [this]
      refine DL_first ho (hI i List.mem_cons_self) (hT i List.mem_cons_self) _ _ _ (Region.free_spec ho hf) hN (by simpa using hr) hs hy (DL_hoist fuel is _ _ (fun i hi => hI i (List.mem_cons_of_mem _ hi)) (fun k hk => ?_) (fun i hi => hT i (List.mem_cons_of_mem _ hi)) hB' ?_ hK)
      · by_cases hki : i = k
        · subst hki; rw [hI i List.mem_cons_self] at hk; cases hk
        · rw [getD_set_ne false hki]; exact hN k hk
      cases o.dst <;> exact hs
    · exact h.elim

end

theorem AW_mixedL {P : Program} {id : Nat} {ops : Array Oper} {K : Ex → St → Prop} {σ : St} (hm : P.follows .mixedOrders = true) (blK : Int → Option Blk) (hs : Sub blK σ.bl) (is : List Nat) (fuel n : Nat) (hn : (ops.size == fuel + is.length && is.all (fun i => decide (i < ops.size)) && hoistB ops is (Array.replicate ops.size false) && tailB ops (fun j => decide (n ≤ j)) is && is.all (fun i => decide (i < n))) = true)
    (h : HoistF P (ops.toList.map (·.dst)) blK (is.filterMap fun i => ops[i]?) (DL P ops blK (fun j => decide (n ≤ j)) (K .normal) fuel (setAll is (Array.replicate ops.size false))) σ) : AW P (.region id ops true) K σ := by
  simp only [Bool.and_eq_true, beq_iff_eq] at hn
  refine AW_drawL hm blK (tl := fun j => decide (n ≤ j)) ?_
  have := DL_hoist (P := P) (ops := ops) (blK := blK) (tl := fun j => decide (n ≤ j)) (K := K .normal) fuel is (Array.replicate ops.size false) σ
    (fun i hi => by have := List.all_eq_true.1 hn.2 i hi; simp at this ⊢; exact this) (fun k _ => by
      rw [Array.getD_eq_getD_getElem?, Array.getElem?_replicate]; split <;> rfl) (tailB_spec hn.1.2) hn.1.1.2 hs (Hoist_is _ is σ (filter_some is hn.1.1.1.2) h)
  rw [← hn.1.1.1.1] at this
  exact this

section
variable {P : Program} {ops : Array Oper} {blK : Int → Option Blk} {tl : Nat → Bool} {K : St → Prop} {fuel : Nat} {l : Array Bool} {σ : St}
theorem DL_done (hr : Region.ready .any ops l = []) (h : K σ) : DL P ops blK tl K fuel l σ := by
  cases fuel with
  | zero => exact ⟨hr, h⟩
  | succ n => exact ⟨fun _ => h, fun i hi => by rw [hr] at hi; cases hi⟩
theorem DL_op {i : Nat} {o : Oper} {e : Bool} (ho : ops[i]? = some o) (hg : o.guard = none) (he : late tl l i = e) (h : T P o (fun σ' => (e = false → Sub blK σ'.bl) ∧ DL P ops blK tl K fuel (l.setIfInBounds i true) σ') σ) :
    D1 P ops i (fun σ' => (late tl l i = false → Sub blK σ'.bl) ∧ DL P ops blK tl K fuel (l.setIfInBounds i true) σ') σ := by
  subst he; unfold D1; rw [ho]; simp only [hg]; exact h
theorem DL_one {i : Nat} {o : Oper} (e : Bool) (hr : Region.ready .any ops l = [i]) (ho : ops[i]? = some o) (hg : o.guard = none) (he : late tl l i = e) (h : T P o (fun σ' => (e = false → Sub blK σ'.bl) ∧ DL P ops blK tl K fuel (l.setIfInBounds i true) σ') σ) : DL P ops blK tl K (fuel + 1) l σ := by
  refine ⟨fun h0 => (by rw [hr] at h0; cases h0), fun k hk => ?_⟩
  rw [hr] at hk
  obtain rfl : k = i := by simpa using hk
  exact DL_op ho hg he h
theorem DL_two {i j : Nat} {o p : Oper} (e f : Bool) (hr : Region.ready .any ops l = [i, j]) (ho : ops[i]? = some o) (hg : o.guard = none) (he : late tl l i = e) (ho' : ops[j]? = some p) (hg' : p.guard = none) (he' : late tl l j = f)
    (h : T P o (fun σ' => (e = false → Sub blK σ'.bl) ∧ DL P ops blK tl K fuel (l.setIfInBounds i true) σ') σ)
    (h' : T P p (fun σ' => (f = false → Sub blK σ'.bl) ∧ DL P ops blK tl K fuel (l.setIfInBounds j true) σ') σ) : DL P ops blK tl K (fuel + 1) l σ := by
  refine ⟨fun h0 => (by rw [hr] at h0; cases h0), fun k hk => ?_⟩
  rw [hr] at hk
  rcases List.mem_cons.1 hk with rfl | hk
  · exact DL_op ho hg he h
  · obtain rfl : k = j := by simpa using hk
    exact DL_op ho' hg' he' h'
theorem DL_three {i j m : Nat} {o p q : Oper} (e f g : Bool) (hr : Region.ready .any ops l = [i, j, m]) (ho : ops[i]? = some o) (hg : o.guard = none) (he : late tl l i = e) (ho' : ops[j]? = some p) (hg' : p.guard = none) (he' : late tl l j = f) (ho2 : ops[m]? = some q) (hg2 : q.guard = none) (he2 : late tl l m = g)
    (h : T P o (fun σ' => (e = false → Sub blK σ'.bl) ∧ DL P ops blK tl K fuel (l.setIfInBounds i true) σ') σ)
    (h' : T P p (fun σ' => (f = false → Sub blK σ'.bl) ∧ DL P ops blK tl K fuel (l.setIfInBounds j true) σ') σ)
    (h2 : T P q (fun σ' => (g = false → Sub blK σ'.bl) ∧ DL P ops blK tl K fuel (l.setIfInBounds m true) σ') σ) : DL P ops blK tl K (fuel + 1) l σ := by
  refine ⟨fun h0 => (by rw [hr] at h0; cases h0), fun k hk => ?_⟩
  rw [hr] at hk
  rcases List.mem_cons.1 hk with rfl | hk
  · exact DL_op ho hg he h
  · rcases List.mem_cons.1 hk with rfl | hk
    · exact DL_op ho' hg' he' h'
    · obtain rfl : k = m := by simpa using hk
      exact DL_op ho2 hg2 he2 h2
end

/-! ### A middle that is stated -/
def seqA (P : Program) (y : Code) (K : Ex → St → Prop) (e : Ex) (σ : St) : Prop := match e with | .normal => AW P y K σ | .exit i => K (.exit i) σ | .ret => K .ret σ
@[simp] theorem seqA_normal (P : Program) (y : Code) (K : Ex → St → Prop) (σ : St) : seqA P y K .normal σ = AW P y K σ := rfl
@[simp] theorem seqA_exit (P : Program) (y : Code) (K : Ex → St → Prop) (i : Nat) (σ : St) : seqA P y K (.exit i) σ = K (.exit i) σ := rfl
@[simp] theorem seqA_ret (P : Program) (y : Code) (K : Ex → St → Prop) (σ : St) : seqA P y K .ret σ = K .ret σ := rfl
/-- Runs up to the first semicolon. -/
theorem AW_runA {P : Program} {x y : Code} {K : Ex → St → Prop} {σ : St} (h : runC P x (seqA P y K) σ) : AW P (.seq x y) K σ := by
  refine AW_seq ((AW_run h).mono fun e σ' h' => ?_)
  cases e with
  | normal => exact h'
  | exit i => exact h'
  | ret => exact h'
def midQ {α : Type} (S : α → List (Nat × V)) (B : α → Int → Option Blk) (I : α → Prop) (n : Nat) (e : Ex) (σ : St) : Prop := e = .normal ∧ ∃ a, I a ∧ Fit (S a) n (B a) σ
theorem midQ_normal {α : Type} (S : α → List (Nat × V)) (B : α → Int → Option Blk) (I : α → Prop) (n : Nat) (σ : St) : midQ S B I n .normal σ = ∃ a, I a ∧ Fit (S a) n (B a) σ := by simp [midQ]
/-- Whatever way the first goes: these slots and blocks. -/
theorem AW_mid {α : Type} {P : Program} {x y : Code} {K : Ex → St → Prop} {σ : St} (S : α → List (Nat × V)) (B : α → Int → Option Blk) (I : α → Prop) (n : Nat) (h1 : AW P x (midQ S B I n) σ)
    (h2 : ∀ a, I a → AW P y K ⟨n, hv (S a), B a⟩) : AW P (.seq x y) K σ := by
  refine AW_seq (h1.mono fun e σ' ⟨he, a, hI, hf⟩ => ?_)
  subst he
  exact AW_at _ _ _ hf (h2 a hI)

/-! ### The rules of reading regions, not by definition (else the kernel unfolds the whole region) -/
section
variable (P : Program) (ds : List (Option Tmp)) (blK : Int → Option Blk) (rest : List Oper) (K : St → Prop) (σ : St) (d : Option Tmp) (ty : TypeId) (pos : String) (af : Array Edge)
@[simp high] theorem HoistF_call_x (f : Operand) (args : Array Operand) (ats : Array TypeId) : HoistF P ds blK (⟨d, .call ⟨.value f, args, ats⟩, ty, pos, af, none⟩ :: rest) K σ = hcQ P ds blK rest K σ d (callV σ f args.toList) := (rfl)
@[simp high] theorem HoistF_len_x (x : Operand) (t : TypeId) : HoistF P ds blK (⟨d, .call ⟨.builtin .len, #[x], #[t]⟩, ty, pos, af, none⟩ :: rest) K σ = hoQ P ds blK rest K σ d (lenV P t (σ.ev x)) := (rfl)
@[simp high] theorem HoistF_pick_x (c a b : Operand) : HoistF P ds blK (⟨d, .pick c a b, ty, pos, af, none⟩ :: rest) K σ = hoQ P ds blK rest K σ d (qval P blK σ (.pick c a b)) := (rfl)
@[simp high] theorem HoistF_load_x (t : TypeId) (x : Operand) : HoistF P ds blK (⟨d, .load t x, ty, pos, af, none⟩ :: rest) K σ = hoQ P ds blK rest K σ d (qval P blK σ (.load t x)) := (rfl)
@[simp high] theorem HoistF_nilCheck_x (x : Operand) : HoistF P ds blK (⟨d, .nilCheck x, ty, pos, af, none⟩ :: rest) K σ = hoQ P ds blK rest K σ d (nilV (σ.ev x)) := (rfl)
@[simp high] theorem HoistF_binOp_x (op : BinOp) (t : TypeId) (x y : Operand) (t' : TypeId) : HoistF P ds blK (⟨d, .binOp op t x y t', ty, pos, af, none⟩ :: rest) K σ = hoQ P ds blK rest K σ d (binV P op t (σ.ev x) (σ.ev y)) := (rfl)
@[simp high] theorem HoistF_unOp_x (op : UnOp) (t : TypeId) (x : Operand) : HoistF P ds blK (⟨d, .unOp op t x, ty, pos, af, none⟩ :: rest) K σ = hoQ P ds blK rest K σ d (unV op (σ.ev x)) := (rfl)
@[simp high] theorem HoistF_convert_x (s t : TypeId) (x : Operand) : HoistF P ds blK (⟨d, .convert s t x, ty, pos, af, none⟩ :: rest) K σ = hoQ P ds blK rest K σ d (cvtV P blK s t (σ.ev x)) := (rfl)
@[simp high] theorem HoistF_slice_x (t : TypeId) (x : Operand) (lo hi : Option Operand) : HoistF P ds blK (⟨d, .slice t x lo hi none, ty, pos, af, none⟩ :: rest) K σ = hoQ P ds blK rest K σ d (sliV P t (σ.ev x) (lo.map σ.ev) (hi.map σ.ev)) := (rfl)
@[simp high] theorem HoistF_fieldAddr_x (t : TypeId) (x : Operand) (i : Nat) : HoistF P ds blK (⟨d, .fieldAddr t x i, ty, pos, af, none⟩ :: rest) K σ = hoQ P ds blK rest K σ d (fldV P t i (σ.ev x)) := (rfl)
@[simp high] theorem HoistF_field_x (t : TypeId) (x : Operand) (i : Nat) : HoistF P ds blK (⟨d, .field t x i, ty, pos, af, none⟩ :: rest) K σ = hoQ P ds blK rest K σ d (fieldV P t i (σ.ev x)) := (rfl)
@[simp high] theorem HoistF_indexAddr_x (t : TypeId) (x i : Operand) : HoistF P ds blK (⟨d, .indexAddr t x i, ty, pos, af, none⟩ :: rest) K σ = hoQ P ds blK rest K σ d (idxV P t (σ.ev x) (σ.ev i)) := (rfl)
@[simp high] theorem HoistF_index_x (t : TypeId) (x i : Operand) : HoistF P ds blK (⟨d, .index t x i, ty, pos, af, none⟩ :: rest) K σ = hoQ P ds blK rest K σ d (idsV P t (σ.ev x) (σ.ev i)) := (rfl)
@[simp high] theorem HoistF_extract_x (x : Operand) (i : Nat) : HoistF P ds blK (⟨d, .extract x i, ty, pos, af, none⟩ :: rest) K σ = hoQ P ds blK rest K σ d (extV i (σ.ev x)) := (rfl)
end

/-! ### Guards in regions that draw and read -/
def hgQ (P : Program) (ds : List (Option Tmp)) (blK : Int → Option Blk) (rest : List Oper) (K : St → Prop) (σ : St) (d : Option Tmp) (op : Op) (b : Bool) (v : V) : Prop := match v with
  | .bool q => if q = b then bindP (qval P blK σ op) fun v => HoistF P ds blK rest K (σ.put d v) else HoistF P ds blK rest K (σ.put d (.tup []))
  | .tup [] => HoistF P ds blK rest K (σ.put d (.tup []))
  | _ => False
def hgS (P : Program) (ds : List (Option Tmp)) (blK : Int → Option Blk) (rest : List Oper) (K : St → Prop) (σ : St) (d : Option Tmp) (op : Op) (b : Bool) (x : Option (Option Tmp)) : Prop := match x with
  | some (some t) => hgQ P ds blK rest K σ d op b (σ.ev (.tmp t))
  | _ => False
section
variable (P : Program) (ds : List (Option Tmp)) (blK : Int → Option Blk) (rest : List Oper) (K : St → Prop) (σ : St) (d : Option Tmp) (op : Op) (ty : TypeId) (pos : String) (af : Array Edge) (b : Bool)
@[simp] theorem HoistF_guard (j : Nat) : HoistF P ds blK (⟨d, op, ty, pos, af, some (j, b)⟩ :: rest) K σ = hgS P ds blK rest K σ d op b (ds[j]?) := (rfl)
@[simp] theorem hgS_some (t : Tmp) : hgS P ds blK rest K σ d op b (some (some t)) = hgQ P ds blK rest K σ d op b (σ.ev (.tmp t)) := (rfl)
@[simp] theorem hgQ_tt : hgQ P ds blK rest K σ d op true (.bool true) = hoQ P ds blK rest K σ d (qval P blK σ op) := by simp [hgQ, hoQ]
@[simp] theorem hgQ_ff : hgQ P ds blK rest K σ d op false (.bool false) = hoQ P ds blK rest K σ d (qval P blK σ op) := by simp [hgQ, hoQ]
@[simp] theorem hgQ_tf : hgQ P ds blK rest K σ d op true (.bool false) = HoistF P ds blK rest K (σ.put d (.tup [])) := by simp [hgQ]
@[simp] theorem hgQ_ft : hgQ P ds blK rest K σ d op false (.bool true) = HoistF P ds blK rest K (σ.put d (.tup [])) := by simp [hgQ]
@[simp] theorem hgQ_skip : hgQ P ds blK rest K σ d op b (.tup []) = HoistF P ds blK rest K (σ.put d (.tup [])) := (rfl)
end

/-! ### Regions that draw and read, by way of a few slots -/
theorem HoistF_frame {P : Program} {ds : List (Option Tmp)} {blK : Int → Option Blk} {K : St → Prop} (S : List (Option Tmp)) (σ0 : St) : ∀ (l : List Oper) (σ : St), HoistF P ds blK l K σ → (∀ o, o ∈ l → o.dst ∈ S) → (σ.n = σ0.n ∧ ∀ t, some t ∉ S → σ.sl t = σ0.sl t) →
    HoistF P ds blK l (fun σ' => K σ' ∧ σ'.n = σ0.n ∧ ∀ t, some t ∉ S → σ'.sl t = σ0.sl t) σ
  | [], σ, h, _, h0 => ⟨h, h0⟩
  | o :: rest, σ, h, hS, h0 => by
    have next : ∀ v, HoistF P ds blK rest K (σ.put o.dst v) → HoistF P ds blK rest (fun σ' => K σ' ∧ σ'.n = σ0.n ∧ ∀ t, some t ∉ S → σ'.sl t = σ0.sl t) (σ.put o.dst v) := fun v hv =>
      HoistF_frame S σ0 rest _ hv (fun o' ho' => hS o' (List.mem_cons_of_mem _ ho')) (by
        have hd := hS o List.mem_cons_self
        cases hod : o.dst with
        | none => exact h0
        | some d =>
          rw [hod] at hd
          exact ⟨h0.1, fun t ht => by
            show upd σ.sl d v t = _
            rw [upd_ne _ _ _ _ (fun e => ht (by rw [e]; exact hd))]; exact h0.2 t ht⟩)
    unfold HoistF at h ⊢
    cases hg : o.guard with
    | none =>
      simp only [hg] at h ⊢
      split at h
      · obtain ⟨p, h1, v, n, ys, h2, h3⟩ := h
        exact ⟨p, h1, v, n, ys, h2, next v h3⟩
      · obtain ⟨v, h1, h2⟩ := h
        exact ⟨v, h1, next v h2⟩
    | some jb =>
      obtain ⟨j, b⟩ := jb
      simp only [hg] at h ⊢
      split at h
      · rename_i d hd
        split at h
        · split at h
          · rename_i hq
            obtain ⟨v, h1, h2⟩ := h
            rw [if_pos hq]
            exact ⟨v, h1, next v h2⟩
          · rename_i hq
            rw [if_neg hq]
            exact next _ h
        · exact next _ h
        · exact h.elim
      · exact h.elim
theorem hv_of {f : Nat → V} : ∀ (l : List (Nat × V)), (∀ p, p ∈ l → f p.1 = p.2) → ∀ p, p ∈ l → hv l p.1 = f p.1
  | [], _, p, hp => by cases hp
  | (u, y) :: r, h, p, hp => by
    unfold hv
    by_cases e : p.1 = u
    · rw [if_pos e, e]; exact (h (u, y) List.mem_cons_self).symm
    · rw [if_neg e]
      rcases List.mem_cons.1 hp with rfl | hp
      · exact absurd rfl e
      · exact hv_of r (fun q hq => h q (List.mem_cons_of_mem _ hq)) p hp
theorem AW_qway {P : Program} {id : Nat} {ops : Array Oper} {K : Ex → St → Prop} {σ : St} (hm : P.follows .mixedOrders = true) (hB : quietB ops = true) (l : List (Nat × V)) (n : Nat) (bl : Int → Option Blk) (t : Nat) (v : V) (hf : Fit l n bl σ) (hd : (l.all fun p => !(ops.toList.map (·.dst)).contains (some p.1)) = true)
    (h1 : HoistF P (ops.toList.map (·.dst)) bl ops.toList (fun σ' => σ'.sl t = v ∧ σ'.bl = bl) ⟨n, hv l, bl⟩) (h2 : K .normal ⟨n, hv ((t, v) :: l), bl⟩) : AW P (.region id ops true) K σ := by
  refine AW_at l n bl hf ?_
  have hq : AW P (.region id ops true) (fun e σ' => e = .normal ∧ (σ'.sl t = v ∧ σ'.bl = bl) ∧ σ'.n = n ∧ ∀ u, some u ∉ ops.toList.map (·.dst) → σ'.sl u = hv l u) ⟨n, hv l, bl⟩ := by
    refine AW_quiet hm hB ?_
    have := HoistF_frame (ops.toList.map (·.dst)) ⟨n, hv l, bl⟩ ops.toList ⟨n, hv l, bl⟩ h1 (fun o ho => List.mem_map_of_mem ho) ⟨rfl, fun _ _ => rfl⟩
    simpa using this
  intro w0 M F a w hs
  refine wp_mono (hq w0 M F a w hs) fun e a' w' hp => ?_
  obtain ⟨ex, σ', F', e1, e2, e3, rfl, ⟨k1, k2⟩, k3, k4⟩ := hp
  refine ⟨.normal, ⟨n, hv ((t, v) :: l), bl⟩, F', e1, e2, e3.le ?_, h2⟩
  refine le_hv ⟨k3, fun p hp => ?_, by rw [k2]; exact Sub.refl _⟩
  rcases List.mem_cons.1 hp with rfl | hp
  · exact k1
  · have := List.all_eq_true.1 hd p hp
    have h5 : some p.1 ∉ ops.toList.map (·.dst) := by
      intro hc
      rw [Bool.not_eq_true'] at this
      have h6 := List.contains_iff_mem.2 hc
      rw [this] at h6; cases h6
    rw [k4 _ h5, hv_of l hf.2.1 p hp, hf.2.1 p hp]

/-- Whatever way a region goes, it keeps these slots and blocks, and sets one slot; what it makes besides is let go. -/
theorem AW_wayS {P : Program} {id : Nat} {ops : Array Oper} {K : Ex → St → Prop} {σ : St} (l : List (Nat × V)) (n : Nat) (bl : Int → Option Blk) (t : Nat) (v : V) (hf : Fit l n bl σ) (hd : (l.all fun p => !(ops.toList.map (·.dst)).contains (some p.1)) = true)
    (h1 : OpsF P (ops.toList.map (·.dst)) ops.toList (fun σ' => σ'.sl t = v ∧ Sub bl σ'.bl) ⟨n, hv l, bl⟩) (h2 : K .normal ⟨n, hv ((t, v) :: l), bl⟩) : AW P (.region id ops false) K σ := by
  refine AW_at l n bl hf ?_
  have hq : AW P (.region id ops false) (fun e σ' => e = .normal ∧ (σ'.sl t = v ∧ Sub bl σ'.bl) ∧ σ'.n = n ∧ ∀ u, some u ∉ ops.toList.map (·.dst) → σ'.sl u = hv l u) ⟨n, hv l, bl⟩ := by
    refine AW_region ?_
    exact Ops_mono _ (Ops_frame _ (Ops_of h1)) fun σ' h => ⟨rfl, h⟩
  intro w0 M F a w hs
  refine wp_mono (hq w0 M F a w hs) fun e a' w' hp => ?_
  obtain ⟨ex, σ', F', e1, e2, e3, rfl, ⟨k1, k2⟩, k3, k4⟩ := hp
  refine ⟨.normal, ⟨n, hv ((t, v) :: l), bl⟩, F', e1, e2, e3.le ?_, h2⟩
  refine le_hv ⟨k3, fun p hp => ?_, k2⟩
  rcases List.mem_cons.1 hp with rfl | hp
  · exact k1
  · have := List.all_eq_true.1 hd p hp
    have h5 : some p.1 ∉ ops.toList.map (·.dst) := by
      intro hc
      rw [Bool.not_eq_true'] at this
      have h6 := List.contains_iff_mem.2 hc
      rw [this] at h6; cases h6
    rw [k4 _ h5, hv_of l hf.2.1 p hp, hf.2.1 p hp]

/-! ### A call that is handed data of the call's own for good -/
theorem callP_give {P : Program} {f : FuncId} {xs ys : List V} {bl bl2 : Int → Option Blk} {k : V → (Int → Option Blk) → Prop} (n : Nat) (hs : Sub bl2 bl) (hx : frzL (dropB bl bl2) n xs = some ys) (h : CallP P f ys bl2 k) : CallP P f xs bl k := by
  refine ⟨h.1, fun w0 M F w vs hm hrep => ?_⟩
  have hlen := frzL_get hx
  have hreps : Reps (fun k => F k ∨ Own (dropB bl bl2) k) w ys vs := by
    refine ⟨by rw [hrep.1, hlen.1], fun i y hy => ?_⟩
    obtain ⟨x, h1, h2⟩ := hlen.2 i y hy
    exact frz_sound (fun g b hb => dropB_blk hm g b hb) (fun g b hb h0 => .inr ⟨g, b, hb, h0, rfl⟩) (fun b hb => .inl hb) n x y _ (hrep.2 i x h1) h2
  exact (h.2 w0 M _ w vs (hm.freeze hs) hreps).mono fun e w' ⟨v, r, bl', F', h1, h2, h3, h4, h5, h6, h7⟩ => ⟨v, r, bl', F', h1, fun b hb => h2 b (.inl hb), fun b hb => h3 b (.inl hb), h4, h5, h6, h7⟩
theorem callP_gro {P : Program} {f : FuncId} {xs : List V} {bl : Int → Option Blk} {r : V} {k : V → (Int → Option Blk) → Prop} (n : Nat) (bl2 : Int → Option Blk) (ys : List V) (hs : Sub bl2 bl) (hx : frzL (dropB bl bl2) n xs = some ys) (h : RO P f ys r) (hk : k r bl2) : CallP P f xs bl k :=
  callP_give n hs hx (callP_ro h hk)

/-- Less is held fast than there is. -/
theorem AW_mixedB {P : Program} {id : Nat} {ops : Array Oper} {K : Ex → St → Prop} {σ : St} (hm : P.follows .mixedOrders = true) (blK : Int → Option Blk) (hs : Sub blK σ.bl) (is : List Nat) (fuel : Nat) (hn : (ops.size == fuel + is.length && is.all (fun i => decide (i < ops.size)) && hoistB ops is (Array.replicate ops.size false)) = true)
    (h : HoistF P (ops.toList.map (·.dst)) blK (is.filterMap fun i => ops[i]?) (DAny P ops blK (fun _ => false) (K .normal) fuel (setAll is (Array.replicate ops.size false))) σ) : AW P (.region id ops true) K σ := by
  simp only [Bool.and_eq_true, beq_iff_eq] at hn
  exact AW_draw_mixed hm is fuel blK hs hn.1.1 hn.2 (tl := fun _ => false) (fun _ _ _ _ h => by cases h) (Hoist_is _ is σ (filter_some is hn.1.2) h)

end Go.Proofs.YticmgmemnpcbbaaGreat.Vm

namespace Go.Proofs.YticmgmemnpcbbaaGreat.Vm
open Go Go.Proofs
set_option linter.unusedSimpArgs false
set_option linter.unusedVariables false

theorem lv_get (a i : Nat) (h : i < (lim a).length) : (iv (lim a))[i]? = some [.int .i64 (dg a i : Nat)] := by rw [iv_get _ _ h, lim_at h]

theorem eq_dec (a b : Int) : (a == b) = decide (a = b) := by rw [Bool.eq_iff_iff]; simp
theorem iv_all1 (ns : List Int) : (iv ns).all (fun c => 1 == c.length) = true := by simp [iv]
theorem iv_take (ns : List Int) (n : Nat) : (iv ns).take n = iv (ns.take n) := by simp [iv, List.map_take]
@[simp high] theorem binV_addH (P : Program) (t : TypeId) (a b : Int) : binV P .add t (.int .i64 a) (.int .i64 b) = some (.int .i64 (IntKind.i64.wrap (a + b))) := (rfl)
@[simp high] theorem binV_subH (P : Program) (t : TypeId) (a b : Int) : binV P .sub t (.int .i64 a) (.int .i64 b) = some (.int .i64 (IntKind.i64.wrap (a - b))) := (rfl)
@[simp high] theorem binV_mulH (P : Program) (t : TypeId) (a b : Int) : binV P .mul t (.int .i64 a) (.int .i64 b) = some (.int .i64 (IntKind.i64.wrap (a * b))) := (rfl)
@[simp high] theorem binV_quoH (P : Program) (t : TypeId) (a b : Int) : binV P .quo t (.int .i64 a) (.int .i64 b) = if b = 0 then none else some (.int .i64 (IntKind.i64.wrap (a.tdiv b))) := (rfl)
@[simp high] theorem binV_remH (P : Program) (t : TypeId) (a b : Int) : binV P .rem t (.int .i64 a) (.int .i64 b) = if b = 0 then none else some (.int .i64 (a.tmod b)) := (rfl)
@[simp high] theorem binV_eqlH (P : Program) (t : TypeId) (a b : Int) : binV P .eql t (.int .i64 a) (.int .i64 b) = some (.bool (a == b)) := (rfl)
@[simp high] theorem binV_neqH (P : Program) (t : TypeId) (a b : Int) : binV P .neq t (.int .i64 a) (.int .i64 b) = some (.bool (a != b)) := (rfl)
@[simp high] theorem binV_lssH (P : Program) (t : TypeId) (a b : Int) : binV P .lss t (.int .i64 a) (.int .i64 b) = some (.bool (decide (a < b))) := (rfl)
@[simp high] theorem binV_leqH (P : Program) (t : TypeId) (a b : Int) : binV P .leq t (.int .i64 a) (.int .i64 b) = some (.bool (decide (a ≤ b))) := (rfl)
@[simp high] theorem binV_gtrH (P : Program) (t : TypeId) (a b : Int) : binV P .gtr t (.int .i64 a) (.int .i64 b) = some (.bool (decide (b < a))) := (rfl)
@[simp high] theorem binV_geqH (P : Program) (t : TypeId) (a b : Int) : binV P .geq t (.int .i64 a) (.int .i64 b) = some (.bool (decide (b ≤ a))) := (rfl)

theorem compare_ro (a b : Nat) (ha : (lim a).length ≤ 1048576) (hb : (lim b).length ≤ 1048576) : RO Tryz.prog 100 [.sl (iv (lim a)), .sl (iv (lim b))] (.int .i64 (cmpN a b)) := by
  refine ro_of2 Tryz.func100 rfl rfl (by rw [Tryz.ntmps100]; simp) fun bl => ?_
  rw [Tryz.ntmps100, Tryz.results100]
  refine AW_run ?_
  simp
  refine ⟨fun h => ⟨fun h1 => ?_, fun h1 => ?_⟩, fun h => ?_⟩
  · exact retRO0 (by simp [cmp_len_lt h1]) rfl rfl
  · exact retRO0 (by simp [cmp_len_gt (show (lim b).length < (lim a).length by omega)]) rfl rfl
  have h : (lim a).length = (lim b).length := by omega
  have w0 : IntKind.i64.wrap (((lim a).length : Int) - 1) = ((lim a).length : Int) - 1 := i64_in (by omega) (by omega)
  simp [w0]
  refine AW_for (fun k : Nat => [(0, .sl (iv (lim a))), (1, .sl (iv (lim b))), (5, .int .i64 ((k : Int) - 1))]) (fun _ => bl) (fun k => k ≤ (lim a).length ∧ ∀ j, k ≤ j → dg a j = dg b j) (fun k => k) _ (lim a).length ⟨Nat.le_refl _, fun j hj => by rw [dg_out hj, dg_out (by omega)]⟩ ⟨rfl, by simp, Sub.refl _⟩ ?_
  intro k ⟨hk, hc⟩
  refine AW_run ?_
  simp
  refine ⟨fun h1 => ?_, fun h1 => ?_⟩
  · obtain ⟨m, rfl⟩ : ∃ m, k = m + 1 := ⟨k - 1, by omega⟩
    have hm : m < (lim a).length := by omega
    have hm2 : m < (lim b).length := by omega
    have e1 : ((m + 1 : Nat) : Int) - 1 = m := by omega
    refine AW_quiet mixedO (by kernel_rfl) ?_
    simp [e1, lv_get _ _ hm, lv_get _ _ hm2]
    refine ⟨fun h2 => ?_, fun h2 => ?_⟩
    · exact retRO0 (by simp [cmp_lt h hm (fun j hj => hc j (by omega)) h2]) rfl rfl
    refine AW_quiet mixedO (by kernel_rfl) ?_
    simp [e1, lv_get _ _ hm, lv_get _ _ hm2]
    refine ⟨fun h3 => ?_, fun h3 => ?_⟩
    · exact retRO0 (by simp [cmp_gt h hm (fun j hj => hc j (by omega)) h3]) rfl rfl
    have w1 : IntKind.i64.wrap ((m : Int) - 1) = (m : Int) - 1 := i64_in (by omega) (by omega)
    simp [w1, loopQ_normal]
    refine ⟨m, ⟨by omega, fun j hj => ?_⟩, by omega, rfl, by simp, Sub.refl _⟩
    rcases Nat.lt_or_ge m j with hlt | hge
    · exact hc j (by omega)
    · obtain rfl : j = m := by omega
      omega
  · have : k = 0 := by omega
    subst this
    exact retRO0 (by simp [cmp_eq h fun j => hc j (Nat.zero_le _)]) rfl rfl

theorem trim_ro (ns : List Int) (hd : Dig ns) (hn : ns.length ≤ 1048576) : RO Tryz.prog 238 [.sl (iv ns)] (.sl (iv (lim (val ns)))) := by
  refine ro_of2 Tryz.func238 rfl rfl (by rw [Tryz.ntmps238]; simp) fun bl => ?_
  rw [Tryz.ntmps238, Tryz.results238]
  refine AW_run ?_
  simp
  refine AW_for (fun n : Nat => [(0, .sl (iv (ns.take n)))]) (fun _ => bl) (fun n => n ≤ ns.length ∧ ∀ i (hi : i < ns.length), n ≤ i → ns[i] = 0) (fun n => n) _ ns.length ⟨Nat.le_refl _, fun i hi h => by omega⟩ ⟨rfl, by simp, Sub.refl _⟩ ?_
  intro n ⟨hl, hz⟩
  have hlen : (ns.take n).length = n := by simp; omega
  refine AW_run ?_
  simp
  refine AW_way0 [(0, .sl (iv (ns.take n)))] _ bl 14 (.bool (decide (0 < n) && decide (ns.getD (n - 1) 1 = 0))) ⟨rfl, by simp, Sub.refl _⟩ rfl ?_ ?_
  · simp [hlen]
    refine ⟨fun h => ?_, fun h => by simp [h]⟩
    have w1 : IntKind.i64.wrap ((n : Int) - 1) = ((n - 1 : Nat) : Int) := by rw [i64_in (by omega) (by omega)]; omega
    have h2 : n - 1 < ns.length := by omega
    have q : (iv (ns.take n))[n - 1]? = some [.int .i64 ns[n - 1]] := by rw [iv_get _ _ (by omega)]; simp
    simp [w1, h2, h, q, eq_dec]
  simp
  refine ⟨fun h1 h2 => ?_, fun h1 => ?_⟩
  · have w1 : IntKind.i64.wrap ((n : Int) - 1) = ((n - 1 : Nat) : Int) := by rw [i64_in (by omega) (by omega)]; omega
    simp [Nat.min_eq_left hl, w1, sliV, iv_all1, loopQ_normal]
    refine ⟨n - 1, ⟨by omega, fun i hi h3 => ?_⟩, by omega, rfl, ?_, Sub.refl _⟩
    · rcases Nat.lt_or_ge i n with h4 | h4
      · obtain rfl : i = n - 1 := by omega
        simpa [hi] using h2
      · exact hz i hi h4
    · simp [iv_take, List.take_take]
      try (congr 2; omega)
  · have hz2 : ∀ i (hi : i < ns.length), n = i + 1 → ns[i] ≠ 0 := by
      intro i hi e
      subst e
      have := h1 (by omega)
      simpa [hi] using this
    have := trim_lim hd hl hz hz2
    rw [this]
    exact retRO0 (by simp) rfl rfl

theorem app_set {o : List Int} {i k : Nat} (h : o.length = i) (x z : Int) : (o ++ List.replicate (k + 1) z).set i x = (o ++ [x]) ++ List.replicate k z := by
  subst h
  rw [List.set_append_right _ _ (Nat.le_refl _), Nat.sub_self, List.replicate_succ, List.set_cons_zero, List.append_assoc]; rfl
theorem app_get {o : List Int} {i k : Nat} (h : o.length = i) (z : Int) : (iv (o ++ List.replicate (k + 1) z))[i]? = some [.int .i64 z] := by
  subst h
  rw [iv_get _ _ (by simp)]
  simp
theorem iv_set (ns : List Int) (i : Nat) (x : Int) : (iv ns).set i [.int .i64 x] = iv (ns.set i x) := by simp [iv, List.map_set]
theorem wq {x n : Int} (h0 : 0 ≤ x) (h1 : x ≤ 9223372036854775807) (hn : 0 < n) : IntKind.i64.wrap (x.tdiv n) = x.tdiv n := by
  rw [Int.tdiv_eq_ediv_of_nonneg h0]
  have a1 := Int.ediv_nonneg h0 (by omega : 0 ≤ n)
  have a2 := Int.ediv_le_self n h0
  exact i64_in (by omega) (by omega)
theorem frz_own {bl bl' : Int → Option Blk} {g : Int} {ns : List Int} {n : Nat} (hg0 : 0 ≤ g) (hg : bl g = none) (hb : bl' g = some ⟨1, iv ns⟩) (hn : ns.length = n) : frzL (dropB bl' bl) 1 [.lsl g 1 0 n] = some [.sl (iv ns)] := by
  unfold frzL frzL
  rw [frz_slice hg0 hg hb (by simp [hn]) (iv_cl ns)]
theorem app_set1 {o : List Int} {i : Nat} (h : o.length = i) (x z : Int) : (o ++ [z]).set i x = o ++ [x] := by
  have := app_set (k := 0) h x z
  simpa using this
structure PL where
  i : Nat
  o : List Int
  c : Int
theorem plus_ro (a b : Nat) (ha : (lim a).length ≤ 1048575) (hb : (lim b).length ≤ 1048575) : RO Tryz.prog 271 [.sl (iv (lim a)), .sl (iv (lim b))] (.sl (iv (lim (a + b)))) := by
  refine ro_of2 Tryz.func271 rfl rfl (by rw [Tryz.ntmps271]; simp) fun bl => ?_
  rw [Tryz.ntmps271, Tryz.results271]
  refine AW_runA ?_
  simp
  refine AW_mid (fun p : Nat × Nat => [(0, .sl (iv (lim p.1))), (1, .sl (iv (lim p.2)))]) (fun _ => bl) (fun p => p.1 + p.2 = a + b ∧ (lim p.2).length ≤ (lim p.1).length ∧ (lim p.1).length ≤ 1048575) 55 ?_ ?_
  · refine AW_run ?_
    simp
    refine ⟨fun h => ?_, fun h => ?_⟩
    · rw [midQ_normal]
      exact ⟨(b, a), ⟨Nat.add_comm _ _, by simp only; omega, hb⟩, rfl, by simp, Sub.refl _⟩
    · rw [midQ_normal]
      exact ⟨(a, b), ⟨rfl, by simp only; omega, ha⟩, rfl, by simp, Sub.refl _⟩
  rintro ⟨x, y⟩ ⟨hxy, hle, hx⟩
  simp only at hxy hle hx
  rw [← hxy]
  refine AW_run ?_
  have w0 : IntKind.i64.wrap (((lim x).length : Int) + 1) = (lim x).length + 1 := i64_in (by omega) (by omega)
  simp [w0]
  refine ⟨(lim x).length + 1, by simp, by simp, by omega, by unfold maxLen; omega, fun g hg0 hg => ?_⟩
  have er : List.replicate ((lim x).length + 1) [V.int IntKind.i64 0] = iv (List.replicate ((lim x).length + 1) 0) := by simp [iv]
  simp [er]
  refine AW_for (fun p : PL => [(0, .sl (iv (lim x))), (1, .sl (iv (lim y))), (5, .lsl g 1 0 ((lim x).length + 1)), (6, .int .i64 p.c), (20, .sl (iv (lim x))), (21, .int .i64 (lim x).length), (22, .int .i64 p.i)]) (fun p => upd bl g (some ⟨1, iv (p.o ++ List.replicate ((lim x).length + 1 - p.i) 0)⟩))
    (fun p => p.i ≤ (lim x).length ∧ PlusI x y p.i p.o p.c) (fun p => (lim x).length - p.i) _ ⟨0, [], 0⟩ ⟨Nat.zero_le _, PlusI.start x y⟩ ⟨rfl, by simp, sub_eq (by simp)⟩ ?_
  rintro ⟨i, o, c⟩ ⟨hi, hI⟩
  simp only at hi hI
  have hb1 := hI.x
  have hd1 := dg_lt x i
  have hd2 := dg_lt y i
  have hc0 := hI.c0
  have hc1 := hI.c1
  obtain ⟨k, hk⟩ : ∃ k, (lim x).length + 1 - i = k + 1 := ⟨(lim x).length - i, by omega⟩
  refine AW_run ?_
  simp
  refine ⟨fun h1 => ?_, fun h1 => ?_⟩
  · have w1 : IntKind.i64.wrap ((dg x i : Int) + c) = dg x i + c := i64_in (by omega) (by omega)
    have w2 : IntKind.i64.wrap ((dg x i : Int) + c + dg y i) = dg x i + c + dg y i := i64_in (by omega) (by omega)
    have w3 : IntKind.i64.wrap ((i : Int) + 1) = i + 1 := i64_in (by omega) (by omega)
    simp [lv_get _ _ h1, w1]
    refine ⟨fun h2 => ?_, fun h2 => ?_⟩
    · have w4 := wq (x := (dg x i : Int) + c + dg y i) (n := 1000000000) (by omega) (by omega) (by omega)
      simp [lv_get _ _ h2, w2, w3, w4, hk, app_get hI.len]
      refine ⟨by omega, ?_⟩
      rw [loopQ_normal]
      refine ⟨⟨i + 1, o ++ [((dg x i : Int) + c + dg y i).tmod 1000000000], ((dg x i : Int) + c + dg y i).tdiv 1000000000⟩, ⟨by simp only; omega, hI.next (by omega)⟩, by simp only; omega, rfl, by simp, sub_eq ?_⟩
      rw [iv_set, app_set hI.len]
      have e : (lim x).length + 1 - (i + 1) = k := by omega
      simp [e]
    · have d0 : dg y i = 0 := dg_out (by omega)
      have w4 := wq (x := (dg x i : Int) + c) (n := 1000000000) (by omega) (by omega) (by omega)
      simp [w3, w4, hk, app_get hI.len]
      refine ⟨by omega, ?_⟩
      rw [loopQ_normal]
      refine ⟨⟨i + 1, o ++ [((dg x i : Int) + c).tmod 1000000000], ((dg x i : Int) + c).tdiv 1000000000⟩, ⟨by simp only; omega, hI.next (by omega)⟩, by simp only; omega, rfl, by simp, sub_eq ?_⟩
      rw [iv_set, app_set hI.len]
      have e : (lim x).length + 1 - (i + 1) = k := by omega
      simp [e]
  · have e : i = (lim x).length := by omega
    subst e
    obtain ⟨hD, hv⟩ := hI.impl (Nat.le_refl _) hle
    simp [hk, app_get hI.len]
    have k0 : k = 0 := by omega
    subst k0
    have hg' : bl g = none := hg
    simp [iv_set, app_set1 hI.len]
    refine ⟨by omega, callP_gro 1 bl _ (by simp [hg']) (frz_own hg0 hg' (by simp) (by simp [hI.len])) (trim_ro _ hD (by simp [hI.len]; omega)) ?_⟩
    rw [hv]
    simp
    exact retRO0 (by simp) rfl rfl

end Go.Proofs.YticmgmemnpcbbaaGreat.Vm

namespace Go.Proofs.YticmgmemnpcbbaaGreat.Vm
open Go Go.Proofs
set_option linter.unusedSimpArgs false
set_option linter.unusedVariables false

theorem lim_step {n : Nat} (h : 0 < n) : lim n = ((n % 1000000000 : Nat) : Int) :: lim (n / 1000000000) := lim_pos (by omega)
theorem lim_u64 {N : Nat} (h : N ≤ 18446744073709551615) : (lim N).length ≤ 3 := lim_length_le.2 (Nat.lt_of_le_of_lt h (by decide +kernel))
theorem limbsOf_nw (N : Nat) (hN : N ≤ 18446744073709551615) : NW Tryz.prog 230 [.int .u64 N] (fl 1 (iv (lim N))) := by
  have hL := lim_u64 hN
  refine nw_of Tryz.func230 rfl rfl (by rw [Tryz.ntmps230]; simp) fun bl => ?_
  rw [Tryz.ntmps230, Tryz.results230]
  refine AW_run ?_
  simp
  refine AW_ghost 3 1 (by simp) fun g00 hg00 => ?_
  refine AW_for (fun p : Int × List Int × Nat => [(0, .int .u64 p.2.2), (3, .lsl p.1 1 0 p.2.1.length)]) (fun p => upd bl p.1 (some ⟨1, iv p.2.1⟩)) (fun p => lim N = p.2.1 ++ lim p.2.2 ∧ p.2.2 ≤ 18446744073709551615 ∧ bl p.1 = none ∧ (p.1 < 0 → p.2.1 = [])) (fun p => p.2.2) _ (g00, [], N) ⟨by simp, hN, hg00, fun _ => rfl⟩ ⟨rfl, by simp, sub_eq (by simp [iv])⟩ ?_
  rintro ⟨g, o, n⟩ ⟨hl, hn, hg, h0⟩
  simp only at hl hn hg h0
  have hlo : o.length ≤ 3 := by have := congrArg List.length hl; simp at this; omega
  refine AW_run ?_
  simp
  refine ⟨fun h => ?_, fun h => ?_⟩
  · intro g2 hg2 h2g hb2
    simp [h2g, Ne.symm h2g, appV, elsV, Int.not_lt.2 hg2]
    refine ⟨by omega, fun g3 hg3 hb3 => ?_⟩
    have hb3' : bl g3 = none := by grind
    have m0 : (n : Int).tmod 1000000000 = ((n % 1000000000 : Nat) : Int) := by rw [Int.tmod_eq_emod_of_nonneg (by omega)]; omega
    have q0 : (n : Int).tdiv 1000000000 = ((n / 1000000000 : Nat) : Int) := by rw [Int.tdiv_eq_ediv_of_nonneg (by omega)]; omega
    have w1 : IntKind.i64.wrap ((n : Int) % 1000000000) = (n : Int) % 1000000000 := i64_in (by omega) (by omega)
    have w2 : IntKind.u64.wrap ((n : Int) / 1000000000) = (n : Int) / 1000000000 := IntWalk.u64_in _ ⟨by omega, by omega⟩
    simp [m0, q0, w1, w2]
    rw [loopQ_normal]
    refine ⟨(g3, o ++ [((n % 1000000000 : Nat) : Int)], n / 1000000000), ⟨by rw [hl, lim_step h]; simp, by simp only; omega, hb3', by simp only; omega⟩, by simp only; omega, rfl, by simp, ?_⟩
    rw [iv_append]
    exact sub_put (by rw [iv_takeall]; simp [iv]) (by simp [hg, hb2, h2g])
  · have e : n = 0 := by omega
    subst e
    rw [lim_zero, List.append_nil] at hl
    refine retNW [.lsl g 1 0 o.length] [g] (by simp) ?_ (by simpa using hg) (by simp [hg])
    rw [hl]
    exact own_iv.2 (.inr ⟨g, rfl, rfl, by simp, h0⟩)
theorem limbsOf_ro (N : Nat) (hN : N ≤ 18446744073709551615) : RO Tryz.prog 230 [.int .u64 N] (.sl (iv (lim N))) := by
  have := ro_of_nw 1 (limbsOf_nw N hN) (fl_dep _ _ 0)
  simpa using this

structure ML where
  i : Nat
  o : List Int
  br : Nat
theorem minus_ro (a b : Nat) (hab : b ≤ a) (ha : (lim a).length ≤ 1048575) : RO Tryz.prog 272 [.sl (iv (lim a)), .sl (iv (lim b))] (.sl (iv (lim (a - b)))) := by
  refine ro_of2 Tryz.func272 rfl rfl (by rw [Tryz.ntmps272]; simp) fun bl => ?_
  rw [Tryz.ntmps272, Tryz.results272]
  refine AW_run ?_
  simp
  refine ⟨by omega, by unfold maxLen; omega, fun g hg0 hg => ?_⟩
  have er : List.replicate ((lim a).length) [V.int IntKind.i64 0] = iv (List.replicate ((lim a).length) 0) := by simp [iv]
  simp [er]
  refine AW_for (fun p : ML => [(0, .sl (iv (lim a))), (1, .sl (iv (lim b))), (5, .lsl g 1 0 (lim a).length), (6, .int .i64 p.br), (12, .sl (iv (lim a))), (13, .int .i64 (lim a).length), (14, .int .i64 p.i)]) (fun p => upd bl g (some ⟨1, iv (p.o ++ List.replicate ((lim a).length - p.i) 0)⟩))
    (fun p => p.i ≤ (lim a).length ∧ MinusI a b p.i p.o p.br) (fun p => (lim a).length - p.i) _ ⟨0, [], 0⟩ ⟨Nat.zero_le _, MinusI.start a b⟩ ⟨rfl, by simp, sub_eq (by simp)⟩ ?_
  rintro ⟨i, o, br⟩ ⟨hi, hI⟩
  simp only at hi hI
  have hb1 := hI.x
  have hd1 := dg_lt a i
  have hd2 := dg_lt b i
  have hc1 := hI.c1
  refine AW_run ?_
  simp
  refine ⟨fun h1 => ?_, fun h1 => ?_⟩
  · obtain ⟨k, hk⟩ : ∃ k, (lim a).length - i = k + 1 := ⟨(lim a).length - i - 1, by omega⟩
    have e : (lim a).length - (i + 1) = k := by omega
    have w1 : IntKind.i64.wrap ((dg a i : Int) - br) = dg a i - br := i64_in (by omega) (by omega)
    have w2 : IntKind.i64.wrap ((dg a i : Int) - br - dg b i) = dg a i - br - dg b i := i64_in (by omega) (by omega)
    have w3 : IntKind.i64.wrap ((i : Int) + 1) = i + 1 := i64_in (by omega) (by omega)
    simp [lv_get _ _ h1, w1]
    refine ⟨fun h2 => ?_, fun h2 => ?_⟩
    · simp [lv_get _ _ h2, w2, w3, hk, app_get hI.len]
      refine ⟨fun h3 => ?_, fun h3 => ?_⟩
      · have w4 : IntKind.i64.wrap ((dg a i : Int) - br - dg b i + 1000000000) = dg a i - br - dg b i + 1000000000 := i64_in (by omega) (by omega)
        simp [w4, w3, h1, hk, app_get hI.len]
        rw [loopQ_normal]
        refine ⟨⟨i + 1, o ++ [(dg a i : Int) - br - dg b i + 1000000000], 1⟩, ⟨by simp only; omega, hI.next1 rfl (by omega)⟩, by simp only; omega, rfl, by simp, sub_eq ?_⟩
        rw [iv_set, app_set hI.len]
        simp [e]
      · simp [w3, h1, hk, app_get hI.len]
        rw [loopQ_normal]
        refine ⟨⟨i + 1, o ++ [(dg a i : Int) - br - dg b i], 0⟩, ⟨by simp only; omega, hI.next0 rfl (by omega)⟩, by simp only; omega, rfl, by simp, sub_eq ?_⟩
        rw [iv_set, app_set hI.len]
        simp [e]
    · have d0 : dg b i = 0 := dg_out (by omega)
      simp [w3, hk, app_get hI.len]
      refine ⟨fun h3 => ?_, fun h3 => ?_⟩
      · have w4 : IntKind.i64.wrap ((dg a i : Int) - br + 1000000000) = dg a i - br + 1000000000 := i64_in (by omega) (by omega)
        simp [w4, w3, h1, hk, app_get hI.len]
        rw [loopQ_normal]
        refine ⟨⟨i + 1, o ++ [(dg a i : Int) - br + 1000000000], 1⟩, ⟨by simp only; omega, hI.next1 (x := (dg a i : Int) - br) (by omega) (by omega)⟩, by simp only; omega, rfl, by simp, sub_eq ?_⟩
        rw [iv_set, app_set hI.len]
        simp [e]
      · simp [w3, h1, hk, app_get hI.len]
        rw [loopQ_normal]
        refine ⟨⟨i + 1, o ++ [(dg a i : Int) - br], 0⟩, ⟨by simp only; omega, hI.next0 (x := (dg a i : Int) - br) (by omega) (by omega)⟩, by simp only; omega, rfl, by simp, sub_eq ?_⟩
        rw [iv_set, app_set hI.len]
        simp [e]
  · have e : i = (lim a).length := by omega
    subst e
    have hv := hI.done hab (Nat.le_refl _)
    have hg' : bl g = none := hg
    simp
    refine callP_gro 1 bl _ (by simp [hg']) (frz_own (ns := o) hg0 hg' (by simp) (by simp [hI.len])) (trim_ro _ hI.dig (by simp [hI.len]; omega)) ?_
    simp [hv]
    exact retRO0 (by simp) rfl rfl

end Go.Proofs.YticmgmemnpcbbaaGreat.Vm

namespace Go.Proofs.YticmgmemnpcbbaaGreat.Vm
open Go Go.Proofs
set_option linter.unusedSimpArgs false
set_option linter.unusedVariables false

/-- Trimming a slice of the call's own: a window of it. -/
theorem trim_cp {bl : Int → Option Blk} {K : V → (Int → Option Blk) → Prop} (ns : List Int) (hd : Dig ns) (hn : ns.length ≤ 1048576) (g : Int) (hg0 : 0 ≤ g) (hb : bl g = some ⟨1, iv ns⟩)
    (hK : ∀ m, m ≤ ns.length → ns.take m = lim (val ns) → K (.lsl g 1 0 m) bl) : CallP Tryz.prog 238 [.lsl g 1 0 ns.length] bl K := by
  refine callP_of Tryz.func238 rfl rfl (by rw [Tryz.ntmps238]; simp) ?_
  rw [Tryz.ntmps238, Tryz.results238]
  refine AW_run ?_
  simp
  refine AW_for (fun n : Nat => [(0, .lsl g 1 0 n)]) (fun _ => bl) (fun n => n ≤ ns.length ∧ ∀ i (hi : i < ns.length), n ≤ i → ns[i] = 0) (fun n => n) _ ns.length ⟨Nat.le_refl _, fun i hi h => by omega⟩ ⟨rfl, by simp, Sub.refl _⟩ ?_
  intro n ⟨hl, hz⟩
  refine AW_run ?_
  simp
  refine AW_way0 [(0, .lsl g 1 0 n)] _ bl 14 (.bool (decide (0 < n) && decide (ns.getD (n - 1) 1 = 0))) ⟨rfl, by simp, Sub.refl _⟩ rfl ?_ ?_
  · simp
    refine ⟨fun h => ?_, fun h => by simp [h]⟩
    have w1 : IntKind.i64.wrap ((n : Int) - 1) = ((n - 1 : Nat) : Int) := by rw [i64_in (by omega) (by omega)]; omega
    have h2 : n - 1 < ns.length := by omega
    simp [w1, h2, h, hb, eq_dec]
    omega
  simp
  refine ⟨fun h1 h2 => ?_, fun h1 => ?_⟩
  · have w1 : IntKind.i64.wrap ((n : Int) - 1) = ((n - 1 : Nat) : Int) := by rw [i64_in (by omega) (by omega)]; omega
    simp [w1, sliV, hg0, loopQ_normal]
    refine ⟨n - 1, ⟨by omega, fun i hi h3 => ?_⟩, by omega, rfl, ?_, Sub.refl _⟩
    · rcases Nat.lt_or_ge i n with h4 | h4
      · obtain rfl : i = n - 1 := by omega
        simpa [hi] using h2
      · exact hz i hi h4
    · simp
  · have hz2 : ∀ i (hi : i < ns.length), n = i + 1 → ns[i] ≠ 0 := by
      intro i hi e
      subst e
      have := h1 (by omega)
      simpa [hi] using this
    have := trim_lim hd hl hz hz2
    rw [retK_ret]
    exact ⟨[_], by simp, hK n hl this⟩

theorem frz_win {bl bl' : Int → Option Blk} {g : Int} {ns : List Int} {n : Nat} (hg0 : 0 ≤ g) (hg : bl g = none) (hb : bl' g = some ⟨1, iv ns⟩) (hn : n ≤ ns.length) : frz (dropB bl' bl) 1 (.lsl g 1 0 n) = some (.sl (iv (ns.take n))) := by
  unfold frz
  rw [if_neg (by omega)]
  unfold dropB
  rw [hg]
  simp only [hb]
  rw [if_pos (by simp; exact hn), List.drop_zero, iv_take, if_pos (iv_cl _)]
structure TL where
  i : Nat
  j : Nat
  O : List Int
  c : Nat
theorem times_cp {bl : Int → Option Blk} {K : V → (Int → Option Blk) → Prop} (a b : Nat) (ha : (lim a).length ≤ 400000) (hb : (lim b).length ≤ 400000) (ha0 : a ≠ 0) (hb0 : b ≠ 0)
    (hK : ∀ g O, 0 ≤ g → bl g = none → (lim (a * b)).length ≤ O.length → O.take (lim (a * b)).length = lim (a * b) → K (.lsl g 1 0 (lim (a * b)).length) (upd bl g (some ⟨1, iv O⟩))) : CallP Tryz.prog 228 [.sl (iv (lim a)), .sl (iv (lim b))] bl K := by
  have la : (lim a).length ≠ 0 := fun h => ha0 (lim_nil.1 (List.length_eq_zero_iff.1 h))
  have lb : (lim b).length ≠ 0 := fun h => hb0 (lim_nil.1 (List.length_eq_zero_iff.1 h))
  refine callP_of Tryz.func228 rfl rfl (by rw [Tryz.ntmps228]; simp) ?_
  rw [Tryz.ntmps228, Tryz.results228]
  refine AW_run ?_
  simp
  refine AW_way0 [(0, .sl (iv (lim a))), (1, .sl (iv (lim b)))] _ bl 19 (.bool false) ⟨rfl, by simp, Sub.refl _⟩ rfl ?_ ?_
  · have na : lim a ≠ [] := fun h => la (by rw [h]; rfl)
    have nb : lim b ≠ [] := fun h => lb (by rw [h]; rfl)
    simp [na, nb]
  have w0 : IntKind.i64.wrap (((lim a).length : Int) + (lim b).length) = (lim a).length + (lim b).length := i64_in (by omega) (by omega)
  simp [w0]
  refine ⟨(lim a).length + (lim b).length, by simp, by simp, by omega, by unfold maxLen; omega, fun g hg0 hg => ?_⟩
  have er : List.replicate ((lim a).length + (lim b).length) [V.int IntKind.i64 0] = iv (List.replicate ((lim a).length + (lim b).length) 0) := by simp [iv]
  simp [er]
  refine AW_for (fun p : TL => [(0, .sl (iv (lim a))), (1, .sl (iv (lim b))), (5, .lsl g 1 0 ((lim a).length + (lim b).length)), (26, .sl (iv (lim a))), (27, .int .i64 (lim a).length), (28, .int .i64 p.i)]) (fun p => upd bl g (some ⟨1, iv p.O⟩))
    (fun p => p.i ≤ (lim a).length ∧ TimesI a b p.i 0 p.O 0) (fun p => (lim a).length - p.i) _ ⟨0, 0, _, 0⟩ ⟨Nat.zero_le _, TimesI.start a b⟩ ⟨rfl, by simp, sub_eq (by simp)⟩ ?_
  rintro ⟨i, j0, O, c0⟩ ⟨hi, hI⟩
  simp only at hi hI
  refine AW_run ?_
  simp
  refine ⟨fun h1 => ?_, fun h1 => ?_⟩
  · simp [lv_get _ _ h1]
    refine AW_for (fun p : TL => [(0, .sl (iv (lim a))), (1, .sl (iv (lim b))), (5, .lsl g 1 0 ((lim a).length + (lim b).length)), (6, .int .i64 i), (7, .int .i64 (dg a i : Nat)), (8, .int .i64 p.c), (26, .sl (iv (lim a))), (27, .int .i64 (lim a).length), (28, .int .i64 i), (33, .sl (iv (lim b))), (34, .int .i64 (lim b).length), (35, .int .i64 p.j)]) (fun p => upd bl g (some ⟨1, iv p.O⟩))
      (fun p => p.j ≤ (lim b).length ∧ TimesI a b i p.j p.O p.c) (fun p => (lim b).length - p.j) _ ⟨i, 0, O, 0⟩ ⟨Nat.zero_le _, hI⟩ ⟨rfl, by simp, sub_eq (by simp)⟩ ?_
    rintro ⟨i', j, O, c⟩ ⟨hj, hJ⟩
    simp only at hj hJ
    have hlen := hJ.len
    refine AW_run ?_
    simp
    refine ⟨fun h2 => ?_, fun h2 => ?_⟩
    · have hk : i + j < O.length := by omega
      obtain ⟨n1, n2, n3, hN⟩ := hJ.next h1 h2 hk
      have w1 : IntKind.i64.wrap ((i : Int) + j) = (i : Int) + j := i64_in (by omega) (by omega)
      have p1 : 0 ≤ (i : Int) + j := by omega
      have p2 : (i : Int) + j < (lim a).length + (lim b).length := by omega
      have p3 : ((i : Int) + j).toNat = i + j := by omega
      have w3 : IntKind.i64.wrap ((j : Int) + 1) = j + 1 := i64_in (by omega) (by omega)
      have hm : 0 ≤ (dg a i : Int) * dg b j ∧ (dg a i : Int) * dg b j < 1000000000000000000 := by
        have hO := hJ.dig.at hk
        have e : 0 ≤ (dg a i : Int) * dg b j := by rw [← Int.natCast_mul]; omega
        exact ⟨e, by omega⟩
      have hO := hJ.dig.at hk
      have w4 : IntKind.i64.wrap ((dg a i : Int) * dg b j) = (dg a i : Int) * dg b j := i64_in (by omega) (by omega)
      have w5 : IntKind.i64.wrap (O[i + j] + (dg a i : Int) * dg b j) = O[i + j] + (dg a i : Int) * dg b j := i64_in (by omega) (by omega)
      have w6 : IntKind.i64.wrap (O[i + j] + (dg a i : Int) * dg b j + c) = O[i + j] + (dg a i : Int) * dg b j + c := i64_in (by omega) (by omega)
      have w7 := wq (x := O[i + j] + (dg a i : Int) * dg b j + c) (n := 1000000000) n3 (by omega) (by omega)
      simp [lv_get _ _ h2, w1, w3, w4, w5, w6, w7, p1, p2, p3, hk]
      rw [loopQ_normal]
      obtain ⟨c', hc'⟩ : ∃ c' : Nat, (O[i + j] + (dg a i : Int) * dg b j + c).tdiv 1000000000 = c' := ⟨((O[i + j] + (dg a i : Int) * dg b j + c).tdiv 1000000000).toNat, by omega⟩
      refine ⟨⟨i, j + 1, O.set (i + j) ((O[i + j] + (dg a i : Int) * dg b j + c).tmod 1000000000), c'⟩, ⟨by simp only; omega, ?_⟩, by simp only; omega, rfl, by simp [hc'], sub_eq ?_⟩
      · rw [hc'] at hN; exact hN
      · rw [iv_set]
    · have e : j = (lim b).length := by omega
      have hk : i + (lim b).length < O.length := by omega
      have hR := hJ.row h1 (by omega) hj hk
      have w1 : IntKind.i64.wrap ((i : Int) + (lim b).length) = (i : Int) + (lim b).length := i64_in (by omega) (by omega)
      have p1 : 0 ≤ (i : Int) + (lim b).length := by omega
      have p2 : (i : Int) + (lim b).length < (lim a).length + (lim b).length := by omega
      have p3 : ((i : Int) + (lim b).length).toNat = i + (lim b).length := by omega
      have w3 : IntKind.i64.wrap ((i : Int) + 1) = i + 1 := i64_in (by omega) (by omega)
      simp [w1, w3, p1, p2, p3, hk]
      rw [loopQ_normal]
      refine ⟨⟨i + 1, 0, O.set (i + (lim b).length) c, 0⟩, ⟨by simp only; omega, hR⟩, by simp only; omega, rfl, by simp, sub_eq ?_⟩
      rw [iv_set]
  · have hv := hI.done (c := 0) (by omega)
    have hlen := hI.len
    have hg' : bl g = none := by simpa using hg
    have e : ((lim a).length + (lim b).length : Nat) = O.length := hlen.symm
    rw [e]
    refine trim_cp O hI.dig (by omega) g hg0 (by simp) fun m hm ht => ?_
    rw [hv] at ht
    have hml : m = (lim (a * b)).length := by rw [← ht]; simp; omega
    subst hml
    simp
    rw [retK_ret]
    exact ⟨[_], by simp, hK g O hg0 hg' hm ht⟩
theorem times_ro (a b : Nat) (ha : (lim a).length ≤ 400000) (hb : (lim b).length ≤ 400000) : RO Tryz.prog 228 [.sl (iv (lim a)), .sl (iv (lim b))] (.sl (iv (lim (a * b)))) := by
  by_cases h0 : a = 0 ∨ b = 0
  · have hz : a * b = 0 := Nat.mul_eq_zero.2 h0
    rw [hz, lim_zero]
    refine ro_of2 Tryz.func228 rfl rfl (by rw [Tryz.ntmps228]; simp) fun bl => ?_
    rw [Tryz.ntmps228, Tryz.results228]
    refine AW_run ?_
    simp
    refine AW_way0 [(0, .sl (iv (lim a))), (1, .sl (iv (lim b)))] _ bl 19 (.bool true) ⟨rfl, by simp, Sub.refl _⟩ rfl ?_ ?_
    · simp
      rcases h0 with h0 | h0
      · simp [h0, lim_zero]
      · simp [h0, lim_zero]
    simp
    exact retRO [.nils] 0 (by simp) rfl (Sub.refl _)
  · intro bl
    refine callP_frz (times_cp a b ha hb (by omega) (by omega) fun g O hg0 hg hl ht => ⟨1, ?_, by simp [hg]⟩) ⟨rfl, rfl⟩
    have := frz_win (bl' := upd bl g (some ⟨1, iv O⟩)) hg0 hg (by simp) hl
    rw [ht] at this
    exact this

structure SL where
  i : Nat
  Q : List Int
  r : Int
theorem overSmall_ro (a b : Nat) (ha : (lim a).length ≤ 1048576) (hb0 : 0 < b) (hb : b < 1000000000) : RO Tryz.prog 235 [.sl (iv (lim a)), .int .i64 b] (.tup [.sl (iv (lim (a / b))), .int .i64 (a % b : Nat)]) := by
  refine ro_of2 Tryz.func235 rfl rfl (by rw [Tryz.ntmps235]; simp) fun bl => ?_
  rw [Tryz.ntmps235, Tryz.results235]
  refine AW_run ?_
  simp
  refine ⟨by omega, by unfold maxLen; omega, fun g hg0 hg => ?_⟩
  have er : List.replicate ((lim a).length) [V.int IntKind.i64 0] = iv (List.replicate ((lim a).length) 0) := by simp [iv]
  have w0 : IntKind.i64.wrap (((lim a).length : Int) - 1) = ((lim a).length : Int) - 1 := i64_in (by omega) (by omega)
  simp [er, w0]
  refine AW_for (fun p : SL => [(0, .sl (iv (lim a))), (1, .int .i64 b), (6, .lsl g 1 0 (lim a).length), (7, .int .i64 p.r), (8, .int .i64 ((p.i : Int) - 1))]) (fun p => upd bl g (some ⟨1, iv (List.replicate p.i 0 ++ p.Q)⟩))
    (fun p => 0 ≤ p.r ∧ DivI a b p.i p.Q p.r.toNat) (fun p => p.i) _ ⟨(lim a).length, [], 0⟩ ⟨Int.le_refl _, DivI.start a b hb0⟩ ⟨rfl, by simp, sub_eq (by simp)⟩ ?_
  rintro ⟨i, Q, r⟩ ⟨hr0, hI⟩
  simp only at hr0 hI
  have hr := hI.rlt
  have hle := hI.le
  have hql := hI.len
  refine AW_run ?_
  simp [-binV, -intV]
  refine ⟨fun h1 => ?_, fun h1 => ?_⟩
  · obtain ⟨m, rfl⟩ : ∃ m, i = m + 1 := ⟨i - 1, by omega⟩
    have hm : m < (lim a).length := by omega
    have hd := dg_lt a m
    obtain ⟨z, hz⟩ : ∃ z, z = r.toNat * 1000000000 + dg a m := ⟨_, rfl⟩
    have hN := hI.next (q := z / b) (r' := z % b) (by rw [hz]) (by rw [hz])
    have e1 : ((m + 1 : Nat) : Int) - 1 = m := by omega
    have w1 : IntKind.i64.wrap (r * 1000000000) = r * 1000000000 := i64_in (by omega) (by omega)
    have w2 : IntKind.i64.wrap (r * 1000000000 + dg a m) = z := by rw [i64_in (by omega) (by omega)]; omega
    have hz2 : z ≤ 9223372036854775807 := by omega
    simp [-binV, -intV, e1, lv_get _ _ hm, w1, w2]
    clear w1 w2 hz
    have b0 : ¬ b = 0 := by omega
    have hg' : bl g = none := by simpa using hg
    have w3 := wq (x := (z : Int)) (n := b) (by omega) (by omega) (by omega)
    have w4 : (z : Int).tdiv b = (z / b : Nat) := by rw [Int.tdiv_eq_ediv_of_nonneg (by omega)]; simp
    have w5 : (z : Int).tmod b = (z % b : Nat) := by rw [Int.tmod_eq_emod_of_nonneg (by omega)]; simp
    rw [w4] at w3
    have w3' : IntKind.i64.wrap ((z : Int) / b) = (z : Int) / b := by simpa using w3
    refine ⟨by omega, AW_mixedB mixedO bl (by simp [hg']) [0, 1, 2, 3, 4, 5, 6, 7, 8] 2 (by kernel_rfl) ?_⟩
    simp [-binV, -intV, w3', w4, w5, hm, b0]
    have q : (iv (List.replicate (m + 1) 0 ++ Q))[m]? = some [.int .i64 0] := by rw [iv_get _ _ (by simp; omega)]; simp
    have w6 : IntKind.i64.wrap ((m : Int) - 1) = (m : Int) - 1 := i64_in (by omega) (by omega)
    refine DAny_one (i := 9) (by kernel_rfl) rfl rfl ?_
    simp [-binV, -intV, q, hg']
    refine DAny_one (i := 10) (by kernel_rfl) rfl rfl ?_
    simp [-binV, -intV, hg']
    refine DAny_done (by kernel_rfl) ?_
    simp [-binV, -intV, w6, loopQ_normal]
    refine ⟨⟨m, ((z / b : Nat) : Int) :: Q, (z % b : Nat)⟩, ⟨by simp only; omega, by show DivI a b m _ (((z % b : Nat) : Int)).toNat; rw [Int.toNat_natCast]; exact hN⟩, by simp only; omega, rfl, by simp, sub_eq ?_⟩
    rw [← fill_set m _ 0 Q, ← iv_set]
    simp
  · have e : i = 0 := by omega
    subst e
    obtain ⟨h2, h3⟩ := hI.done
    have h4 : r = (a % b : Nat) := by omega
    have hg' : bl g = none := by simpa using hg
    simp
    refine callP_gro 1 bl _ (by simp [hg']) (frz_own (ns := Q) hg0 hg' (by simp) (by simp [hql])) (trim_ro _ hI.dig (by omega)) ?_
    simp [h2, h4]
    exact retRO [.sl (iv (lim (a / b))), .int .i64 (a % b : Nat)] 1 (by simp) rfl (by simp)

end Go.Proofs.YticmgmemnpcbbaaGreat.Vm

namespace Go.Proofs.YticmgmemnpcbbaaGreat.Vm
open Go Go.Proofs
set_option linter.unusedSimpArgs false
set_option linter.unusedVariables false

structure KL where
  i : Nat
  O : List Int
  c : Int
theorem take_cp {bl : Int → Option Blk} {K : V → (Int → Option Blk) → Prop} (u : List Int) (V0 g j n m : Nat) (gu : Int) (hgu : 0 ≤ gu) (hb : bl gu = some ⟨1, iv u⟩) (hu : Dig u) (hn : (lim V0).length = n) (hm : j + m = u.length) (hnm : n < m) (hg : g < 1000000000) (hul : u.length ≤ 1048576)
    (hK : ∀ (O : List Int) (c : Nat) (hk : j + n < O.length), TakeI u V0 g j n O c → K (.bool (decide (O[j + n] - c < 0))) (upd bl gu (some ⟨1, iv (O.set (j + n) (O[j + n] - c))⟩))) :
    CallP Tryz.prog 236 [.lsl gu 1 j m, .sl (iv (lim V0)), .int .i64 g] bl K := by
  have hu0 : upd bl gu (some ⟨1, iv u⟩) = bl := by
    funext x; simp only [upd_apply]; split
    · rename_i h; rw [h, hb]
    · rfl
  refine callP_of Tryz.func236 rfl rfl (by rw [Tryz.ntmps236]; simp) ?_
  rw [Tryz.ntmps236, Tryz.results236]
  refine AW_run ?_
  simp [hn]
  refine AW_for (fun p : KL => [(0, .lsl gu 1 j m), (1, .sl (iv (lim V0))), (2, .int .i64 g), (7, .int .i64 p.c), (11, .sl (iv (lim V0))), (12, .int .i64 n), (13, .int .i64 p.i)]) (fun p => upd bl gu (some ⟨1, iv p.O⟩))
    (fun p => p.i ≤ n ∧ 0 ≤ p.c ∧ TakeI u V0 g j p.i p.O p.c.toNat) (fun p => n - p.i) _ ⟨0, u, 0⟩ ⟨Nat.zero_le _, Int.le_refl _, TakeI.start V0 g j hu⟩ ⟨rfl, by simp, sub_eq (by rw [hu0])⟩ ?_
  rintro ⟨i, O, c⟩ ⟨hi, hc0, hI⟩
  simp only at hi hc0 hI
  have hc1 := hI.c1
  have hlen := hI.len
  refine AW_run ?_
  simp [-binV, -intV]
  refine ⟨fun h1 => ?_, fun h1 => ?_⟩
  · have hv : i < (lim V0).length := by omega
    have hk : j + i < O.length := by omega
    have hO := hI.dig.at hk
    obtain ⟨m0, m1⟩ := hI.x hg hk
    have w3 : IntKind.i64.wrap ((i : Int) + 1) = i + 1 := i64_in (by omega) (by omega)
    have w1 : IntKind.i64.wrap ((g : Int) * dg V0 i) = (g : Int) * dg V0 i := i64_in (by omega) (by omega)
    have w2 : IntKind.i64.wrap (O[j + i] - (g : Int) * dg V0 i) = O[j + i] - (g : Int) * dg V0 i := i64_in (by omega) (by omega)
    have w4 : IntKind.i64.wrap (O[j + i] - (g : Int) * dg V0 i - c) = O[j + i] - (g : Int) * dg V0 i - c := i64_in (by omega) (by omega)
    have him : (i : Int) < m := by omega
    obtain ⟨x, hx⟩ : ∃ x, x = O[j + i] - (g : Int) * dg V0 i - c := ⟨_, rfl⟩
    have hx' : x = O[j + i] - (g : Int) * dg V0 i - (c.toNat : Int) := by rw [hx]; omega
    have wx : IntKind.i64.wrap x = x := i64_in (by omega) (by omega)
    have w5 : IntKind.i64.wrap (999999999 - x) = 999999999 - x := i64_in (by omega) (by omega)
    have key : x < 0 → 0 ≤ (999999999 - x).tdiv 1000000000 ∧ (999999999 - x).tdiv 1000000000 < 1000000000 ∧ TakeI u V0 g j (i + 1) (O.set (j + i) (x + (999999999 - x).tdiv 1000000000 * 1000000000)) ((999999999 - x).tdiv 1000000000).toNat := fun h => hI.next1 hg hk hx' h (by simp)
    obtain ⟨y, hy⟩ : ∃ y, y = (999999999 - x).tdiv 1000000000 := ⟨_, rfl⟩
    rw [← hy] at key
    simp [-binV, -intV, lv_get _ _ hv, w1, w2, w4, hk, him, ← hx, wx, w3, w5, ← hy]
    refine ⟨fun h3 => ?_, fun h3 => ?_⟩
    · obtain ⟨k1, k2, k3⟩ := key h3
      have w6 : IntKind.i64.wrap y = y := i64_in (by omega) (by omega)
      have w7 : IntKind.i64.wrap (y * 1000000000) = y * 1000000000 := i64_in (by omega) (by omega)
      have w8 : IntKind.i64.wrap (x + y * 1000000000) = x + y * 1000000000 := by
        have := k3.dig.at (k := j + i) (by simpa using hk)
        rw [List.getElem_set_self] at this
        exact i64_in (by omega) (by omega)
      simp [-binV, -intV, w6, w7, w8]
      rw [loopQ_normal]
      refine ⟨⟨i + 1, O.set (j + i) (x + y * 1000000000), y⟩, ⟨by simp only; omega, k1, k3⟩, by simp only; omega, rfl, by simp, sub_eq ?_⟩
      rw [iv_set]
    · rw [loopQ_normal]
      refine ⟨⟨i + 1, O.set (j + i) x, 0⟩, ⟨by simp only; omega, Int.le_refl _, hI.next0 hg hk hx' (by omega)⟩, by simp only; omega, rfl, by simp, sub_eq ?_⟩
      rw [iv_set]
  · have e : i = n := by omega
    subst e
    have hk : j + i < O.length := by omega
    have hO := hI.dig.at hk
    obtain ⟨c', rfl⟩ : ∃ c' : Nat, c = c' := ⟨c.toNat, by omega⟩
    have w1 : IntKind.i64.wrap (O[j + i] - (c' : Int)) = O[j + i] - (c' : Int) := i64_in (by omega) (by omega)
    have him : (i : Int) < m := by omega
    simp [-binV, -intV, hn, him, hk, w1]
    refine ⟨hnm, ?_⟩
    rw [retK_ret]
    refine ⟨[.bool (decide (O[j + i] - (c' : Int) < 0))], by simp, ?_⟩
    have := hK O c' hk (by simpa using hI)
    rw [← iv_set] at this
    exact this

theorem give_cp {bl : Int → Option Blk} {K : V → (Int → Option Blk) → Prop} (O : List Int) (t : Int) (V0 j n m : Nat) (gu : Int) (hgu : 0 ≤ gu) (hk : j + n < O.length) (hb : bl gu = some ⟨1, iv (O.set (j + n) t)⟩) (hO : Dig O) (hn : (lim V0).length = n) (hm : j + m = O.length) (ht : -1000000000 ≤ t ∧ t ≤ 1000000000) (hul : O.length ≤ 1048576)
    (hK : ∀ (v : V) (W : List Int) (d : Nat) (hk2 : j + n < W.length), GiveI O V0 j n W d → K v (upd bl gu (some ⟨1, iv (W.set (j + n) (t + d))⟩))) :
    CallP Tryz.prog 237 [.lsl gu 1 j m, .sl (iv (lim V0))] bl K := by
  have hu0 : upd bl gu (some ⟨1, iv (O.set (j + n) t)⟩) = bl := by
    funext x; simp only [upd_apply]; split
    · rename_i h; rw [h, hb]
    · rfl
  refine callP_of Tryz.func237 rfl rfl (by rw [Tryz.ntmps237]; simp) ?_
  rw [Tryz.ntmps237, Tryz.results237]
  refine AW_run ?_
  simp [hn]
  refine AW_for (fun p : KL => [(0, .lsl gu 1 j m), (1, .sl (iv (lim V0))), (4, .int .i64 p.c), (8, .sl (iv (lim V0))), (9, .int .i64 n), (10, .int .i64 p.i)]) (fun p => upd bl gu (some ⟨1, iv (p.O.set (j + n) t)⟩))
    (fun p => p.i ≤ n ∧ 0 ≤ p.c ∧ GiveI O V0 j p.i p.O p.c.toNat) (fun p => n - p.i) _ ⟨0, O, 0⟩ ⟨Nat.zero_le _, Int.le_refl _, GiveI.start V0 j hO⟩ ⟨rfl, by simp, sub_eq (by rw [hu0])⟩ ?_
  rintro ⟨i, W, c⟩ ⟨hi, hc0, hI⟩
  simp only at hi hc0 hI
  have hc1 := hI.c1
  have hlen := hI.len
  refine AW_run ?_
  simp
  refine ⟨fun h1 => ?_, fun h1 => ?_⟩
  · have hv : i < (lim V0).length := by omega
    have hki : j + i < W.length := by omega
    have hne : j + n ≠ j + i := by omega
    have hd := dg_lt V0 i
    have hW := hI.dig.at hki
    obtain ⟨n1, n2, n3, hN⟩ := hI.next hki
    have ec : ((c.toNat : Nat) : Int) = c := by omega
    rw [ec] at n1 n2 n3 hN
    have q : (iv (W.set (j + n) t))[j + i]? = some [.int .i64 W[j + i]] := by rw [iv_get _ _ (by simpa using hki), List.getElem_set_ne hne]
    have w3 : IntKind.i64.wrap ((i : Int) + 1) = i + 1 := i64_in (by omega) (by omega)
    have w1 : IntKind.i64.wrap (W[j + i] + (dg V0 i : Int)) = W[j + i] + (dg V0 i : Int) := i64_in (by omega) (by omega)
    have w2 : IntKind.i64.wrap (W[j + i] + (dg V0 i : Int) + c) = W[j + i] + (dg V0 i : Int) + c := i64_in (by omega) (by omega)
    have w4 := wq (x := W[j + i] + (dg V0 i : Int) + c) (n := 1000000000) n1 (by omega) (by omega)
    have him : (i : Int) < m := by omega
    simp [-iv_get, lv_get _ _ hv, q, w1, w2, w3, w4, him]
    rw [loopQ_normal]
    refine ⟨⟨i + 1, W.set (j + i) ((W[j + i] + (dg V0 i : Int) + c).tmod 1000000000), (W[j + i] + (dg V0 i : Int) + c).tdiv 1000000000⟩, ⟨by simp only; omega, n3, hN⟩, by simp only; omega, rfl, by simp, sub_eq ?_⟩
    rw [iv_set, List.set_comm _ _ hne]
  · have e : i = n := by omega
    subst e
    have hki : j + i < W.length := by omega
    obtain ⟨c', rfl⟩ : ∃ c' : Nat, c = c' := ⟨c.toNat, by omega⟩
    have w1 : IntKind.i64.wrap (t + (c' : Int)) = t + (c' : Int) := i64_in (by omega) (by omega)
    have him : (i : Int) < m := by omega
    have q : (iv (W.set (j + i) t))[j + i]? = some [.int .i64 t] := by rw [iv_get _ _ (by simpa using hki), List.getElem_set_self]
    simp [-iv_get, hn, him, hki, q, w1]
    refine ⟨by omega, ?_⟩
    rw [retK_normal]
    refine ⟨[], rfl, ?_⟩
    have := hK (retV []) W c' hki (by simpa using hI)
    rw [iv_set, List.set_set]
    exact this

end Go.Proofs.YticmgmemnpcbbaaGreat.Vm

namespace Go.Proofs.YticmgmemnpcbbaaGreat.Vm
open Go Go.Proofs
set_option linter.unusedSimpArgs false
set_option linter.unusedVariables false

/-! ### Clones -/
theorem Clone_ints_nw (a : List Int) (ha : a.length ≤ 1048576) : NW Tryz.prog 174 [.sl (iv a)] (fl 1 (iv a)) := by
  cases a with
  | nil =>
    intro bl
    refine callP_nilsplit ?_ ?_
    · refine callP_made ?_
      refine callP_of Tryz.func174 rfl rfl (by rw [Tryz.ntmps174]; simp) ?_
      rw [Tryz.ntmps174, Tryz.results174]
      refine AW_run ?_
      simp
      exact retNW [.nils] [] rfl (own_iv.2 (.inl ⟨rfl, rfl, rfl⟩)) (by simp) (Sub.refl _)
    · refine callP_made ?_
      refine callP_of Tryz.func174 rfl rfl (by rw [Tryz.ntmps174]; simp) ?_
      rw [Tryz.ntmps174, Tryz.results174]
      refine AW_run ?_
      simp
      intro g hg0 hg
      simp [appV, elsV]
      intro g' hb'
      refine retNW [.lsl g' 1 0 0] [g'] (by simp) (own_iv.2 (.inr ⟨g', rfl, rfl, by simp [iv], fun _ => rfl⟩)) ?_ ?_
      · simp; grind
      · have : bl g' = none := by grind
        simp [hg, this]
  | cons x a =>
    simp only [List.length_cons] at ha
    refine nw_of Tryz.func174 rfl rfl (by rw [Tryz.ntmps174]; simp) fun bl => ?_
    rw [Tryz.ntmps174, Tryz.results174]
    refine AW_run ?_
    simp [iv]
    intro g hg0 hg
    simp [appV, elsV]
    refine ⟨by omega, fun g' hg' hb' => ?_⟩
    have hbn : bl g' = none := by grind
    refine retNW [.lsl g' 1 0 (a.length + 1)] [g'] (by simp) ?_ (by simpa using hbn) (by simp [hg, hbn])
    exact (own_iv (ns := x :: a)).2 (.inr ⟨g', by simp, rfl, by simp [iv], by omega⟩)
theorem Clone_ints_ro (a : List Int) (ha : a.length ≤ 1048576) : RO Tryz.prog 174 [.sl (iv a)] (.sl (iv a)) := by
  have := ro_of_nw 1 (Clone_ints_nw a ha) (fl_dep _ _ 0)
  simpa using this

end Go.Proofs.YticmgmemnpcbbaaGreat.Vm

namespace Go.Proofs.YticmgmemnpcbbaaGreat.Vm
open Go Go.Proofs
set_option linter.unusedSimpArgs false
set_option linter.unusedVariables false

theorem cmpN_lt {a b : Nat} : cmpN a b < 0 ↔ a < b := by unfold cmpN; split <;> (try split) <;> omega
theorem len1 {b : Nat} (h : (lim b).length = 1) : dg b 0 = b ∧ b < 1000000000 ∧ 0 < b := by
  have h1 := pv_succ b 0
  rw [pv_out (by omega)] at h1
  have h2 := dg_lt b 0
  have h3 : b ≠ 0 := fun h0 => by rw [h0, lim_zero] at h; simp at h
  simp at h1
  omega
/-- The factor that the divisor is taken by. -/
theorem factor {d : Nat} (h0 : 0 < d) (h1 : d < 1000000000) : 1 ≤ 1000000000 / (d + 1) ∧ 1000000000 / (d + 1) < 1000000000 ∧ 1000000000 / (d + 1) * (d + 1) ≤ 1000000000 := by
  refine ⟨?_, ?_, Nat.div_mul_le_self _ _⟩
  · rw [Nat.le_div_iff_mul_le (by omega)]; omega
  · exact Nat.div_lt_self (by omega) (by omega)
theorem lim_one {f : Nat} (h0 : 0 < f) (h1 : f < 1000000000) : lim f = [(f : Int)] := by
  rw [lim_pos (by omega), show f / LB = 0 from Nat.div_eq_of_lt h1, lim_zero, show f % LB = f from Nat.mod_eq_of_lt h1]
theorem len_by {b f n : Nat} (hn : (lim b).length = n + 1) (hf : f * (dg b n + 1) ≤ LB) (hf0 : 0 < f) : (lim (b * f)).length = n + 1 := by
  have h1 := lim_length_mono (a := b) (b := b * f) (Nat.le_mul_of_pos_right _ hf0)
  have h2 : (lim (b * f)).length ≤ n + 1 := by
    refine lim_length_le.2 ?_
    have e := pv_succ b n
    rw [pv_out (by omega)] at e
    have hl := pv_lt b n
    have h3 : b + 1 ≤ LB ^ n * (dg b n + 1) := by rw [Nat.mul_add]; omega
    have h4 : (b + 1) * f ≤ LB ^ n * (dg b n + 1) * f := Nat.mul_le_mul_right _ h3
    have h5 : LB ^ n * (dg b n + 1) * f ≤ LB ^ n * LB := by
      rw [Nat.mul_assoc, Nat.mul_comm (dg b n + 1)]; exact Nat.mul_le_mul_left _ hf
    rw [Nat.pow_succ]
    rw [Nat.add_mul, Nat.one_mul] at h4
    omega
  omega
theorem KnI.start {a b f k n : Nat} (hn : (lim b).length = n) (hf : 0 < f) (hb : 0 < b) (hL : (lim a).length + 1 ≤ (lim (a * f)).length + k) (hnL : n ≤ (lim a).length) :
    KnI (a * f) (b * f) ((lim (a * f)).length + k) n ((lim (a * f)).length + k - n) (lim (a * f) ++ List.replicate k 0) [] := by
  have hd : Dig (lim (a * f) ++ List.replicate k 0) := Dig.append.2 ⟨lim_dig _, dig_replicate k⟩
  have hv : val (lim (a * f) ++ List.replicate k 0) = a * f := by rw [val_append, val_replicate, val_lim]; simp
  refine ⟨by simp, hd, by omega, by simp, (fun _ h => by cases h), by rw [hv]; simp [val], ?_⟩
  generalize hj : (lim (a * f)).length + k - n = j
  have hs := val_split (lim (a * f) ++ List.replicate k 0) (k := j) (by simp; omega)
  rw [hv] at hs
  generalize val ((lim (a * f) ++ List.replicate k 0).drop j) = x at hs ⊢
  rcases Nat.lt_or_ge x (b * f) with h | h
  · exact h
  exfalso
  have h1 : LB ^ j * (b * f) ≤ a * f := by
    have := Nat.mul_le_mul_left (LB ^ j) h
    omega
  have h2 : LB ^ j * b ≤ a := by
    rw [← Nat.mul_assoc] at h1
    exact Nat.le_of_mul_le_mul_right h1 hf
  have h3 := lim_length_pow (n := b) (by omega)
  have h4 : LB ^ j * LB ^ ((lim b).length - 1) ≤ LB ^ j * b := Nat.mul_le_mul_left _ h3
  rw [← Nat.pow_add] at h4
  have h5 : a < LB ^ (lim a).length := lim_length_le.1 (Nat.le_refl _)
  have hb1 : (lim b).length ≠ 0 := fun h0 => by have := lim_nil.1 (List.length_eq_zero_iff.1 h0); omega
  have h6 : LB ^ (lim a).length ≤ LB ^ (j + ((lim b).length - 1)) := Nat.pow_le_pow_right LB_pos (by omega)
  omega
theorem div_scaled {a b f : Nat} (hf : 0 < f) : a * f / (b * f) = a / b ∧ a * f % (b * f) = a % b * f := ⟨Nat.mul_div_mul_right _ _ hf, Nat.mul_mod_mul_right _ _ _⟩

/-! ### The guess of a round -/
structure GC (U V top t1 v1 v2 T ul vl : Nat) : Prop where
  hu : U = (top * LB + t1) * T + ul
  hv : V = (v1 * LB + v2) * T + vl
  hul : ul < T
  hvl : vl < T
  hv1 : 0 < v1
  hv2 : v2 < LB
  hv1l : v1 < LB
  ht1 : t1 < LB
  htop : top ≤ v1 * LB + (LB - 1)
  hlt : U < LB * V
theorem GC.V0 {U V top t1 v1 v2 T ul vl : Nat} (h : GC U V top t1 v1 v2 T ul vl) : 0 < V := by
  rw [h.hv]
  have := h.hvl
  have h0 : 0 < v1 * LB + v2 := by have := Nat.mul_pos h.hv1 LB_pos; omega
  have h1 := Nat.mul_pos h0 (show 0 < T by omega)
  omega
structure GI (U V top v1 g r : Nat) : Prop where
  eq : top = g * v1 + r
  lt : r < LB
  le : U / V ≤ g
theorem GC.start {U V top t1 v1 v2 T ul vl : Nat} (h : GC U V top t1 v1 v2 T ul vl) : GI U V top v1 (top / v1) (top % v1) := by
  refine ⟨by rw [Nat.mul_comm]; exact (Nat.div_add_mod _ _).symm, Nat.lt_trans (Nat.mod_lt _ h.hv1) h.hv1l, ?_⟩
  have e1 : U = top * (LB * T) + (t1 * T + ul) := by rw [h.hu, Nat.add_mul, Nat.mul_assoc, Nat.add_assoc]
  have e2 : V = v1 * (LB * T) + (v2 * T + vl) := by rw [h.hv, Nat.add_mul, Nat.mul_assoc, Nat.add_assoc]
  rw [e1, e2]
  refine digit_hi ?_ h.hv1
  have h1 : (t1 + 1) * T ≤ LB * T := Nat.mul_le_mul_right _ h.ht1
  rw [Nat.add_mul] at h1
  have := h.hul
  omega
theorem GC.dec {U V top t1 v1 v2 T ul vl g r : Nat} (h : GC U V top t1 v1 v2 T ul vl) (hI : GI U V top v1 g r) (hc : LB ≤ g ∨ r * LB + t1 < g * v2) : 0 < g ∧ U / V ≤ g - 1 ∧ top = (g - 1) * v1 + (r + v1) := by
  have h1 : U / V < g := by
    rcases hc with hc | hc
    · exact guess_base h.V0 h.hlt hc
    · have h2 := (guess_test (v2 := v2) (u := t1) hI.eq).1 hc
      rw [h.hu, h.hv]
      exact guess_dec (by have := h.hul; omega) h.hul (by have := Nat.mul_pos h.hv1 LB_pos; omega) h2
  generalize U / V = q at h1 ⊢
  refine ⟨by omega, by omega, ?_⟩
  obtain ⟨k, rfl⟩ : ∃ k, g = k + 1 := ⟨g - 1, by omega⟩
  have := hI.eq
  rw [Nat.add_mul] at this
  rw [Nat.add_sub_cancel]
  omega
theorem GC.done {U V top t1 v1 v2 T ul vl g r : Nat} (h : GC U V top t1 v1 v2 T ul vl) (hI : GI U V top v1 g r) (h1 : g < LB) (h2 : g * v2 ≤ r * LB + t1) : g = U / V ∨ g = U / V + 1 := by
  have hle := hI.le
  have h3 : g * (v1 * LB + v2) ≤ top * LB + t1 := by
    have := guess_test (v2 := v2) (u := t1) hI.eq
    omega
  have := guess_fin (ul := ul) h.hvl h.hv1 h1 h3
  rw [← h.hu, ← h.hv] at this
  generalize U / V = q at *
  omega
theorem GC.brk {U V top t1 v1 v2 T ul vl g r : Nat} (h : GC U V top t1 v1 v2 T ul vl) (h0 : top = g * v1 + r) (h1 : LB ≤ r) (h2 : U / V ≤ g) : g < LB ∧ (g = U / V ∨ g = U / V + 1) := by
  obtain ⟨h3, h4⟩ := guess_break (u := t1) h0 h1 h.htop h.hv2 h.hv1
  have := guess_fin (ul := ul) h.hvl h.hv1 h3 h4
  rw [← h.hu, ← h.hv] at this
  generalize U / V = q at *
  exact ⟨h3, by omega⟩

end Go.Proofs.YticmgmemnpcbbaaGreat.Vm
