/- StructureOk, the rest. -/
import Derived.Test.YtpkphjoobeacfaaK11
namespace Go.Proofs.Ytpkphjoobeacfaa.Vm
open Go Go.Proofs
set_option linter.unusedSimpArgs false
set_option linter.unusedVariables false

theorem IndexFunc_members_ro (a : List Mb) (f : FuncId) (cap : List V) (p : Mb → Bool) (ha : a.length ≤ 140737488351232) (hf : ∀ j, j ∈ a → RO Try.prog f (.agg j.c :: cap) (.bool (p j))) :
    RO Try.prog 130 [.sl (mv a), .fn f cap] (.int .i64 (ixf p a)) := by
  refine ro_of2 Try.func130 rfl rfl (by rw [Try.ntmps130]; simp) fun bl => ?_
  rw [Try.ntmps130, Try.results130]
  refine AW_run ?_
  simp
  refine AW_for (fun i : Nat => [(0, .sl (mv a)), (1, .fn f cap), (7, .int .i64 a.length), (8, .int .i64 i)]) (fun _ => bl) (fun i => i ≤ a.length ∧ ∀ j (h1 : j < a.length), j < i → p a[j] = false) (fun i => a.length - i) _ 0 ⟨Nat.zero_le _, fun j _ h0 => by omega⟩ ⟨rfl, by simp, Sub.refl _⟩ ?_
  intro i ⟨hi, hc⟩
  refine AW_run ?_
  simp
  refine ⟨fun h1 => ?_, fun h1 => ?_⟩
  · simp [h1]
    refine callP_ro (hf _ (List.getElem_mem h1)) ?_
    simp
    refine ⟨fun h2 => ?_, fun h2 => ?_⟩
    · exact retRO0 (by simp [ixf_here h1 hc h2]) rfl rfl
    · simp (disch := omega) [i64_in, loopQ_normal]
      refine ⟨i + 1, ⟨by omega, fun j hj1 hji => ?_⟩, by omega, rfl, by simp, Sub.refl _⟩
      rcases Nat.lt_or_ge j i with hlt | hge
      · exact hc j hj1 hlt
      · obtain rfl : j = i := by omega
        exact h2
  · exact retRO0 (by simp [ixf_none fun j hj => hc j hj (by omega)]) rfl rfl

theorem StructureOk1_ro (s : Str) (m : Mb) (hj : s.js.length ≤ 140737488351232) : RO Try.prog 103 [.agg m.c, .ptr s.c] (.bool (!mOk s.js m)) := by
  refine ro_of2 Try.func103 rfl rfl (by rw [Try.ntmps103]; simp) fun bl => ?_
  rw [Try.ntmps103, Try.results103]
  refine AW_run ?_
  simp [Mb.c]
  intro g hg0 hg
  refine callP_ro (memberOk_ro s m hj) ?_
  simp
  exact retRO [_] 0 rfl rfl (by simp [hg])

theorem ixf_lt {α : Type} (p : α → Bool) (xs : List α) : (decide (0 ≤ ixf p xs)) = xs.any p := by
  unfold ixf
  cases h : xs.findIdx? p with
  | none =>
    rw [List.findIdx?_eq_none_iff] at h
    have : xs.any p = false := by rw [List.any_eq_false]; intro x hx; simp [h x hx]
    simp [this]
  | some i =>
    rw [List.findIdx?_eq_some_iff_getElem] at h
    obtain ⟨h1, h2, _⟩ := h
    have : xs.any p = true := List.any_eq_true.2 ⟨xs[i], List.getElem_mem h1, h2⟩
    rw [this]; simp

theorem ContainsFunc_members_ro (a : List Mb) (f : FuncId) (cap : List V) (p : Mb → Bool) (ha : a.length ≤ 140737488351232) (hf : ∀ j, j ∈ a → RO Try.prog f (.agg j.c :: cap) (.bool (p j))) :
    RO Try.prog 102 [.sl (mv a), .fn f cap] (.bool (a.any p)) := by
  refine ro_of2 Try.func102 rfl rfl (by rw [Try.ntmps102]; simp) fun bl => ?_
  rw [Try.ntmps102, Try.results102]
  refine AW_run ?_
  simp
  refine callP_ro (IndexFunc_members_ro a f cap p ha hf) ?_
  simp
  exact retRO0 (by simp [ixf_lt]) rfl rfl

/-- The joint at i is valid and the first of its name. -/
def jOk (js : List J) (i : Nat) : Bool := if h : i < js.length then js[i].ok && decide (ixf (fun j => decide (j.name = js[i].name)) js = i) else false
theorem sOk_eq (s : Str) : sOk s = (decide (s.js.length ≤ 6) && decide (s.ms.length ≤ 8) && decide (∀ i, i < s.js.length → jOk s.js i = true) && s.ms.all (mOk s.js)) := by
  unfold sOk
  congr 2
  rw [Bool.eq_iff_iff]
  simp only [decide_eq_true_eq]
  constructor
  · intro h i hi; simp only [jOk, dif_pos hi, Bool.and_eq_true, decide_eq_true_eq]; exact h i hi
  · intro h i hi; have := h i hi; simp only [jOk, dif_pos hi, Bool.and_eq_true, decide_eq_true_eq] at this; exact this

theorem impl_StructureOk_ro (s : Str) (hj : s.js.length ≤ 140737488351232) (hm : s.ms.length ≤ 140737488351232) (hn : ∀ j, j ∈ s.js → j.name.size ≤ 140737488351232) : RO Try.prog 48 [.agg s.c] (.bool (sOk s)) := by
  refine ro_of2 Try.func48 rfl rfl (by rw [Try.ntmps48]; simp) fun bl => ?_
  rw [Try.ntmps48, Try.results48]
  refine AW_run ?_
  simp [Str.c]
  intro g hg0 hg
  refine AW_way [(1, .loc g 2 0 0)] _ (upd bl g (some ⟨2, [s.c]⟩)) 14 (.bool (! (decide (s.js.length ≤ 6) && decide (s.ms.length ≤ 8)))) (upd bl g (some ⟨2, [s.c]⟩)) ⟨rfl, by simp, sub_eq (by simp [Str.c])⟩ rfl ?_ ?_
  · simp [Str.c]
    refine ⟨fun h => .inl (by omega), fun h => ?_⟩
    rw [Bool.eq_iff_iff]; simp; omega
  simp [Str.c]
  refine ⟨fun h => ?_, fun hl1 hl2 => ?_⟩
  · refine retRO [_] 0 rfl ?_ (by simp [hg])
    simp [frz, sOk_eq]; omega
  refine AW_for (fun i : Nat => [(1, .loc g 2 0 0), (16, .sl (jv s.js)), (17, .int .i64 s.js.length), (18, .int .i64 i)]) (fun _ => upd bl g (some ⟨2, [s.c]⟩)) (fun i => i ≤ s.js.length ∧ ∀ j, j < i → jOk s.js j = true) (fun i => s.js.length - i) _ 0 ⟨Nat.zero_le _, fun j h0 => by omega⟩ ⟨rfl, by simp, sub_eq (by simp [Str.c])⟩ ?_
  intro i ⟨hi, hc⟩
  refine AW_run ?_
  simp
  refine ⟨fun h1 => ?_, fun h1 => ?_⟩
  · simp [h1, J.c]
    intro g2 hg2 h2g hb2
    refine AW_way [(1, .loc g 2 0 0), (3, .int .i64 i), (4, .loc g2 4 0 0), (16, .sl (jv s.js)), (17, .int .i64 s.js.length), (18, .int .i64 i)] _ (upd (upd bl g (some ⟨2, [s.c]⟩)) g2 (some ⟨4, [s.js[i].c]⟩)) 33 (.bool (!jOk s.js i)) (upd (upd bl g (some ⟨2, [s.c]⟩)) g2 (some ⟨4, [s.js[i].c]⟩)) ⟨rfl, by simp, sub_eq (by simp [J.c])⟩ rfl ?_ ?_
    · simp [J.c, h2g, Ne.symm h2g]
      refine callP_ro (impl_JointOk_ro s.js[i] (hn _ (List.getElem_mem h1))) ?_
      simp [h2g, Ne.symm h2g, Str.c]
      refine ⟨fun h => by simp [jOk, h1, h], fun h => ?_⟩
      refine callP_ro (impl_JointNamed_ro s _ hj) ?_
      simp [jOk, h1, h]
      rw [Bool.eq_iff_iff]; simp
    simp
    refine ⟨fun h3 => ?_, fun h3 => ?_⟩
    · refine retRO [_] 0 rfl ?_ (by simp [hg, hb2])
      have : ¬ ∀ i, i < s.js.length → jOk s.js i = true := fun hh => by rw [hh i h1] at h3; cases h3
      simp [frz, sOk_eq, this]
    · simp (disch := omega) [i64_in, loopQ_normal]
      refine ⟨i + 1, ⟨by omega, fun j hji => ?_⟩, by omega, rfl, by simp, by simp [h2g, hb2, hg]⟩
      rcases Nat.lt_or_ge j i with hlt | hge
      · exact hc j hlt
      · obtain rfl : j = i := by omega
        exact h3
  · have hall : ∀ i, i < s.js.length → jOk s.js i = true := fun j hj => hc j (by omega)
    simp [Str.c]
    refine callP_borrow 2 (ys := [.sl (mv s.ms), .fn 103 [.ptr s.c]]) ?_ (ContainsFunc_members_ro s.ms _ _ (fun m => !mOk s.js m) hm fun m _ => StructureOk1_ro s m hj) rfl ?_
    · simp [frz, dropB, V.cl, Str.c]
    simp
    have hd : decide (∀ i, i < s.js.length → jOk s.js i = true) = true := decide_eq_true hall
    have hs : sOk s = !s.ms.any fun m => !mOk s.js m := by
      rw [sOk_eq]
      simp only [hl1, hl2, hd, decide_true, Bool.true_and]
      rw [Bool.eq_iff_iff]; simp
    exact retRO [_] 0 rfl (by rw [hs]; rfl) (by simp [hg])

end Go.Proofs.Ytpkphjoobeacfaa.Vm
