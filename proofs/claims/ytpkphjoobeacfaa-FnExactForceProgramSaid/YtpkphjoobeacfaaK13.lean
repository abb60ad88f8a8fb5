/- StructureOk of the reference. -/
import Derived.Test.YtpkphjoobeacfaaK12
namespace Go.Proofs.Ytpkphjoobeacfaa.Vm
open Go Go.Proofs
set_option linter.unusedSimpArgs false
set_option linter.unusedVariables false

theorem spec_StructureOk_ro (s : Str) (hj : s.js.length ≤ 140737488351232) (hm : s.ms.length ≤ 140737488351232) (hn : ∀ j, j ∈ s.js → j.name.size ≤ 140737488351232) : RO Try.prog 47 [.agg s.c] (.bool (sOk s)) := by
  refine ro_of2 Try.func47 rfl rfl (by rw [Try.ntmps47]; simp) fun bl => ?_
  rw [Try.ntmps47, Try.results47]
  refine AW_run ?_
  simp [Str.c]
  intro g hg0 hg
  refine AW_way [(1, .loc g 2 0 0)] _ (upd bl g (some ⟨2, [s.c]⟩)) 19 (.bool (! (decide (s.js.length ≤ 6) && decide (s.ms.length ≤ 8)))) (upd bl g (some ⟨2, [s.c]⟩)) ⟨rfl, by simp, sub_eq (by simp [Str.c])⟩ rfl ?_ ?_
  · simp [Str.c]
    refine ⟨fun h => .inl (by omega), fun h => ?_⟩
    rw [Bool.eq_iff_iff]; simp; omega
  simp [Str.c]
  refine ⟨fun h => ?_, fun hl1 hl2 => ?_⟩
  · refine retRO [_] 0 rfl ?_ (by simp [hg])
    simp [frz, sOk_eq]; omega
  refine AW_for (fun i : Nat => [(1, .loc g 2 0 0), (21, .sl (jv s.js)), (22, .int .i64 s.js.length), (23, .int .i64 i)]) (fun _ => upd bl g (some ⟨2, [s.c]⟩)) (fun i => i ≤ s.js.length ∧ ∀ j, j < i → jOk s.js j = true) (fun i => s.js.length - i) _ 0 ⟨Nat.zero_le _, fun j h0 => by omega⟩ ⟨rfl, by simp, sub_eq (by simp [Str.c])⟩ ?_
  intro i ⟨hi, hc⟩
  refine AW_run ?_
  simp
  refine ⟨fun h1 => ?_, fun h1 => ?_⟩
  · simp [h1, J.c]
    intro g2 hg2 h2g hb2
    refine AW_way [(1, .loc g 2 0 0), (3, .int .i64 i), (4, .loc g2 4 0 0), (21, .sl (jv s.js)), (22, .int .i64 s.js.length), (23, .int .i64 i)] _ (upd (upd bl g (some ⟨2, [s.c]⟩)) g2 (some ⟨4, [s.js[i].c]⟩)) 38 (.bool (!jOk s.js i)) (upd (upd bl g (some ⟨2, [s.c]⟩)) g2 (some ⟨4, [s.js[i].c]⟩)) ⟨rfl, by simp, sub_eq (by simp [J.c])⟩ rfl ?_ ?_
    · simp [J.c, h2g, Ne.symm h2g]
      refine callP_ro (spec_JointOk_ro s.js[i] (hn _ (List.getElem_mem h1))) ?_
      simp [h2g, Ne.symm h2g, Str.c]
      refine ⟨fun h => by simp [jOk, h1, h], fun h => ?_⟩
      refine callP_ro (spec_JointNamed_ro s _ hj) ?_
      simp [jOk, h1, h]
      rw [Bool.eq_iff_iff]; simp
    simp
    refine ⟨fun h3 => ?_, fun h3 => ?_⟩
    · refine retRO [_] 0 rfl ?_ (by simp [hg, hb2])
      have : ¬ ∀ i, i < s.js.length → jOk s.js i = true := fun hh => by rw [hh i h1] at h3; cases h3
      simp [frz, sOk_eq, this]
    · simp (disch := omega) [i64_in, loopQ_normal]
      refine ⟨i + 1, ⟨by omega, fun j hji => ?_⟩, by omega, rfl, by simp, by simp [h2g, hb2, hg]⟩
      rcases Nat.lt_or_ge j i with hlt | hge
      · exact hc j hlt
      · obtain rfl : j = i := by omega
        exact h3
  have hall : ∀ i, i < s.js.length → jOk s.js i = true := fun j hj => hc j (by omega)
  simp [Str.c]
  simp (disch := omega) [i64_in]
  have hd : decide (∀ i, i < s.js.length → jOk s.js i = true) = true := decide_eq_true hall
  have hs : sOk s = s.ms.all (mOk s.js) := by
    rw [sOk_eq]
    simp only [hl1, hl2, hd, decide_true, Bool.true_and]
  rw [hs]
  refine AW_for (fun i : Nat => [(1, .loc g 2 0 0), (5, .int .i64 (s.js.length - 1)), (45, .sl (mv s.ms)), (46, .int .i64 s.ms.length), (47, .int .i64 i)]) (fun _ => upd bl g (some ⟨2, [s.c]⟩)) (fun i => i ≤ s.ms.length ∧ ∀ j (h : j < s.ms.length), j < i → mOk s.js s.ms[j] = true) (fun i => s.ms.length - i) _ 0 ⟨Nat.zero_le _, fun j _ h0 => by omega⟩ ⟨rfl, by simp, sub_eq (by simp [Str.c])⟩ ?_
  clear hc hi h1
  intro k ⟨hk, hc⟩
  refine AW_run ?_
  simp
  refine ⟨fun h1 => ?_, fun h1 => ?_⟩
  · simp [h1, Mb.c]
    intro g2 hg2 h2g hb2
    refine AW_way [(1, .loc g 2 0 0), (5, .int .i64 (s.js.length - 1)), (7, .loc g2 3 0 0), (45, .sl (mv s.ms)), (46, .int .i64 s.ms.length), (47, .int .i64 k)] _ (upd (upd bl g (some ⟨2, [s.c]⟩)) g2 (some ⟨3, [s.ms[k].c]⟩)) 68
      (.bool (! ((decide (0 ≤ s.ms[k].a) && decide (s.ms[k].a < s.js.length)) && (decide (0 ≤ s.ms[k].b) && decide (s.ms[k].b < s.js.length)) && (decide (1 ≤ s.ms[k].kind) && decide (s.ms[k].kind ≤ 3))))) (upd (upd bl g (some ⟨2, [s.c]⟩)) g2 (some ⟨3, [s.ms[k].c]⟩)) ⟨rfl, by simp, sub_eq (by simp [Mb.c])⟩ rfl ?_ ?_
    · simp [Mb.c, h2g, Ne.symm h2g]
      refine callP_ro (l01In_ro _ _ _) ?_
      simp [h2g, Ne.symm h2g]
      refine ⟨fun h => by omega, fun h2 h3 => ?_⟩
      refine callP_ro (l01In_ro _ _ _) ?_
      simp [h2g, Ne.symm h2g]
      refine ⟨fun h => by omega, fun h4 h5 => ?_⟩
      refine callP_ro (l01In_ro _ _ _) ?_
      simp
      omega
    simp
    refine ⟨fun h => ?_, fun h2 h3 h4 h5 h6 h7 => ?_⟩
    · refine retRO [_] 0 rfl ?_ (by simp [hg, hb2])
      have h0 : mOk s.js s.ms[k] = false := by
        simp [mOk]
        intro a1 a2 a3 a4 a5 a6
        omega
      have : s.ms.all (mOk s.js) = false := by
        rw [Bool.eq_false_iff]; intro hh
        rw [List.all_eq_true.1 hh _ (List.getElem_mem h1)] at h0; cases h0
      rw [this]; rfl
    simp [h2g, Ne.symm h2g, Str.c, Mb.c, h2, h4, jv_at h2 h3, jv_at h4 h5, J.c]
    intro g3 hg3 h32 h3g hb3
    simp [h2g, Ne.symm h2g, h32, h3g, Ne.symm h32, Ne.symm h3g, Str.c, Mb.c, h2, h4, jv_at h2 h3, jv_at h4 h5, J.c]
    intro g4 hg4 h43 h42 h4g hb4
    try simp [h2g, Ne.symm h2g, h32, h3g, Ne.symm h32, Ne.symm h3g, h43, h42, h4g, Ne.symm h43, Ne.symm h42, Ne.symm h4g]
    refine AW_way0 [(1, .loc g 2 0 0), (5, .int .i64 (s.js.length - 1)), (8, .loc g3 4 0 0), (9, .loc g4 4 0 0), (45, .sl (mv s.ms)), (46, .int .i64 s.ms.length), (47, .int .i64 k)] _ _ 100 (.bool (!mOk s.js s.ms[k])) ⟨rfl, by simp, Sub.refl _⟩ rfl ?_ ?_
    · simp [h2g, Ne.symm h2g, h32, h3g, Ne.symm h32, Ne.symm h3g, h43, h42, h4g, Ne.symm h43, Ne.symm h42, Ne.symm h4g, mOk, h2, h3, h4, h5, h6, h7]
      grind
    simp
    refine ⟨fun h8 => ?_, fun h8 => ?_⟩
    · refine retRO [_] 0 rfl ?_ (by simp [hg, hb2, hb3, hb4])
      have : s.ms.all (mOk s.js) = false := by
        rw [Bool.eq_false_iff]; intro hh
        rw [List.all_eq_true.1 hh _ (List.getElem_mem h1)] at h8; cases h8
      rw [this]; rfl
    · simp (disch := omega) [i64_in, loopQ_normal]
      refine ⟨k + 1, ⟨by omega, fun j hj1 hji => ?_⟩, by omega, rfl, by simp, by simp [h2g, h3g, h4g, hb2, hb3, hb4, hg, Str.c]⟩
      rcases Nat.lt_or_ge j k with hlt | hge
      · exact hc j hj1 hlt
      · obtain rfl : j = k := by omega
        exact h8
  · refine retRO [_] 0 rfl ?_ (by simp [hg])
    have : s.ms.all (mOk s.js) = true := List.all_eq_true.2 fun m hm => by
      obtain ⟨j, hj, rfl⟩ := List.mem_iff_getElem.1 hm
      exact hc j hj (by omega)
    rw [this]; rfl

end Go.Proofs.Ytpkphjoobeacfaa.Vm
