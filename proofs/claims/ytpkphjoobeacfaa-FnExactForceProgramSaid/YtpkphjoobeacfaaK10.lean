/- SameStructures. -/
import Derived.Test.YtpkphjoobeacfaaK8
namespace Go.Proofs.Ytpkphjoobeacfaa.Vm
open Go Go.Proofs
set_option linter.unusedSimpArgs false
set_option linter.unusedVariables false

theorem beq_dec {α : Type} [DecidableEq α] (a b : α) : (a == b) = decide (a = b) := by rw [Bool.eq_iff_iff]; simp
theorem J.beq (a b : J) : (a.name.toList == b.name.toList && (a.x == b.x && (a.y == b.y && (a.fixed == b.fixed)))) = decide (a = b) := by
  rw [Bool.eq_iff_iff]; simp [J.ext_iff', str_eq]
theorem Mb.beq (a b : Mb) : (a.a == b.a && (a.b == b.b && (a.kind == b.kind))) = decide (a = b) := by
  rw [Bool.eq_iff_iff]; simp [Mb.ext_iff']

theorem Equal_joints_ro (a b : List J) (ha : a.length ≤ 140737488351232) : RO Try.prog 92 [.sl (jv a), .sl (jv b)] (.bool (decide (a = b))) := by
  refine ro_of2 Try.func92 rfl rfl (by rw [Try.ntmps92]; simp) fun bl => ?_
  rw [Try.ntmps92, Try.results92]
  refine AW_run ?_
  simp
  refine ⟨fun h => ?_, fun h => ?_⟩
  · exact retRO0 (by simp; rintro rfl; exact h rfl) rfl rfl
  refine AW_for (fun i : Nat => [(0, .sl (jv a)), (1, .sl (jv b)), (12, .int .i64 a.length), (13, .int .i64 i)]) (fun _ => bl) (fun i => i ≤ a.length ∧ ∀ j (h1 : j < a.length) (h2 : j < b.length), j < i → a[j] = b[j]) (fun i => a.length - i) _ 0 ⟨Nat.zero_le _, fun j _ _ h0 => by omega⟩ ⟨rfl, by simp, Sub.refl _⟩ ?_
  intro i ⟨hi, hc⟩
  refine AW_run ?_
  simp
  refine ⟨fun h1 => ?_, fun h1 => ?_⟩
  · refine AW_quiet mixedO (by kernel_rfl) ?_
    have h2 : i < b.length := by omega
    simp [h1, h2, J.c]
    refine ⟨fun h3 => ?_, fun e1 e2 e3 e4 => ?_⟩
    · exact retRO0 (by
        simp; rintro rfl
        simp at h3) rfl rfl
    · have h3 : a[i] = b[i] := J.ext_iff'.2 ⟨str_eq.1 e1, e2, e3, e4⟩
      simp (disch := omega) [i64_in, loopQ_normal]
      refine ⟨i + 1, ⟨by omega, fun j hj1 hj2 hji => ?_⟩, by omega, rfl, by simp, Sub.refl _⟩
      rcases Nat.lt_or_ge j i with hlt | hge
      · exact hc j hj1 hj2 hlt
      · obtain rfl : j = i := by omega
        exact h3
  · refine retRO0 (by simp; exact List.ext_getElem (by omega) fun j hj1 hj2 => hc j hj1 hj2 (by omega)) rfl rfl

theorem Equal_members_ro (a b : List Mb) (ha : a.length ≤ 140737488351232) : RO Try.prog 93 [.sl (mv a), .sl (mv b)] (.bool (decide (a = b))) := by
  refine ro_of2 Try.func93 rfl rfl (by rw [Try.ntmps93]; simp) fun bl => ?_
  rw [Try.ntmps93, Try.results93]
  refine AW_run ?_
  simp
  refine ⟨fun h => ?_, fun h => ?_⟩
  · exact retRO0 (by simp; rintro rfl; exact h rfl) rfl rfl
  refine AW_for (fun i : Nat => [(0, .sl (mv a)), (1, .sl (mv b)), (12, .int .i64 a.length), (13, .int .i64 i)]) (fun _ => bl) (fun i => i ≤ a.length ∧ ∀ j (h1 : j < a.length) (h2 : j < b.length), j < i → a[j] = b[j]) (fun i => a.length - i) _ 0 ⟨Nat.zero_le _, fun j _ _ h0 => by omega⟩ ⟨rfl, by simp, Sub.refl _⟩ ?_
  intro i ⟨hi, hc⟩
  refine AW_run ?_
  simp
  refine ⟨fun h1 => ?_, fun h1 => ?_⟩
  · refine AW_quiet mixedO (by kernel_rfl) ?_
    have h2 : i < b.length := by omega
    simp [h1, h2, Mb.c]
    refine ⟨fun h3 => ?_, fun e1 e2 e3 => ?_⟩
    · exact retRO0 (by
        simp; rintro rfl
        simp at h3) rfl rfl
    · have h3 : a[i] = b[i] := Mb.ext_iff'.2 ⟨e1, e2, e3⟩
      simp (disch := omega) [i64_in, loopQ_normal]
      refine ⟨i + 1, ⟨by omega, fun j hj1 hj2 hji => ?_⟩, by omega, rfl, by simp, Sub.refl _⟩
      rcases Nat.lt_or_ge j i with hlt | hge
      · exact hc j hj1 hj2 hlt
      · obtain rfl : j = i := by omega
        exact h3
  · refine retRO0 (by simp; exact List.ext_getElem (by omega) fun j hj1 hj2 => hc j hj1 hj2 (by omega)) rfl rfl

theorem Str.eq_iff {a b : Str} : a = b ↔ a.js = b.js ∧ a.ms = b.ms := by cases a; cases b; simp

theorem impl_SameStructures_ro (a b : Str) (ha : a.js.length ≤ 140737488351232) (hm : a.ms.length ≤ 140737488351232) : RO Try.prog 38 [.agg a.c, .agg b.c] (.bool (decide (a = b))) := by
  refine ro_of2 Try.func38 rfl rfl (by rw [Try.ntmps38]; simp) fun bl => ?_
  rw [Try.ntmps38, Try.results38]
  refine AW_run ?_
  simp [Str.c]
  intro g1 hg1 hb1 g2 hg2 h21 hb2
  refine AW_way [(2, .loc g1 2 0 0), (3, .loc g2 2 0 0)] _ (upd (upd bl g1 (some ⟨2, [a.c]⟩)) g2 (some ⟨2, [b.c]⟩)) 4 (.bool (decide (a = b))) (upd (upd bl g1 (some ⟨2, [a.c]⟩)) g2 (some ⟨2, [b.c]⟩)) ⟨rfl, by simp, Sub.refl _⟩ rfl ?_ ?_
  · simp [Str.c, h21, Ne.symm h21]
    refine callP_ro (Equal_joints_ro _ _ ha) ?_
    simp [h21, Ne.symm h21]
    refine ⟨fun h => ?_, fun h => ?_⟩
    · refine callP_ro (Equal_members_ro _ _ hm) ?_
      simp [Str.eq_iff, h]
    · simp [Str.eq_iff, h]
  simp
  exact retRO [_] 0 rfl rfl (by simp [hb1, hb2])

theorem spec_SameStructures_ro (a b : Str) (ha : a.js.length ≤ 140737488351232) (hm : a.ms.length ≤ 140737488351232) : RO Try.prog 37 [.agg a.c, .agg b.c] (.bool (decide (a = b))) := by
  refine ro_of2 Try.func37 rfl rfl (by rw [Try.ntmps37]; simp) fun bl => ?_
  rw [Try.ntmps37, Try.results37]
  refine AW_run ?_
  simp [Str.c]
  intro g1 hg1 hb1 g2 hg2 h21 hb2
  refine AW_way [(2, .loc g1 2 0 0), (3, .loc g2 2 0 0)] _ (upd (upd bl g1 (some ⟨2, [a.c]⟩)) g2 (some ⟨2, [b.c]⟩)) 24 (.bool (decide (a.js.length ≠ b.js.length) || decide (a.ms.length ≠ b.ms.length))) (upd (upd bl g1 (some ⟨2, [a.c]⟩)) g2 (some ⟨2, [b.c]⟩)) ⟨rfl, by simp, Sub.refl _⟩ rfl ?_ ?_
  · simp [Str.c, h21, Ne.symm h21]
    refine ⟨fun h => .inl (by omega), fun h => ?_⟩
    rw [Bool.eq_iff_iff]; simp; omega
  simp [Str.c, h21, Ne.symm h21]
  refine ⟨fun h => ?_, fun hl1 hl2 => ?_⟩
  · refine retRO [_] 0 rfl ?_ (by simp [hb1, hb2])
    simp [frz]; rintro rfl; simp at h
  have key : ∀ {x : Bool}, x = decide (a = b) → ∀ σ : St, σ.sl 4 = .bool x → σ.n = 57 → Sub bl σ.bl → retK Try.prog [ResultVar.tmp 4] (ROk bl (V.bool (decide (a = b)))) .ret σ := by
    intro x hx σ h4 hn hs
    refine retRO [.bool x] 0 ?_ (by rw [hx]; rfl) hs
    simp [h4, hn]
  have hs0 : Sub bl (upd (upd bl g1 (some ⟨2, [[V.sl (jv a.js), V.sl (mv a.ms)]]⟩)) g2 (some ⟨2, [[V.sl (jv b.js), V.sl (mv b.ms)]]⟩)) := by simp [hb1, hb2]
  refine AW_for (fun i : Nat => [(2, .loc g1 2 0 0), (3, .loc g2 2 0 0), (26, .sl (jv a.js)), (27, .int .i64 a.js.length), (28, .int .i64 i)]) (fun _ => upd (upd bl g1 (some ⟨2, [[V.sl (jv a.js), V.sl (mv a.ms)]]⟩)) g2 (some ⟨2, [[V.sl (jv b.js), V.sl (mv b.ms)]]⟩))
    (fun i => i ≤ a.js.length ∧ ∀ j (h1 : j < a.js.length) (h2 : j < b.js.length), j < i → a.js[j] = b.js[j]) (fun i => a.js.length - i) _ 0 ⟨Nat.zero_le _, fun j _ _ h0 => by omega⟩ ⟨rfl, by simp, Sub.refl _⟩ ?_
  intro i ⟨hi, hc⟩
  refine AW_run ?_
  simp
  refine ⟨fun h1 => ?_, fun h1 => ?_⟩
  · simp [h1, J.c]
    intro g hg0 hg3 hg4 hg
    try simp
    refine AW_quiet mixedO (by kernel_rfl) ?_
    have h2 : i < b.js.length := by omega
    simp [h1, h2, hg3, hg4, Ne.symm hg3, Ne.symm hg4, h21, Ne.symm h21, J.c]
    refine ⟨fun h3 => ?_, fun e1 e2 e3 e4 => ?_⟩
    · refine key (x := false) ?_ _ rfl rfl ?_
      · simp; rintro rfl; simp at h3
      · simp [hb1, hb2, hg]
    · have h3 : a.js[i] = b.js[i] := J.ext_iff'.2 ⟨str_eq.1 e1, e2, e3, e4⟩
      simp (disch := omega) [i64_in, loopQ_normal]
      refine ⟨i + 1, ⟨by omega, fun j hj1 hj2 hji => ?_⟩, by omega, rfl, by simp, ?_⟩
      · rcases Nat.lt_or_ge j i with hlt | hge
        · exact hc j hj1 hj2 hlt
        · obtain rfl : j = i := by omega
          exact h3
      · simp [hg3, hg4, hg]
  have hjs : a.js = b.js := List.ext_getElem hl1 fun j hj1 hj2 => hc j hj1 hj2 (by omega)
  simp [h21, Ne.symm h21]
  refine AW_for (fun i : Nat => [(3, .loc g2 2 0 0), (42, .sl (mv a.ms)), (43, .int .i64 a.ms.length), (44, .int .i64 i)]) (fun _ => upd (upd bl g1 (some ⟨2, [[V.sl (jv a.js), V.sl (mv a.ms)]]⟩)) g2 (some ⟨2, [[V.sl (jv b.js), V.sl (mv b.ms)]]⟩))
    (fun i => i ≤ a.ms.length ∧ ∀ j (h1 : j < a.ms.length) (h2 : j < b.ms.length), j < i → a.ms[j] = b.ms[j]) (fun i => a.ms.length - i) _ 0 ⟨Nat.zero_le _, fun j _ _ h0 => by omega⟩ ⟨rfl, by simp, Sub.refl _⟩ ?_
  clear hc hi
  intro i ⟨hi, hc⟩
  refine AW_run ?_
  simp
  refine ⟨fun h1 => ?_, fun h1 => ?_⟩
  · simp [h1, Mb.c]
    intro g hg0 hg3 hg4 hg
    try simp
    refine AW_quiet mixedO (by kernel_rfl) ?_
    have h2 : i < b.ms.length := by omega
    simp [h1, h2, hg3, hg4, Ne.symm hg3, Ne.symm hg4, h21, Ne.symm h21, Mb.c]
    refine ⟨fun h3 => ?_, fun e1 e2 e3 => ?_⟩
    · refine key (x := false) ?_ _ rfl rfl ?_
      · simp; rintro rfl; simp at h3
      · simp [hb1, hb2, hg]
    · have h3 : a.ms[i] = b.ms[i] := Mb.ext_iff'.2 ⟨e1, e2, e3⟩
      simp (disch := omega) [i64_in, loopQ_normal]
      refine ⟨i + 1, ⟨by omega, fun j hj1 hj2 hji => ?_⟩, by omega, rfl, by simp, ?_⟩
      · rcases Nat.lt_or_ge j i with hlt | hge
        · exact hc j hj1 hj2 hlt
        · obtain rfl : j = i := by omega
          exact h3
      · simp [hg3, hg4, hg]
  · have hms : a.ms = b.ms := List.ext_getElem hl2 fun j hj1 hj2 => hc j hj1 hj2 (by omega)
    refine key (x := true) ?_ _ rfl rfl hs0
    simp [Str.eq_iff, hjs, hms]

theorem law_SameStructures_ro (a b : Str) (ha : a.js.length ≤ 140737488351232) (hma : a.ms.length ≤ 140737488351232) (hna : ∀ j, j ∈ a.js → j.name.size ≤ 140737488351232)
    (hb : b.js.length ≤ 140737488351232) (hmb : b.ms.length ≤ 140737488351232) (hnb : ∀ j, j ∈ b.js → j.name.size ≤ 140737488351232) :
    RO Try.prog 7 [.agg a.c, .agg b.c] (.bool true) := by
  refine ro_of2 Try.func7 rfl rfl (by rw [Try.ntmps7]; simp) fun bl => ?_
  rw [Try.ntmps7, Try.results7]
  refine AW_run ?_
  simp [Str.c]
  intro g1 hg1 hb1 g2 hg2 h21 hb2
  simp [h21, Ne.symm h21]
  refine callP_ro (szStructure_ro a _ (by omega) ha hma hna) ?_
  try simp
  refine ⟨fun h => ?_, fun h => ?_⟩
  · exact retRO [_] 0 rfl rfl (by simp [hb1, hb2])
  obtain ⟨l1, l2, l3⟩ := szStr_le (s := a) (left := 1048576) (by omega) h
  try simp [h21, Ne.symm h21]
  refine callP_ro (szStructure_ro b _ (by omega) hb hmb hnb) ?_
  try simp
  refine ⟨fun h' => ?_, fun h' => ?_⟩
  · exact retRO [_] 0 rfl rfl (by simp [hb1, hb2])
  obtain ⟨l4, l5, l6⟩ := szStr_le (s := b) (left := szStr a 1048576) (by omega) h'
  have hca := toStructure_ro a (by omega) (by omega)
  have hcb := toStructure_ro b (by omega) (by omega)
  refine AW_quiet mixedO (by kernel_rfl) ?_
  simp [h21, Ne.symm h21]
  refine hcQ_ro hca ?_
  try simp [h21, Ne.symm h21]
  refine hcQ_ro hcb ?_
  try simp [h21, Ne.symm h21]
  refine hcQ_ro (spec_SameStructures_ro a b ha hma) ?_
  try simp [h21, Ne.symm h21]
  refine callP_ro hca ?_
  simp [Str.c]
  intro g3 hg3 h32 h31 hb3
  try simp [h21, h31, h32, Ne.symm h21, Ne.symm h31, Ne.symm h32]
  refine callP_ro hcb ?_
  simp [Str.c]
  intro g4 hg4 h43 h42 h41 hb4
  try simp [h21, h31, h32, Ne.symm h21, Ne.symm h31, Ne.symm h32, h41, h42, h43, Ne.symm h41, Ne.symm h42, Ne.symm h43]
  refine callP_ro (impl_SameStructures_ro a b ha hma) ?_
  try simp [h21, h31, h32, Ne.symm h21, Ne.symm h31, Ne.symm h32, h41, h42, h43, Ne.symm h41, Ne.symm h42, Ne.symm h43]
  refine AW_quiet mixedO (by kernel_rfl) ?_
  simp [h21, h31, h32, Ne.symm h21, Ne.symm h31, Ne.symm h32, h41, h42, h43, Ne.symm h41, Ne.symm h42, Ne.symm h43]
  refine hcQ_ro hca ?_
  try simp [h21, h31, h32, Ne.symm h21, Ne.symm h31, Ne.symm h32, h41, h42, h43, Ne.symm h41, Ne.symm h42, Ne.symm h43]
  refine hcQ_ro (eqStructure_ro a a ha hma) ?_
  try simp [h21, h31, h32, Ne.symm h21, Ne.symm h31, Ne.symm h32, h41, h42, h43, Ne.symm h41, Ne.symm h42, Ne.symm h43]
  refine AW_quiet mixedO (by kernel_rfl) ?_
  simp [h21, h31, h32, Ne.symm h21, Ne.symm h31, Ne.symm h32, h41, h42, h43, Ne.symm h41, Ne.symm h42, Ne.symm h43]
  refine hcQ_ro hcb ?_
  try simp [h21, h31, h32, Ne.symm h21, Ne.symm h31, Ne.symm h32, h41, h42, h43, Ne.symm h41, Ne.symm h42, Ne.symm h43]
  refine hcQ_ro (eqStructure_ro b b hb hmb) ?_
  try simp [h21, h31, h32, Ne.symm h21, Ne.symm h31, Ne.symm h32, h41, h42, h43, Ne.symm h41, Ne.symm h42, Ne.symm h43]
  exact retRO [_] 0 rfl rfl (by simp [hb1, hb2, hb3, hb4])

end Go.Proofs.Ytpkphjoobeacfaa.Vm
