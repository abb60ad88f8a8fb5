/- Structures: comparisons and sizes. -/
import Derived.Test.YtpkphjoobeacfaaK6
namespace Go.Proofs.Ytpkphjoobeacfaa.Vm
open Go Go.Proofs
set_option linter.unusedSimpArgs false
set_option linter.unusedVariables false

theorem J.ext_iff' {a b : J} : a = b ↔ a.name = b.name ∧ a.x = b.x ∧ a.y = b.y ∧ a.fixed = b.fixed := by
  cases a; cases b; simp
theorem Mb.ext_iff' {a b : Mb} : a = b ↔ a.a = b.a ∧ a.b = b.b ∧ a.kind = b.kind := by
  cases a; cases b; simp

theorem eqJoint_ro (a b : J) : RO Try.prog 123 [.agg a.c, .agg b.c] (.bool (decide (a = b))) := by
  refine ro_of2 Try.func123 rfl rfl (by rw [Try.ntmps123]; simp) fun bl => ?_
  rw [Try.ntmps123, Try.results123]
  refine AW_run ?_
  simp [J.c]
  intro g1 hg1 hb1 g2 hg2 h21 hb2
  simp [h21, Ne.symm h21, str_eq]
  refine ⟨fun h => ?_, fun h1 => ⟨fun h => ?_, fun h2 => ⟨fun h => ?_, fun h3 => ⟨fun h => ?_, fun h4 => ?_⟩⟩⟩⟩
  all_goals refine retRO [_] 0 rfl ?_ ?_
  all_goals first | (simp [frz, J.ext_iff', *]; done) | (simp [hb1, hb2]; done)

theorem eqMember_ro (a b : Mb) : RO Try.prog 124 [.agg a.c, .agg b.c] (.bool (decide (a = b))) := by
  refine ro_of2 Try.func124 rfl rfl (by rw [Try.ntmps124]; simp) fun bl => ?_
  rw [Try.ntmps124, Try.results124]
  refine AW_run ?_
  simp [Mb.c]
  intro g1 hg1 hb1 g2 hg2 h21 hb2
  simp [h21, Ne.symm h21]
  refine ⟨fun h => ?_, fun h1 => ⟨fun h => ?_, fun h2 => ⟨fun h => ?_, fun h3 => ?_⟩⟩⟩
  all_goals refine retRO [_] 0 rfl ?_ ?_
  all_goals first | (simp [frz, Mb.ext_iff', *]; done) | (simp [hb1, hb2]; done)

theorem eqJointS_ro (a b : List J) (ha : a.length ≤ 140737488351232) : RO Try.prog 90 [.sl (jv a), .sl (jv b)] (.bool (decide (a = b))) := by
  refine ro_of2 Try.func90 rfl rfl (by rw [Try.ntmps90]; simp) fun bl => ?_
  rw [Try.ntmps90, Try.results90]
  refine AW_run ?_
  simp
  refine ⟨fun h => ?_, fun h => ?_⟩
  · exact retRO0 (by simp; rintro rfl; exact h rfl) rfl rfl
  refine AW_for (fun i : Nat => [(0, .sl (jv a)), (1, .sl (jv b)), (5, .int .i64 i)]) (fun _ => bl) (fun i => i ≤ a.length ∧ ∀ j (h1 : j < a.length) (h2 : j < b.length), j < i → a[j] = b[j]) (fun i => a.length - i) _ 0 ⟨Nat.zero_le _, fun j _ _ h0 => by omega⟩ ⟨rfl, by simp, Sub.refl _⟩ ?_
  intro i ⟨hi, hc⟩
  refine AW_run ?_
  simp
  refine ⟨fun h1 => ?_, fun h1 => ?_⟩
  · refine AW_quiet mixedO (by kernel_rfl) ?_
    have h2 : i < b.length := by omega
    simp [h1, h2]
    refine hcQ_ro (eqJoint_ro a[i] b[i]) ?_
    simp
    refine ⟨fun h3 => ?_, fun h3 => ?_⟩
    · exact retRO0 (by simp; rintro rfl; exact h3 rfl) rfl rfl
    · simp (disch := omega) [i64_in, loopQ_normal]
      refine ⟨i + 1, ⟨by omega, fun j hj1 hj2 hji => ?_⟩, by omega, rfl, by simp, Sub.refl _⟩
      rcases Nat.lt_or_ge j i with hlt | hge
      · exact hc j hj1 hj2 hlt
      · obtain rfl : j = i := by omega
        exact h3
  · refine retRO0 (by simp; exact List.ext_getElem (by omega) fun j hj1 hj2 => hc j hj1 hj2 (by omega)) rfl rfl

theorem eqMemberS_ro (a b : List Mb) (ha : a.length ≤ 140737488351232) : RO Try.prog 91 [.sl (mv a), .sl (mv b)] (.bool (decide (a = b))) := by
  refine ro_of2 Try.func91 rfl rfl (by rw [Try.ntmps91]; simp) fun bl => ?_
  rw [Try.ntmps91, Try.results91]
  refine AW_run ?_
  simp
  refine ⟨fun h => ?_, fun h => ?_⟩
  · exact retRO0 (by simp; rintro rfl; exact h rfl) rfl rfl
  refine AW_for (fun i : Nat => [(0, .sl (mv a)), (1, .sl (mv b)), (5, .int .i64 i)]) (fun _ => bl) (fun i => i ≤ a.length ∧ ∀ j (h1 : j < a.length) (h2 : j < b.length), j < i → a[j] = b[j]) (fun i => a.length - i) _ 0 ⟨Nat.zero_le _, fun j _ _ h0 => by omega⟩ ⟨rfl, by simp, Sub.refl _⟩ ?_
  intro i ⟨hi, hc⟩
  refine AW_run ?_
  simp
  refine ⟨fun h1 => ?_, fun h1 => ?_⟩
  · refine AW_quiet mixedO (by kernel_rfl) ?_
    have h2 : i < b.length := by omega
    simp [h1, h2]
    refine hcQ_ro (eqMember_ro a[i] b[i]) ?_
    simp
    refine ⟨fun h3 => ?_, fun h3 => ?_⟩
    · exact retRO0 (by simp; rintro rfl; exact h3 rfl) rfl rfl
    · simp (disch := omega) [i64_in, loopQ_normal]
      refine ⟨i + 1, ⟨by omega, fun j hj1 hj2 hji => ?_⟩, by omega, rfl, by simp, Sub.refl _⟩
      rcases Nat.lt_or_ge j i with hlt | hge
      · exact hc j hj1 hj2 hlt
      · obtain rfl : j = i := by omega
        exact h3
  · refine retRO0 (by simp; exact List.ext_getElem (by omega) fun j hj1 hj2 => hc j hj1 hj2 (by omega)) rfl rfl

theorem eqStructure_ro (a b : Str) (ha : a.js.length ≤ 140737488351232) (hm : a.ms.length ≤ 140737488351232) : RO Try.prog 36 [.agg a.c, .agg b.c] (.bool (decide (a = b))) := by
  refine ro_of2 Try.func36 rfl rfl (by rw [Try.ntmps36]; simp) fun bl => ?_
  rw [Try.ntmps36, Try.results36]
  refine AW_run ?_
  simp [Str.c]
  intro g1 hg1 hb1 g2 hg2 h21 hb2
  simp [h21, Ne.symm h21]
  refine callP_ro (eqJointS_ro _ _ ha) ?_
  simp
  refine ⟨fun h => ?_, fun h => ?_⟩
  · refine retRO [_] 0 rfl ?_ (by simp [hb1, hb2])
    simp [frz]; rintro rfl; exact h rfl
  simp [h21, Ne.symm h21]
  refine callP_ro (eqMemberS_ro _ _ hm) ?_
  simp
  refine ⟨fun h' => ?_, fun h' => ?_⟩
  · refine retRO [_] 0 rfl ?_ (by simp [hb1, hb2])
    simp [frz]; rintro rfl; exact h' rfl
  · refine retRO [_] 0 rfl ?_ (by simp [hb1, hb2])
    cases a; cases b; simp_all [frz]

/-! ### Sizes: an allowance that is spent, -1 when it is overspent -/
theorem less_le {left : Int} {n : Nat} (h : -1 ≤ left ∧ left ≤ 1048576) : -1 ≤ less left n ∧ less left n ≤ 1048576 := by unfold less; split <;> omega

theorem szIntS_ro (a : List Int) (left : Int) (hl : -1 ≤ left ∧ left ≤ 1048576) (ha : a.length ≤ 140737488351232) : RO Try.prog 117 [.sl (iv a), .int .i64 left] (.int .i64 (less left a.length)) := by
  refine ro_of2 Try.func117 rfl rfl (by rw [Try.ntmps117]; simp) fun bl => ?_
  rw [Try.ntmps117, Try.results117]
  refine AW_run ?_
  simp
  simp (disch := omega) [i64_in]
  refine ⟨fun h => ?_, fun h => ?_⟩
  · exact retRO [_] 0 rfl (by simp [frz, less]; omega) (Sub.refl _)
  · exact retRO [_] 0 rfl (by simp [frz, less]; omega) (Sub.refl _)

theorem szMemberS_ro (a : List Mb) (left : Int) (hl : -1 ≤ left ∧ left ≤ 1048576) (ha : a.length ≤ 140737488351232) : RO Try.prog 85 [.sl (mv a), .int .i64 left] (.int .i64 (less left a.length)) := by
  refine ro_of2 Try.func85 rfl rfl (by rw [Try.ntmps85]; simp) fun bl => ?_
  rw [Try.ntmps85, Try.results85]
  refine AW_run ?_
  simp
  simp (disch := omega) [i64_in]
  refine ⟨fun h => ?_, fun h => ?_⟩
  · exact retRO [_] 0 rfl (by simp [frz, less]; omega) (Sub.refl _)
  · exact retRO [_] 0 rfl (by simp [frz, less]; omega) (Sub.refl _)

/-- What joints leave of an allowance, one after another; -1 at once when it is overspent. -/
def szJs : List J → Int → Int
  | [], left => left
  | j :: js, left => if less left j.name.size < 0 then -1 else szJs js (less left j.name.size)
def szJS (js : List J) (left : Int) : Int := if less left js.length < 0 then -1 else szJs js (less left js.length)

theorem szJointS_ro (a : List J) (left : Int) (hl : -1 ≤ left ∧ left ≤ 1048576) (ha : a.length ≤ 140737488351232) (hn : ∀ j, j ∈ a → j.name.size ≤ 140737488351232) : RO Try.prog 84 [.sl (jv a), .int .i64 left] (.int .i64 (szJS a left)) := by
  refine ro_of2 Try.func84 rfl rfl (by rw [Try.ntmps84]; simp) fun bl => ?_
  rw [Try.ntmps84, Try.results84]
  refine AW_run ?_
  simp
  simp (disch := omega) [i64_in]
  refine ⟨fun h => ?_, fun h => ?_⟩
  · exact retRO [_] 0 rfl (by simp [frz, szJS, less]; omega) (Sub.refl _)
  refine AW_for (fun p : Nat × Int => [(0, .sl (jv a)), (1, .int .i64 p.2), (5, .int .i64 p.1)]) (fun _ => bl) (fun p => p.1 ≤ a.length ∧ 0 ≤ p.2 ∧ p.2 ≤ 1048576 ∧ szJS a left = szJs (a.drop p.1) p.2) (fun p => a.length - p.1) _ (0, left - a.length) ⟨Nat.zero_le _, by simp; omega, by simp; omega, ?_⟩ ⟨rfl, by simp, Sub.refl _⟩ ?_
  · have h0 : ¬ (left - (a.length : Int) < 0) := by omega
    simp only [szJS, less, if_neg h0, List.drop_zero]
  intro ⟨i, l⟩ ⟨hi, hl0, hl1, hs⟩
  simp at hi hl0 hl1 hs
  refine AW_run ?_
  simp
  refine ⟨fun h1 => ?_, fun h1 => ?_⟩
  · simp [h1]
    refine callP_ro (szJoint_ro a[i] l (by omega) (hn _ (List.getElem_mem _))) ?_
    simp
    rw [List.drop_eq_getElem_cons h1, szJs] at hs
    have := less_le (left := l) (n := a[i].name.size) (by omega)
    refine ⟨fun h2 => ?_, fun h2 => ?_⟩
    · exact retRO [_] 0 rfl (by simp [frz, hs, h2]) (Sub.refl _)
    · simp (disch := omega) [i64_in, loopQ_normal]
      rw [if_neg (by omega)] at hs
      exact ⟨i + 1, less l a[i].name.size, ⟨by omega, by omega, by omega, hs⟩, by omega, rfl, by simp, Sub.refl _⟩
  · rw [List.drop_eq_nil_of_le h1, szJs] at hs
    exact retRO [_] 0 rfl (by simp [frz, hs]) (Sub.refl _)

/-- What a structure leaves of an allowance. -/
def szStr (s : Str) (left : Int) : Int := if szJS s.js left < 0 then -1 else if less (szJS s.js left) s.ms.length < 0 then -1 else less (szJS s.js left) s.ms.length

theorem szJs_le : ∀ (js : List J) (left : Int), -1 ≤ left ∧ left ≤ 1048576 → -1 ≤ szJs js left ∧ szJs js left ≤ left
  | [], left, h => by simp [szJs]; omega
  | j :: js, left, h => by
    unfold szJs
    have := less_le (left := left) (n := j.name.size) h
    split
    · omega
    · have h2 := szJs_le js _ this
      have : less left j.name.size ≤ left := by unfold less at *; split <;> split at * <;> omega
      omega
theorem szJS_le (js : List J) (left : Int) (h : -1 ≤ left ∧ left ≤ 1048576) : -1 ≤ szJS js left ∧ szJS js left ≤ left ∧ (0 ≤ szJS js left → (js.length : Int) ≤ left) := by
  unfold szJS
  split
  · omega
  · rename_i hn
    have h1 := less_le (left := left) (n := js.length) h
    have h2 := szJs_le js _ h1
    have : less left js.length = left - js.length := by unfold less at *; split <;> split at * <;> omega
    omega

theorem szStructure_ro (s : Str) (left : Int) (hl : -1 ≤ left ∧ left ≤ 1048576) (hj : s.js.length ≤ 140737488351232) (hm : s.ms.length ≤ 140737488351232) (hn : ∀ j, j ∈ s.js → j.name.size ≤ 140737488351232) :
    RO Try.prog 32 [.agg s.c, .int .i64 left] (.int .i64 (szStr s left)) := by
  refine ro_of2 Try.func32 rfl rfl (by rw [Try.ntmps32]; simp) fun bl => ?_
  rw [Try.ntmps32, Try.results32]
  refine AW_run ?_
  simp [Str.c]
  intro g hg0 hg
  refine callP_ro (szJointS_ro _ _ hl hj hn) ?_
  have hle := szJS_le s.js left hl
  simp
  refine ⟨fun h => ?_, fun h => ?_⟩
  · exact retRO [_] 0 rfl (by simp [frz, szStr, h]) (by simp [hg])
  refine callP_ro (szMemberS_ro _ _ (by omega) hm) ?_
  simp
  refine ⟨fun h2 => ?_, fun h2 => ?_⟩
  · exact retRO [_] 0 rfl (by simp [frz, szStr, h2]) (by simp [hg])
  · refine retRO [_] 0 rfl ?_ (by simp [hg])
    simp only [szStr, if_neg (show ¬ szJS s.js left < 0 by omega), if_neg (show ¬ less (szJS s.js left) s.ms.length < 0 by omega)]
    rfl

theorem szStr_le {s : Str} {left : Int} (hl : -1 ≤ left ∧ left ≤ 1048576) (h : 0 ≤ szStr s left) : (s.js.length : Int) ≤ left ∧ (s.ms.length : Int) ≤ left ∧ szStr s left ≤ left := by
  have hle := szJS_le s.js left hl
  unfold szStr at *
  split at h
  · omega
  · rename_i h1
    rw [if_neg h1]
    split at h
    · omega
    · rename_i h2
      rw [if_neg h2]
      unfold less at *
      split at h2
      · omega
      · rename_i h3
        rw [if_neg h3]
        omega

end Go.Proofs.Ytpkphjoobeacfaa.Vm
