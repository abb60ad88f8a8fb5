/- JointOk. -/
import Derived.Test.YtpkphjoobeacfaaK1
import Derived.Laws.Strings
namespace Go.Proofs.Ytpkphjoobeacfaa.Vm
open Go Go.Proofs
set_option linter.unusedSimpArgs false
set_option linter.unusedVariables false

theorem str_eq {a b : ByteArray} : a.toList = b.toList ↔ a = b := by
  refine ⟨fun h => ?_, fun h => by rw [h]⟩
  rw [ByteArray.toList_eq, ByteArray.toList_eq] at h
  exact ByteArray.ext (Array.toList_inj.1 h)

def charOk (i : Nat) (c : Nat) : Bool := (decide (97 ≤ c) && decide (c ≤ 122)) || (decide (i ≠ 0) && (decide (48 ≤ c) && decide (c ≤ 57)))
def isName (s : ByteArray) : Bool := decide (1 ≤ s.size) && decide (s.size ≤ 8) && decide (∀ i (h : i < s.size), charOk i s[i].toNat = true)

theorem spec_IsName_ro (s : ByteArray) (hs : s.size ≤ 140737488351232) : RO Try.prog 80 [.str s] (.bool (isName s)) := by
  refine ro_of2 Try.func80 rfl rfl (by rw [Try.ntmps80]; simp) fun bl => ?_
  rw [Try.ntmps80, Try.results80]
  refine AW_run ?_
  simp
  refine AW_for (fun i : Nat => [(0, .str s), (3, .int .i64 i)]) (fun _ => bl) (fun i => i ≤ s.size ∧ ∀ j (h : j < s.size), j < i → charOk j s[j].toNat = true) (fun i => s.size - i) _ 0 ⟨Nat.zero_le _, fun j h h0 => by omega⟩ ⟨rfl, by simp, Sub.refl _⟩ ?_
  intro i ⟨hi, hc⟩
  refine AW_run ?_
  simp
  refine ⟨fun h => ?_, fun h => ?_⟩
  · refine AW_way [(0, .str s), (3, .int .i64 i)] _ bl 4 (.bool (decide (97 ≤ s[i].toNat) && decide (s[i].toNat ≤ 122))) bl ⟨rfl, by simp, Sub.refl _⟩ rfl ?_ ?_
    · simp [h]; grind
    simp
    refine AW_way [(4, .bool (decide (97 ≤ s[i].toNat) && decide (s[i].toNat ≤ 122))), (0, .str s), (3, .int .i64 i)] _ bl 38 (.bool (! charOk i s[i].toNat)) bl ⟨rfl, by simp, Sub.refl _⟩ rfl ?_ ?_
    · simp [h, charOk]; grind
    simp
    refine ⟨fun h1 => ?_, fun h1 => ?_⟩
    · refine retRO0 (by simp [isName]; intro _ _; exact ⟨i, h, h1⟩) rfl rfl
    · simp (disch := omega) [i64_in, loopQ_normal]
      refine ⟨i + 1, ⟨by omega, fun j hj hji => ?_⟩, by omega, rfl, by simp, Sub.refl _⟩
      rcases Nat.lt_or_ge j i with hlt | hge
      · exact hc j hj hlt
      · obtain rfl : j = i := by omega
        exact h1
  · refine callP_ro (l01In_ro _ _ _) ?_
    simp
    refine retRO0 ?_ rfl rfl
    have hall : ∀ j (h : j < s.size), charOk j s[j].toNat = true := fun j hj => hc j hj (by omega)
    simp [isName, hall]
    grind

theorem isLetter_ro (c : Nat) : RO Try.prog 120 [.int .u8 c] (.bool (decide (97 ≤ c) && decide (c ≤ 122))) := by
  refine ro_of2 Try.func120 rfl rfl (by rw [Try.ntmps120]; simp) fun bl => ?_
  rw [Try.ntmps120, Try.results120]
  refine AW_run ?_
  simp
  refine AW_way [(0, .int .u8 c)] _ bl 2 (.bool (decide (97 ≤ c) && decide (c ≤ 122))) bl ⟨rfl, by simp, Sub.refl _⟩ rfl ?_ ?_
  · simp; grind
  simp
  exact retRO0 (by simp) rfl rfl

theorem isDigit_ro (c : Nat) : RO Try.prog 121 [.int .u8 c] (.bool (decide (48 ≤ c) && decide (c ≤ 57))) := by
  refine ro_of2 Try.func121 rfl rfl (by rw [Try.ntmps121]; simp) fun bl => ?_
  rw [Try.ntmps121, Try.results121]
  refine AW_run ?_
  simp
  refine AW_way [(0, .int .u8 c)] _ bl 2 (.bool (decide (48 ≤ c) && decide (c ≤ 57))) bl ⟨rfl, by simp, Sub.refl _⟩ rfl ?_ ?_
  · simp; grind
  simp
  exact retRO0 (by simp) rfl rfl

theorem isPlace_ro (n : Int) : RO Try.prog 82 [.int .i64 n] (.bool (decide (-50 ≤ n) && decide (n ≤ 50))) := by
  refine ro_of2 Try.func82 rfl rfl (by rw [Try.ntmps82]; simp) fun bl => ?_
  rw [Try.ntmps82, Try.results82]
  refine AW_run ?_
  simp
  refine AW_way [(0, .int .i64 n)] _ bl 2 (.bool (decide (-50 ≤ n) && decide (n ≤ 50))) bl ⟨rfl, by simp, Sub.refl _⟩ rfl ?_ ?_
  · simp; grind
  simp
  exact retRO0 (by simp) rfl rfl

theorem impl_IsName_ro (s : ByteArray) (hs : s.size ≤ 140737488351232) : RO Try.prog 81 [.str s] (.bool (isName s)) := by
  refine ro_of2 Try.func81 rfl rfl (by rw [Try.ntmps81]; simp) fun bl => ?_
  rw [Try.ntmps81, Try.results81]
  refine AW_run ?_
  simp
  refine AW_for (fun i : Nat => [(0, .str s), (5, .int .i64 s.size), (6, .int .i64 i)]) (fun _ => bl) (fun i => i ≤ s.size ∧ ∀ j (h : j < s.size), j < i → charOk j s[j].toNat = true) (fun i => s.size - i) _ 0 ⟨Nat.zero_le _, fun j h h0 => by omega⟩ ⟨rfl, by simp, Sub.refl _⟩ ?_
  intro i ⟨hi, hc⟩
  refine AW_run ?_
  simp
  refine ⟨fun h => ?_, fun h => ?_⟩
  · refine AW_way [(0, .str s), (5, .int .i64 s.size), (6, .int .i64 i), (3, .int .i64 i)] _ bl 24 (.bool (! charOk i s[i].toNat)) bl ⟨rfl, by simp, Sub.refl _⟩ rfl ?_ ?_
    · simp [h]
      refine callP_ro (isLetter_ro _) ?_
      simp [h, charOk]
      refine ⟨fun h1 => ⟨fun h2 => ⟨h1, .inl h2⟩, fun h2 => ?_⟩, by omega⟩
      refine callP_ro (isDigit_ro _) ?_
      simp
      grind
    simp
    refine ⟨fun h1 => ?_, fun h1 => ?_⟩
    · refine retRO0 (by simp [isName]; intro _ _; exact ⟨i, h, h1⟩) rfl rfl
    · simp (disch := omega) [i64_in, loopQ_normal]
      refine ⟨i + 1, ⟨by omega, fun j hj hji => ?_⟩, by omega, rfl, by simp, Sub.refl _⟩
      rcases Nat.lt_or_ge j i with hlt | hge
      · exact hc j hj hlt
      · obtain rfl : j = i := by omega
        exact h1
  · have hall : ∀ j (h : j < s.size), charOk j s[j].toNat = true := fun j hj => hc j hj (by omega)
    refine AW_way [(0, .str s)] _ bl 2 (.bool (isName s)) bl ⟨rfl, by simp, Sub.refl _⟩ rfl ?_ ?_
    · by_cases hz : s.size = 0
      · obtain rfl : s = ByteArray.empty := ByteArray.ext (Array.eq_empty_of_size_eq_zero hz)
        simp [isName]
      · have h1 : s ≠ ByteArray.empty := fun h => hz (by rw [h]; rfl)
        have h2 : s.toList ≠ [] := fun h => hz (by rw [ByteArray.toList_eq, ← List.length_eq_zero_iff, Array.length_toList] at h; exact h)
        simp [isName, hall, h1, h2]
        rw [Bool.eq_iff_iff]; simp; omega
    simp
    exact retRO0 (by simp) rfl rfl

/-! ### Joints -/
structure J where
  name : ByteArray
  x : Int
  y : Int
  fixed : Bool
  deriving DecidableEq
def J.c (j : J) : List V := [.str j.name, .int .i64 j.x, .int .i64 j.y, .bool j.fixed]
def J.fit (j : J) : Prop := j.name.size ≤ 140737488351232 ∧ (-9223372036854775808 ≤ j.x ∧ j.x ≤ 9223372036854775807) ∧ (-9223372036854775808 ≤ j.y ∧ j.y ≤ 9223372036854775807)
def J.ok (j : J) : Bool := isName j.name && (decide (-50 ≤ j.x) && decide (j.x ≤ 50)) && (decide (-50 ≤ j.y) && decide (j.y ≤ 50))

theorem spec_JointOk_ro (j : J) (hj : j.name.size ≤ 140737488351232) : RO Try.prog 25 [.agg j.c] (.bool j.ok) := by
  refine ro_of2 Try.func25 rfl rfl (by rw [Try.ntmps25]; simp) fun bl => ?_
  rw [Try.ntmps25, Try.results25]
  refine AW_run ?_
  simp [J.c]
  intro g hg0 hg
  refine AW_way [(1, .loc g 4 0 0)] _ (upd bl g (some ⟨4, [j.c]⟩)) 2 (.bool j.ok) (upd bl g (some ⟨4, [j.c]⟩)) ⟨rfl, by simp, Sub.refl _⟩ rfl ?_ ?_
  · simp [J.c]
    refine callP_ro (spec_IsName_ro _ hj) ?_
    simp
    refine ⟨fun h => ?_, fun h => ?_⟩
    · refine callP_ro (l01In_ro _ _ _) ?_
      simp
      refine ⟨fun h1 h2 => ?_, fun h1 => ?_⟩
      · refine callP_ro (l01In_ro _ _ _) ?_
        simp [J.ok, h, h1, h2]
      · simp [J.ok, h]
        grind
    · simp [J.ok, h]
  simp
  exact retRO [_] 0 rfl rfl ((Sub.refl bl).upd hg _)

theorem impl_JointOk_ro (j : J) (hj : j.name.size ≤ 140737488351232) : RO Try.prog 27 [.agg j.c] (.bool j.ok) := by
  refine ro_of2 Try.func27 rfl rfl (by rw [Try.ntmps27]; simp) fun bl => ?_
  rw [Try.ntmps27, Try.results27]
  refine AW_run ?_
  simp [J.c]
  intro g hg0 hg
  refine AW_way [(1, .loc g 4 0 0)] _ (upd bl g (some ⟨4, [j.c]⟩)) 2 (.bool j.ok) (upd bl g (some ⟨4, [j.c]⟩)) ⟨rfl, by simp, Sub.refl _⟩ rfl ?_ ?_
  · simp [J.c]
    refine callP_ro (impl_IsName_ro _ hj) ?_
    simp
    refine ⟨fun h => ?_, fun h => ?_⟩
    · refine callP_ro (isPlace_ro _) ?_
      simp
      refine ⟨fun h1 h2 => ?_, fun h1 => ?_⟩
      · refine callP_ro (isPlace_ro _) ?_
        simp [J.ok, h, h1, h2]
      · simp [J.ok, h]
        grind
    · simp [J.ok, h]
  simp
  exact retRO [_] 0 rfl rfl ((Sub.refl bl).upd hg _)

end Go.Proofs.Ytpkphjoobeacfaa.Vm
