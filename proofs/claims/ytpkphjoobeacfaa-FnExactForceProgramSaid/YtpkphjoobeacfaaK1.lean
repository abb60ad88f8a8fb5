/- KindName. -/
import Derived.Test.YtpkphjoobeacfaaVmS
namespace Go.Proofs.Ytpkphjoobeacfaa.Vm
open Go Go.Proofs
set_option linter.unusedSimpArgs false
set_option linter.unusedVariables false

def kindName (n : Int) : ByteArray := if n = 1 then { data := #[114, 111, 112, 101] } else if n = 2 then { data := #[115, 116, 114, 117, 116] } else if n = 3 then { data := #[98, 97, 114] } else { data := #[] }

theorem l01In_ro (n lo hi : Int) : RO Try.prog 79 [.int .i64 n, .int .i64 lo, .int .i64 hi] (.bool (decide (lo ≤ n) && decide (n ≤ hi))) := by
  refine ro_of2 Try.func79 rfl rfl (by rw [Try.ntmps79]; simp) fun bl => ?_
  rw [Try.ntmps79, Try.results79]
  refine AW_run ?_
  simp
  refine AW_way [(0, .int .i64 n), (1, .int .i64 lo), (2, .int .i64 hi)] _ bl 6 (.bool (decide (lo ≤ n) && decide (n ≤ hi))) bl ⟨rfl, by simp, Sub.refl _⟩ rfl ?_ ?_
  · simp; grind
  simp
  exact retRO0 (by simp) rfl rfl

theorem spec_KindName_ro (n : Int) (hn : -2^63 ≤ n ∧ n < 2^63) : RO Try.prog 22 [.int .i64 n] (.str (kindName n)) := by
  refine ro_of2 Try.func22 rfl rfl (by rw [Try.ntmps22]; simp) fun bl => ?_
  rw [Try.ntmps22, Try.results22]
  refine AW_run ?_
  simp
  refine callP_ro (l01In_ro _ _ _) ?_
  simp
  refine ⟨fun h => ?_, fun h1 h2 g hg0 hg => ?_⟩
  · exact retRO0 (by simp [kindName]; grind) rfl rfl
  · obtain rfl | rfl | rfl : n = 1 ∨ n = 2 ∨ n = 3 := by omega
    all_goals
      simp (disch := omega) [i64_in, List.getElem?_range]
      refine retRO [_] 0 rfl ?_ ?_
      · simp [frz, kindName]
      · exact (Sub.refl bl).upd hg _

theorem impl_KindName_ro (n : Int) : RO Try.prog 23 [.int .i64 n] (.str (kindName n)) := by
  refine ro_of2 Try.func23 rfl rfl (by rw [Try.ntmps23]; simp) fun bl => ?_
  rw [Try.ntmps23, Try.results23]
  refine AW_run ?_
  simp
  refine ⟨fun h => ?_, fun h1 => ⟨fun h => ?_, fun h2 => ⟨fun h => ?_, fun h3 => ?_⟩⟩⟩
  all_goals exact retRO0 (by simp [kindName, *]) rfl rfl

theorem law_KindName_ro (n : Int) (hn : -2^63 ≤ n ∧ n < 2^63) : RO Try.prog 3 [.int .i64 n] (.bool true) := by
  refine ro_of2 Try.func3 rfl rfl (by rw [Try.ntmps3]; simp) fun bl => ?_
  rw [Try.ntmps3, Try.results3]
  refine AW_run ?_
  simp
  refine callP_ro (spec_KindName_ro n hn) ?_
  simp
  refine callP_ro (impl_KindName_ro n) ?_
  simp
  exact retRO0 (by simp) rfl rfl

end Go.Proofs.Ytpkphjoobeacfaa.Vm
