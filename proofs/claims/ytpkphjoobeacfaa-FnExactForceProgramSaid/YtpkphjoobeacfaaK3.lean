/- Copies and sizes of joints; the law JointOk. -/
import Derived.Test.YtpkphjoobeacfaaK2
namespace Go.Proofs.Ytpkphjoobeacfaa.Vm
open Go Go.Proofs
set_option linter.unusedSimpArgs false
set_option linter.unusedVariables false

/-- What is left of an allowance. -/
def less (left : Int) (n : Nat) : Int := if left - n < 0 then -1 else left - n

theorem szJoint_ro (j : J) (left : Int) (hl : -1 ≤ left ∧ left ≤ 1048576) (hj : j.name.size ≤ 140737488351232) : RO Try.prog 24 [.agg j.c, .int .i64 left] (.int .i64 (less left j.name.size)) := by
  refine ro_of2 Try.func24 rfl rfl (by rw [Try.ntmps24]; simp) fun bl => ?_
  rw [Try.ntmps24, Try.results24]
  refine AW_run ?_
  simp [J.c]
  intro g hg0 hg
  simp (disch := omega) [i64_in]
  refine ⟨fun h => ?_, fun h => ?_⟩
  · exact retRO [_] 0 rfl (by simp [frz, less]; omega) ((Sub.refl bl).upd hg _)
  · exact retRO [_] 0 rfl (by simp [frz, less]; omega) ((Sub.refl bl).upd hg _)

theorem toJoint_ro (j : J) : RO Try.prog 26 [.agg j.c] (.agg j.c) := by
  refine ro_of2 Try.func26 rfl rfl (by rw [Try.ntmps26]; simp) fun bl => ?_
  rw [Try.ntmps26, Try.results26]
  refine AW_run ?_
  simp [J.c]
  intro g1 hg1 hb1 g2 hg2 h21 hb2
  intro g3 hg3 h32 h31 hb3
  simp [h21, h31, h32, Ne.symm h21, Ne.symm h31, Ne.symm h32]
  refine retRO [.agg j.c] 1 ?_ ?_ ?_
  · simp [h21, h31, h32, Ne.symm h21, Ne.symm h31, Ne.symm h32, J.c]
  · rfl
  · simp [hb1, hb2, hb3]

theorem law_JointOk_ro (j : J) (hj : j.name.size ≤ 140737488351232) : RO Try.prog 4 [.agg j.c] (.bool true) := by
  refine ro_of2 Try.func4 rfl rfl (by rw [Try.ntmps4]; simp) fun bl => ?_
  rw [Try.ntmps4, Try.results4]
  refine AW_run ?_
  simp [J.c]
  intro g hg0 hg
  refine callP_ro (szJoint_ro j 1048576 (by omega) hj) ?_
  simp
  refine ⟨fun h => ?_, fun h => ?_⟩
  · refine retRO [_] 0 rfl rfl (by simp [hg])
  · refine callP_ro (toJoint_ro j) ?_
    simp
    refine callP_ro (spec_JointOk_ro j hj) ?_
    simp
    refine callP_ro (toJoint_ro j) ?_
    simp
    refine callP_ro (impl_JointOk_ro j hj) ?_
    simp
    refine retRO [_] 0 rfl rfl (by simp [hg])

end Go.Proofs.Ytpkphjoobeacfaa.Vm
