/- FnExactJointOk: for every joint the program's JointOk returns what the reference's returns; no condition. -/
import Derived.Test.YtpkphjoobeacfaaVmW
import Derived.Test.YtpkphjoobeacfaaK4
namespace Go.Proofs.Ytpkphjoobeacfaa.lawJointOk
open Go Go.RowKit Go.ChangeShapes Go.WideShapes Vm
theorem body (xs : List V) (h : ArgsOk Try.prog Try.f4.params.toList xs) : RO Try.prog 4 xs (.bool true) := by
  rw [Try.params4] at h
  obtain ⟨c0, ys, rfl, h0, h⟩ := args_cons h
  obtain rfl := args_nil h
  obtain ⟨j, rfl, hj⟩ := j_of_co h0
  rw [toV_struct Try.underlying25]
  exact law_JointOk_ro j hj.1
set_option maxRecDepth 100000 in
theorem lifted (os : Os) (started : os.Started) (H : Type) (enc : TypeId × Value → H) :
    ReturnsInHanded {} Try.checked os 4 .any (Rows.fnExactJointOkSpec.pre6 enc Try.prog Try.f4 Rows.fnExactJointOkRow.domain false) (Rows.fnExactJointOkSpec.post enc Try.prog Try.f4 false true false false) := by
  refine returnsInHanded_of_change_sized (C := Try.checked) own started (by kernel_rfl) Try.func4
    (ChangeSpec.witness6 (enc := enc) (C := Try.checked) false ⟨#[], #[.agg #[.string ⟨#[]⟩, .int .i64 0, .int .i64 0, .bool false]], []⟩ 8 (by kernel_rfl) (by kernel_rfl) (by kernel_rfl) (by kernel_rfl)) ?_
  intro W base args ds gs before hval hW hcnd hsz _
  refine law_calls (tb := 4) rfl rfl Try.underlying4 laidOut (by kernel_rfl) (fun ds hds => ?_) body W base args ds gs before hval hW hsz
  rw [Try.params4] at hds
  first
    | (match ds, hds with | [a], _ => rfl)
    | (match ds, hds with | [a, b], _ => rfl)
    | (match ds, hds with | [a, b, c], _ => rfl)
    | (match ds, hds with | [a, b, c, d], _ => rfl)
    | (match ds, hds with | [a, b, c, d, e], _ => rfl)
    | (match ds, hds with | [a, b, c, d, e, f], _ => rfl)
theorem over : Rows.fnExactJointOkRow.holds Try.pinned (OpenSpec.ofChange Rows.fnExactJointOkSpec) :=
  OpenClaim.holds_of_wide 4 Try.f4 rfl rfl rfl rfl rfl rfl rfl ⟨rfl, rfl, rfl, rfl, rfl⟩ rfl rfl rfl rfl rfl (by kernel_rfl) Try.func4 (facts (by kernel_rfl))
    (of_decide_eq_true (by kernel_rfl)) (by unfold Func.isWrapper; first | (rw [if_pos (by decide +kernel)]; kernel_rfl) | (rw [if_neg (by decide +kernel)]; exact ⟨rfl, rfl⟩))
    (fun os started H enc _ => lifted os started H enc)
theorem proved : Rows.FnExactJointOkSaid := over
#print axioms proved
end Go.Proofs.Ytpkphjoobeacfaa.lawJointOk
