/- FnExactKindName: for every kind the program's KindName returns what the reference's returns; no condition. -/
import Derived.Test.YtpkphjoobeacfaaVmW
import Derived.Test.YtpkphjoobeacfaaK1
namespace Go.Proofs.Ytpkphjoobeacfaa.lawKindName
open Go Go.RowKit Go.ChangeShapes Go.WideShapes Vm
theorem body (xs : List V) (h : ArgsOk Try.prog Try.f3.params.toList xs) : RO Try.prog 3 xs (.bool true) := by
  rw [Try.params3] at h
  obtain ⟨c0, ys, rfl, h0, h⟩ := args_cons h
  obtain rfl := args_nil h
  obtain ⟨n, rfl, hn⟩ := co_int Try.underlying3 h0
  rw [toV_int Try.underlying3]
  exact law_KindName_ro n (by have := wf_i64 hn; omega)
set_option maxRecDepth 100000 in
theorem lifted (os : Os) (started : os.Started) (H : Type) (enc : TypeId × Value → H) :
    ReturnsInHanded {} Try.checked os 3 .any (Rows.fnExactKindNameSpec.pre6 enc Try.prog Try.f3 Rows.fnExactKindNameRow.domain false) (Rows.fnExactKindNameSpec.post enc Try.prog Try.f3 false true false false) := by
  refine returnsInHanded_of_change_sized (C := Try.checked) own started (by kernel_rfl) Try.func3
    (ChangeSpec.witness6 (enc := enc) (C := Try.checked) false ⟨#[], #[.int .i64 0], []⟩ 8 (by kernel_rfl) (by kernel_rfl) (by kernel_rfl) (by kernel_rfl)) ?_
  intro W base args ds gs before hval hW hcnd hsz _
  refine law_calls (tb := 4) rfl rfl Try.underlying4 laidOut (by kernel_rfl) (fun ds hds => ?_) body W base args ds gs before hval hW hsz
  rw [Try.params3] at hds
  first
    | (match ds, hds with | [a], _ => rfl)
    | (match ds, hds with | [a, b], _ => rfl)
    | (match ds, hds with | [a, b, c], _ => rfl)
    | (match ds, hds with | [a, b, c, d], _ => rfl)
    | (match ds, hds with | [a, b, c, d, e], _ => rfl)
    | (match ds, hds with | [a, b, c, d, e, f], _ => rfl)
theorem over : Rows.fnExactKindNameRow.holds Try.pinned (OpenSpec.ofChange Rows.fnExactKindNameSpec) :=
  OpenClaim.holds_of_wide 3 Try.f3 rfl rfl rfl rfl rfl rfl rfl ⟨rfl, rfl, rfl, rfl, rfl⟩ rfl rfl rfl rfl rfl (by kernel_rfl) Try.func3 (facts (by kernel_rfl))
    (of_decide_eq_true (by kernel_rfl)) (by unfold Func.isWrapper; first | (rw [if_pos (by decide +kernel)]; kernel_rfl) | (rw [if_neg (by decide +kernel)]; exact ⟨rfl, rfl⟩))
    (fun os started H enc _ => lifted os started H enc)
theorem proved : Rows.FnExactKindNameSaid := over
#print axioms proved
end Go.Proofs.Ytpkphjoobeacfaa.lawKindName
