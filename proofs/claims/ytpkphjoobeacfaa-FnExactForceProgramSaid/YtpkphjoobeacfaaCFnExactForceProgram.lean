/- FnExactForceProgram: for every structure and load the program's ForceProgram returns what the reference's returns; no condition. -/
import Derived.Test.YtpkphjoobeacfaaVmW
import Derived.Test.YtpkphjoobeacfaaK9
import Derived.Test.YtpkphjoobeacfaaK43
namespace Go.Proofs.Ytpkphjoobeacfaa.lawForceProgram
open Go Go.RowKit Go.ChangeShapes Go.WideShapes Vm
theorem body (xs : List V) (h : ArgsOk Try.prog Try.f21.params.toList xs) : RO Try.prog 21 xs (.bool true) := by
  rw [Try.params21] at h
  obtain ⟨c0, ys, rfl, h0, h⟩ := args_cons h
  obtain ⟨c1, ys, rfl, h1, h⟩ := args_cons h
  obtain rfl := args_nil h
  obtain ⟨s0, rfl, hs0⟩ := str_of_co h0
  obtain ⟨l1, rfl, hl1, hm1⟩ := iv_of_co h1
  rw [toV_struct Try.underlying37, toV_slice Try.underlying31]
  exact law_ForceProgram_ro s0 l1 ⟨hs0.js, hs0.ms, hs0.names⟩ (by omega)
set_option maxRecDepth 100000 in
theorem lifted (os : Os) (started : os.Started) (H : Type) (enc : TypeId × Value → H) :
    ReturnsInHanded {} Try.checked os 21 .any (Rows.fnExactForceProgramSpec.pre6 enc Try.prog Try.f21 Rows.fnExactForceProgramRow.domain false) (Rows.fnExactForceProgramSpec.post enc Try.prog Try.f21 false true false false) := by
  refine returnsInHanded_of_change_sized (C := Try.checked) own started (by kernel_rfl) Try.func21
    (ChangeSpec.witness6 (enc := enc) (C := Try.checked) false ⟨#[], #[.agg #[.slice none 0 0, .slice none 0 0], .slice none 0 0], []⟩ 8 (by kernel_rfl) (by kernel_rfl) (by kernel_rfl) (by kernel_rfl)) ?_
  intro W base args ds gs before hval hW hcnd hsz _
  refine law_calls (tb := 4) rfl rfl Try.underlying4 laidOut (by kernel_rfl) (fun ds hds => ?_) body W base args ds gs before hval hW hsz
  rw [Try.params21] at hds
  first
    | (match ds, hds with | [a], _ => rfl)
    | (match ds, hds with | [a, b], _ => rfl)
    | (match ds, hds with | [a, b, c], _ => rfl)
    | (match ds, hds with | [a, b, c, d], _ => rfl)
    | (match ds, hds with | [a, b, c, d, e], _ => rfl)
    | (match ds, hds with | [a, b, c, d, e, f], _ => rfl)
theorem over : Rows.fnExactForceProgramRow.holds Try.pinned (OpenSpec.ofChange Rows.fnExactForceProgramSpec) :=
  OpenClaim.holds_of_wide 21 Try.f21 rfl rfl rfl rfl rfl rfl rfl ⟨rfl, rfl, rfl, rfl, rfl⟩ rfl rfl rfl rfl rfl (by kernel_rfl) Try.func21 (facts (by kernel_rfl))
    (of_decide_eq_true (by kernel_rfl)) (by unfold Func.isWrapper; first | (rw [if_pos (by decide +kernel)]; kernel_rfl) | (rw [if_neg (by decide +kernel)]; exact ⟨rfl, rfl⟩))
    (fun os started H enc _ => lifted os started H enc)
theorem proved : Rows.FnExactForceProgramSaid := over
#print axioms proved
end Go.Proofs.Ytpkphjoobeacfaa.lawForceProgram
