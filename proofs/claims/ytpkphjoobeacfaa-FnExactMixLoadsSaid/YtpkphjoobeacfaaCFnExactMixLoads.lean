/- FnExactMixLoads: for every structure, list of loads and list of weights the program's MixLoads returns what the reference's returns; no condition. -/
import Derived.Test.YtpkphjoobeacfaaVmW
import Derived.Test.YtpkphjoobeacfaaK36
namespace Go.Proofs.Ytpkphjoobeacfaa.lawMixLoads
open Go Go.RowKit Go.ChangeShapes Go.WideShapes Vm
theorem body (xs : List V) (h : ArgsOk Try.prog Try.f20.params.toList xs) : RO Try.prog 20 xs (.bool true) := by
  rw [Try.params20] at h
  obtain ⟨c0, ys, rfl, h0, h⟩ := args_cons h
  obtain ⟨c1, ys, rfl, h1, h⟩ := args_cons h
  obtain ⟨c2, ys, rfl, h2, h⟩ := args_cons h
  obtain rfl := args_nil h
  obtain ⟨s0, rfl, hs0⟩ := str_of_co h0
  obtain ⟨w, rfl, hw⟩ := ivv_of_co h1
  obtain ⟨l, rfl, hl, _⟩ := iv_of_co h2
  rw [toV_struct Try.underlying37, toV_slice Try.underlying55, toV_slice Try.underlying31]
  exact law_MixLoads_ro s0 w l ⟨hs0.js, hs0.ms, hs0.names⟩ hw (by omega)
set_option maxRecDepth 100000 in
theorem lifted (os : Os) (started : os.Started) (H : Type) (enc : TypeId × Value → H) :
    ReturnsInHanded {} Try.checked os 20 .any (Rows.fnExactMixLoadsSpec.pre6 enc Try.prog Try.f20 Rows.fnExactMixLoadsRow.domain false) (Rows.fnExactMixLoadsSpec.post enc Try.prog Try.f20 false true false false) := by
  refine returnsInHanded_of_change_sized (C := Try.checked) own started (by kernel_rfl) Try.func20
    (ChangeSpec.witness6 (enc := enc) (C := Try.checked) false ⟨#[], #[.agg #[.slice none 0 0, .slice none 0 0], .slice none 0 0, .slice none 0 0], []⟩ 8 (by kernel_rfl) (by kernel_rfl) (by kernel_rfl) (by kernel_rfl)) ?_
  intro W base args ds gs before hval hW hcnd hsz _
  refine law_calls (tb := 4) rfl rfl Try.underlying4 laidOut (by kernel_rfl) (fun ds hds => ?_) body W base args ds gs before hval hW hsz
  rw [Try.params20] at hds
  first
    | (match ds, hds with | [a], _ => rfl)
    | (match ds, hds with | [a, b], _ => rfl)
    | (match ds, hds with | [a, b, c], _ => rfl)
    | (match ds, hds with | [a, b, c, d], _ => rfl)
    | (match ds, hds with | [a, b, c, d, e], _ => rfl)
    | (match ds, hds with | [a, b, c, d, e, f], _ => rfl)
theorem over : Rows.fnExactMixLoadsRow.holds Try.pinned (OpenSpec.ofChange Rows.fnExactMixLoadsSpec) :=
  OpenClaim.holds_of_wide 20 Try.f20 rfl rfl rfl rfl rfl rfl rfl ⟨rfl, rfl, rfl, rfl, rfl⟩ rfl rfl rfl rfl rfl (by kernel_rfl) Try.func20 (facts (by kernel_rfl))
    (of_decide_eq_true (by kernel_rfl)) (by unfold Func.isWrapper; first | (rw [if_pos (by decide +kernel)]; kernel_rfl) | (rw [if_neg (by decide +kernel)]; exact ⟨rfl, rfl⟩))
    (fun os started H enc _ => lifted os started H enc)
theorem proved : Rows.FnExactMixLoadsSaid := over
#print axioms proved
end Go.Proofs.Ytpkphjoobeacfaa.lawMixLoads
