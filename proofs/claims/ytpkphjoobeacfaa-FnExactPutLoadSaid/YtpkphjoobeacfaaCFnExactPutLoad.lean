/- FnExactPutLoad: for every structure, load, joint and force the program's PutLoad returns what the reference's returns; no condition. -/
import Derived.Test.YtpkphjoobeacfaaVmW
import Derived.Test.YtpkphjoobeacfaaK9
import Derived.Test.YtpkphjoobeacfaaK31
namespace Go.Proofs.Ytpkphjoobeacfaa.lawPutLoad
open Go Go.RowKit Go.ChangeShapes Go.WideShapes Vm
theorem body (xs : List V) (h : ArgsOk Try.prog Try.f19.params.toList xs) : RO Try.prog 19 xs (.bool true) := by
  rw [Try.params19] at h
  obtain ⟨c0, ys, rfl, h0, h⟩ := args_cons h
  obtain ⟨c1, ys, rfl, h1, h⟩ := args_cons h
  obtain ⟨c2, ys, rfl, h2, h⟩ := args_cons h
  obtain ⟨c3, ys, rfl, h3, h⟩ := args_cons h
  obtain ⟨c4, ys, rfl, h4, h⟩ := args_cons h
  obtain rfl := args_nil h
  obtain ⟨s0, rfl, hs0⟩ := str_of_co h0
  obtain ⟨l1, rfl, hl1, hm1⟩ := iv_of_co h1
  obtain ⟨n2, rfl, hn2⟩ := co_int Try.underlying3 h2
  obtain ⟨n3, rfl, hn3⟩ := co_int Try.underlying3 h3
  obtain ⟨n4, rfl, hn4⟩ := co_int Try.underlying3 h4
  rw [toV_struct Try.underlying37, toV_slice Try.underlying31, toV_int Try.underlying3, toV_int Try.underlying3, toV_int Try.underlying3]
  exact law_PutLoad_ro s0 l1 n2 n3 n4 ⟨hs0.js, hs0.ms, hs0.names⟩ (by omega) (wf_i64 hn2) (wf_i64 hn3) (wf_i64 hn4)
set_option maxRecDepth 100000 in
theorem lifted (os : Os) (started : os.Started) (H : Type) (enc : TypeId × Value → H) :
    ReturnsInHanded {} Try.checked os 19 .any (Rows.fnExactPutLoadSpec.pre6 enc Try.prog Try.f19 Rows.fnExactPutLoadRow.domain false) (Rows.fnExactPutLoadSpec.post enc Try.prog Try.f19 false true false false) := by
  refine returnsInHanded_of_change_sized (C := Try.checked) own started (by kernel_rfl) Try.func19
    (ChangeSpec.witness6 (enc := enc) (C := Try.checked) false ⟨#[], #[.agg #[.slice none 0 0, .slice none 0 0], .slice none 0 0, .int .i64 0, .int .i64 0, .int .i64 0], []⟩ 8 (by kernel_rfl) (by kernel_rfl) (by kernel_rfl) (by kernel_rfl)) ?_
  intro W base args ds gs before hval hW hcnd hsz _
  refine law_calls (tb := 4) rfl rfl Try.underlying4 laidOut (by kernel_rfl) (fun ds hds => ?_) body W base args ds gs before hval hW hsz
  rw [Try.params19] at hds
  first
    | (match ds, hds with | [a], _ => rfl)
    | (match ds, hds with | [a, b], _ => rfl)
    | (match ds, hds with | [a, b, c], _ => rfl)
    | (match ds, hds with | [a, b, c, d], _ => rfl)
    | (match ds, hds with | [a, b, c, d, e], _ => rfl)
    | (match ds, hds with | [a, b, c, d, e, f], _ => rfl)
theorem over : Rows.fnExactPutLoadRow.holds Try.pinned (OpenSpec.ofChange Rows.fnExactPutLoadSpec) :=
  OpenClaim.holds_of_wide 19 Try.f19 rfl rfl rfl rfl rfl rfl rfl ⟨rfl, rfl, rfl, rfl, rfl⟩ rfl rfl rfl rfl rfl (by kernel_rfl) Try.func19 (facts (by kernel_rfl))
    (of_decide_eq_true (by kernel_rfl)) (by unfold Func.isWrapper; first | (rw [if_pos (by decide +kernel)]; kernel_rfl) | (rw [if_neg (by decide +kernel)]; exact ⟨rfl, rfl⟩))
    (fun os started H enc _ => lifted os started H enc)
theorem proved : Rows.FnExactPutLoadSaid := over
#print axioms proved
end Go.Proofs.Ytpkphjoobeacfaa.lawPutLoad
