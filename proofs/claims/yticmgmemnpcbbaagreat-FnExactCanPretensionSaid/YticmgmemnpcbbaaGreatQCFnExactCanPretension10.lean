/- FnExactCanPretension: for every structure the program's CanPretension returns what the reference's returns; no condition. -/



import Derived.Test.YticmgmemnpcbbaaGreatQCFnExactCanPretension9

namespace Go.Proofs.YticmgmemnpcbbaaGreat.lawCanPretension
open Go Go.RowKit Go.ChangeShapes Go.WideShapes Vm
theorem body (xs:List V) (h:qD Tryz.prog Tryz.f9.params.toList xs):RO Tryz.prog 9 xs (.bool true):=by
 rw[Tryz.params9] at h
 obtain⟨c0,ys,rfl,h0,h⟩:=Em h
 obtain rfl:=Ld h
 obtain⟨x0,rfl,y0⟩:=Er h0
 rw[Z5 Tryz.underlying71]
 exact law_CanPretension_ro x0 ⟨y0.js,y0.ms,y0.names⟩
set_option maxRecDepth 100000 in
theorem lifted (os:Os) (started:os.Started) (H:Type) (enc:TypeId×Value→H):
  ReturnsInHanded {} Tryz.checked os 9 .any (Rows.fnExactCanPretensionSpec.pre6 enc Tryz.prog Tryz.f9 Rows.fnExactCanPretensionRow.domain false) (Rows.fnExactCanPretensionSpec.post enc Tryz.prog Tryz.f9 false true false false):=by
 refine returnsInHanded_of_change_sized (C:=Tryz.checked) own started (by kernel_rfl) Tryz.func9
  (ChangeSpec.witness6 (enc:=enc) (C:=Tryz.checked) false ⟨#[], #[.agg #[.slice none 0 0,.slice none 0 0]],[]⟩ 8 (by kernel_rfl) (by kernel_rfl) (by kernel_rfl) (by kernel_rfl)) ?_
 intro W base args ds gs before Aa hW aQV hsz _
 refine law_calls (tb:=4) rfl rfl Tryz.underlying4 laidOut (by kernel_rfl) (fun ds hds=> ?_) body W base args ds gs before Aa hW hsz
 rw[Tryz.params9] at hds
 first
  | (match ds, hds with | [a], _ => rfl)
  | (match ds, hds with | [a, b], _ => rfl)
  | (match ds, hds with | [a, b, c], _ => rfl)
  | (match ds, hds with | [a, b, c, d], _ => rfl)
  | (match ds, hds with | [a, b, c, d, e], _ => rfl)
  | (match ds, hds with | [a, b, c, d, e, f], _ => rfl)
theorem aE7 :Rows.fnExactCanPretensionRow.holds Tryz.pinned (OpenSpec.ofChange Rows.fnExactCanPretensionSpec):=
 OpenClaim.holds_of_wide 9 Tryz.f9 rfl rfl rfl rfl rfl rfl rfl ⟨rfl,rfl,rfl,rfl,rfl⟩ rfl rfl rfl rfl rfl (by kernel_rfl) Tryz.func9 (facts (by kernel_rfl))
  (of_decide_eq_true (by kernel_rfl)) (by unfold Func.isWrapper;first | (rw[if_pos (by decide+kernel)];kernel_rfl)| (rw[if_neg (by decide+kernel)];exact⟨rfl,rfl⟩))
  (fun os started H enc _=>lifted os started H enc)
theorem proved :Rows.FnExactCanPretensionSaid:=aE7
#print axioms proved
end Go.Proofs.YticmgmemnpcbbaaGreat.lawCanPretension
