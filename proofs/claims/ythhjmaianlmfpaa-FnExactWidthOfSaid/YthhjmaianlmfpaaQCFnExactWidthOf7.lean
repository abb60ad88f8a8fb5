/- FnExactWidthOf: for every span the program's WidthOf returns what the reference's returns; no condition. -/


import Derived.Test.YthhjmaianlmfpaaQCFnExactWidthOf6

namespace Go.Proofs.Ythhjmaianlmfpaa.Vm
open Go Go.Proofs
set_option linter.unusedSimpArgs false
set_option linter.unusedVariables false

theorem frz_rtL {bl : Int → Option Blk} {r : RT} {vs : List V} {gs : List Int} (h : OwnL bl (dR r) vs gs) (n : Nat) : frz bl (n + 2) (.agg vs) = some (.agg r.c) :=
  frz_rt (by rw [OwnD]; exact ⟨vs, rfl, h⟩) n
theorem dT_sc (r : RT) (b : Bool) : (dT r b).sc = true := by simp [dT, D.sc, D.scL, dRT_sc, dR_sc, V.ow]
theorem dT_dep (r : RT) (b : Bool) : (dT r b).dep 3 := by
  unfold dT; rw [D.dep]; exact ⟨by omega, by simp [D.depL, D.dep, dR_dep]⟩
theorem dT_fz (r : RT) (b : Bool) : (dT r b).fz = .tup [.agg r.c, .bool b] := by simp [dT, D.fz, D.fzL, dR_fz]
theorem impl_WidthOf_ro (s : SP) (hs : s.le 1048576) : RO Try.prog 33 [.agg s.c] (.tup [.agg (ro (widQ s)).c, .bool (widQ s).isSome]) := by
  have := ro_of_nw 3 (impl_WidthOf_nw s hs) (dT_dep _ _)
  rwa [dT_fz] at this

theorem own_sp1 {bl : Int → Option Blk} {s : SP} {vs : List V} {gs : List Int} (h : OwnL bl (dS s) vs gs) : ∃ vm vd wm wd, vs = [.bool s.lo.neg, vm, vd, .bool s.hi.neg, wm, wd, .bool s.nl, .bool s.nh] ∧ vm.one = true ∧ vd.one = true ∧ wm.one = true ∧ wd.one = true := by
  obtain ⟨v1, v2, ga, gb, rfl, rfl, hd, o1, o2⟩ := own_spL.1 h
  obtain ⟨vm, vd, _, _, rfl, rfl, _, om, od⟩ := own_rtL.1 o1
  obtain ⟨wm, wd, _, _, rfl, rfl, _, om2, od2⟩ := own_rtL.1 o2
  exact ⟨vm, vd, wm, wd, rfl, om.one.1, od.one.1, om2.one.1, od2.one.1⟩
theorem own_rt1 {bl : Int → Option Blk} {r : RT} {vs : List V} {gs : List Int} (h : OwnL bl (dR r) vs gs) : ∃ vm vd, vs = [.bool r.neg, vm, vd] ∧ vm.one = true ∧ vd.one = true := by
  obtain ⟨vm, vd, _, _, rfl, rfl, _, om, od⟩ := own_rtL.1 h
  exact ⟨vm, vd, rfl, om.one.1, od.one.1⟩

theorem law_WidthOf_ro (s : SP) (hs : s.le 17592186043904) : RO Try.prog 7 [.agg s.c] (.bool true) := by
  refine ro_of2 Try.func7 rfl rfl (by rw [Try.ntmps7]; simp) fun bl => ?_
  rw [Try.ntmps7, Try.results7]
  refine AW_run ?_
  simp [SP.c]
  intro g hg0 hg
  refine callP_ro (szSpan_ro s _ (by omega) (SP.le_mono hs (by omega))) ?_
  simp
  refine ⟨fun h => ?_, fun h => ?_⟩
  · exact retRO [.bool true] 0 (by simp) rfl (by simp [hg])
  have hk := szSp_n (s := s) (left := 1048576) (by omega) (by omega)
  have tS := toSpan_ro s hk
  have hS := spec_WidthOf_ro s hk
  have hI := impl_WidthOf_nw s hk
  have hJ := impl_WidthOf_ro s hk
  have wl := ro_le (okQ_wid s)
  generalize (widQ s).isSome = ob at hS hI hJ
  generalize ro (widQ s) = w at hS hI hJ wl
  have we := eqRat_ro w ⟨by omega, by omega⟩
  refine callP_ro tS ?_
  simp
  refine callP_ro hS ?_
  simp [RT.c]
  intro gw hgw hwg hbw
  simp [hwg, Ne.symm hwg]
  refine callP_new (toSpan_nw s hk) fun v gA b1 oA fA frA => ?_
  rw [OwnD] at oA
  obtain ⟨vs, rfl, oA⟩ := oA
  obtain ⟨vm, vd, wm, wd, rfl, a1, a2, a3, a4⟩ := own_sp1 oA
  have eg1 : b1 g = some ⟨8, [[.bool s.lo.neg, .sl (iv s.lo.m), .sl (iv s.lo.d), .bool s.hi.neg, .sl (iv s.hi.m), .sl (iv s.hi.d), .bool s.nl, .bool s.nh]]⟩ := new_keep fA frA (by simp [Ne.symm hwg])
  have ew1 : b1 gw = some ⟨3, [[.bool w.neg, .sl (iv w.m), .sl (iv w.d)]]⟩ := new_keep fA frA (by simp)
  have hA : ∀ x, x ∈ gA → bl x = none := fun x hx => by have := fA x hx; simp [upd_apply] at this; exact this.2.2
  have s1 : Sub bl b1 := fun x b hx => by
    have z1 : x ≠ g := fun e => by rw [e, hg] at hx; cases hx
    have z2 : x ≠ gw := fun e => by rw [e, hbw] at hx; cases hx
    exact new_keep fA frA (by simp [upd_apply, z1, z2, hx])
  simp [a1, a2, a3, a4]
  intro g6 hg6 hb6
  have z6g : g6 ≠ g := fun e => by rw [e, eg1] at hb6; cases hb6
  have z6w : g6 ≠ gw := fun e => by rw [e, ew1] at hb6; cases hb6
  have nA6 : g6 ∉ gA := oA.not hb6
  have kp2 := kp_of (bl := b1) hb6 (some ⟨8, [[.bool s.lo.neg, vm, vd, .bool s.hi.neg, wm, wd, .bool s.nl, .bool s.nh]]⟩)
  have e62 : upd b1 g6 (some ⟨8, [[.bool s.lo.neg, vm, vd, .bool s.hi.neg, wm, wd, .bool s.nl, .bool s.nh]]⟩) g6 = some ⟨8, [[.bool s.lo.neg, vm, vd, .bool s.hi.neg, wm, wd, .bool s.nl, .bool s.nh]]⟩ := by simp
  generalize upd b1 g6 (some ⟨8, [[.bool s.lo.neg, vm, vd, .bool s.hi.neg, wm, wd, .bool s.nl, .bool s.nh]]⟩) = b2 at *
  have eg2 := kp2 _ _ eg1
  have ew2 := kp2 _ _ ew1
  have oA := oA.keep (bl' := b2) fun x _ b hb => kp2 x b hb
  have s2 : Sub bl b2 := fun x b hx => kp2 x b (s1 x b hx)

  try simp [e62]
  refine callP_lend 3 (ys := [.agg s.c]) (by simp [frz_sp oA 1]) hI (dT_sc _ _) fun vr gR b3 oT fR frR => ?_
  obtain ⟨rs, rfl, oR⟩ := own_dT.1 oT
  clear oT
  obtain ⟨rm, rd', rfl, p1, p2⟩ := own_rt1 oR
  have eg3 := new_keep fR frR eg2
  have ew3 := new_keep fR frR ew2
  have e63 := new_keep fR frR e62
  have nAR : ∀ x, x ∈ gR → x ∉ gA := fun x hx => oA.not (fR x hx)
  have hR : ∀ x, x ∈ gR → bl x = none := fun x hx => fresh_of s2 (fR x hx)
  have oA := oA.keep (bl' := b3) fun x _ b hb => new_keep fR frR hb
  have s3 : Sub bl b3 := fun x b hx => new_keep fR frR (s2 x b hx)
  simp [p1, p2]
  intro g7 hg7 hb7
  have z7g : g7 ≠ g := fun e => by rw [e, eg3] at hb7; cases hb7
  have z7w : g7 ≠ gw := fun e => by rw [e, ew3] at hb7; cases hb7
  have z76 : g7 ≠ g6 := fun e => by rw [e, e63] at hb7; cases hb7
  have nA7 := oA.not hb7
  have nR7 := oR.not hb7
  have kp4 := kp_of (bl := b3) hb7 (some ⟨3, [[.bool w.neg, rm, rd']]⟩)
  have e74 : upd b3 g7 (some ⟨3, [[.bool w.neg, rm, rd']]⟩) g7 = some ⟨3, [[.bool w.neg, rm, rd']]⟩ := by simp
  generalize upd b3 g7 (some ⟨3, [[.bool w.neg, rm, rd']]⟩) = b4 at *
  have eg4 := kp4 _ _ eg3
  have ew4 := kp4 _ _ ew3
  have e64 := kp4 _ _ e63
  have oA := oA.keep (bl' := b4) fun x _ b hb => kp4 x b hb
  have oR := oR.keep (bl' := b4) fun x _ b hb => kp4 x b hb
  have s4 : Sub bl b4 := fun x b hx => kp4 x b (s3 x b hx)
  refine AW_way0 [(1, .loc g 8 0 0), (6, .loc g6 8 0 0), (4, .loc gw 3 0 0), (5, .bool ob), (7, .loc g7 3 0 0), (8, .bool ob)] _ b4 40 (.bool false) ⟨rfl, by simp, Sub.refl _⟩ rfl ?_ ?_
  · simp [e74, ew4]
    refine callP_borrow 3 (ys := [.agg w.c, .agg w.c]) (by simp [frz_rtL oR 1]; simp [frz, RT.c, V.cl]) we rfl ?_
    simp
  simp
  refine AW_quiet mixedO (by kernel_rfl) ?_
  simp [e64, eg4]
  refine hcQ_ro tS ?_
  simp
  refine hcQ_of 3 (eqSpan_ro s (SP.le_mono hs (by omega))) (by simp [frz_sp oA 1]; simp [frz, SP.c, V.cl]) rfl ?_
  simp [e64]
  have l1 : mkSN 1 s ≤ 4611686018427387000 := by have := hk.1.1; have := hk.1.2; have := hk.2.1; have := hk.2.2; unfold mkSN mkRN; omega
  refine markSpan_cp s 1 _ gA oA l1 fun b5 k5 => ?_
  have eg5 := k5 g (fun h => by have := fA g h; simp [Ne.symm hwg] at this) _ eg4
  have ew5 := k5 gw (fun h => by have := fA gw h; simp at this) _ ew4
  have e75 := k5 g7 nA7 _ e74
  have oR := oR.keep (bl' := b5) fun x hx b hb => k5 x (nAR x hx) b hb
  have s5 : Sub bl b5 := fun x b hx => k5 x (fun h => by rw [hA x h] at hx; cases hx) b (s4 x b hx)
  simp
  refine AW_way0 [(1, .loc g 8 0 0), (9, .int .i64 (mkSN 1 s : Nat)), (4, .loc gw 3 0 0), (5, .bool ob), (7, .loc g7 3 0 0), (8, .bool ob)] _ b5 61 (.bool false) ⟨rfl, by simp, Sub.refl _⟩ rfl ?_ ?_
  · simp [e75, ew5]
    refine callP_borrow 3 (ys := [.agg w.c, .agg w.c]) (by simp [frz_rtL oR 1]; simp [frz, RT.c, V.cl]) we rfl ?_
    simp
  simp [e75]
  have l2 : mkRN 1 w ≤ 4611686018427387000 := by unfold mkRN; omega
  refine markRat_cp w 1 _ gR oR l2 fun b6 oR k6 => ?_
  have nRg : g ∉ gR := fun h => by have := fR g h; rw [eg2] at this; cases this
  have nRw : gw ∉ gR := fun h => by have := fR gw h; rw [ew2] at this; cases this
  have eg6 := k6 g nRg _ eg5
  have ew6 := k6 gw nRw _ ew5
  have e76 := k6 g7 nR7 _ e75
  have s6 : Sub bl b6 := fun x b hx => k6 x (fun h => by rw [hR x h] at hx; cases hx) b (s5 x b hx)
  have hh := heldRat_ro w 1 l2
  have hneg : ¬ (mkRN 1 w : Int) < 0 := by omega
  simp [e76]
  refine callP_borrow 3 (ys := [.agg (mkR 1 w).c, .int .i64 1]) (by simp [frz_rtL oR 1, show (mkR 1 w).neg = w.neg from rfl]; simp [frz]) hh rfl ?_
  simp [eg6, hneg]
  refine callP_ro tS ?_
  simp
  refine callP_ro hJ ?_
  simp [RT.c]
  intro g12 hg12 hb12
  have y1 : g12 ≠ gw := fun e => by rw [e, ew6] at hb12; cases hb12
  have y2 : g12 ≠ g7 := fun e => by rw [e, e76] at hb12; cases hb12
  have y3 : g12 ≠ g := fun e => by rw [e, eg6] at hb12; cases hb12
  have nR12 := oR.not hb12
  have kp7 := kp_of (bl := b6) hb12 (some ⟨3, [[.bool w.neg, .sl (iv w.m), .sl (iv w.d)]]⟩)
  have e127 : upd b6 g12 (some ⟨3, [[.bool w.neg, .sl (iv w.m), .sl (iv w.d)]]⟩) g12 = some ⟨3, [[.bool w.neg, .sl (iv w.m), .sl (iv w.d)]]⟩ := by simp
  generalize upd b6 g12 (some ⟨3, [[.bool w.neg, .sl (iv w.m), .sl (iv w.d)]]⟩) = b7 at *
  have ew7 := kp7 _ _ ew6
  have e77 := kp7 _ _ e76
  have oR := oR.keep (bl' := b7) fun x _ b hb => kp7 x b hb
  have s7 : Sub bl b7 := fun x b hx => kp7 x b (s6 x b hx)
  refine AW_way0 [(1, .loc g 8 0 0), (10, .int .i64 (mkRN 1 w : Nat)), (4, .loc gw 3 0 0), (5, .bool ob), (7, .loc g7 3 0 0), (8, .bool ob), (12, .loc g12 3 0 0), (13, .bool ob)] _ b7 87 (.bool false) ⟨rfl, by simp, Sub.refl _⟩ rfl ?_ ?_
  · simp [e127, ew7]
    refine callP_ro we ?_
    simp
  simp [e77]
  refine callP_borrow 3 (ys := [.agg (mkR 1 w).c, .int .i64 1]) (by simp [frz_rtL oR 1, show (mkR 1 w).neg = w.neg from rfl]; simp [frz]) hh rfl ?_
  simp [hneg]
  exact retRO [_] 0 rfl rfl s7

end Go.Proofs.Ythhjmaianlmfpaa.Vm

namespace Go.Proofs.Ythhjmaianlmfpaa.lawWidthOf
open Go Go.RowKit Go.ChangeShapes Go.WideShapes Vm
theorem body (xs : List V) (h : ArgsOk Try.prog Try.f7.params.toList xs) : RO Try.prog 7 xs (.bool true) := by
  rw [Try.params7] at h
  obtain ⟨c0, ys, rfl, h0, h⟩ := args_cons h
  obtain rfl := args_nil h
  obtain ⟨s, rfl, hs⟩ := sp_of_co h0
  rw [toV_struct Try.underlying46]
  exact law_WidthOf_ro s hs
set_option maxRecDepth 100000 in
theorem lifted (os : Os) (started : os.Started) (H : Type) (enc : TypeId × Value → H) :
    ReturnsInHanded {} Try.checked os 7 .any (Rows.fnExactWidthOfSpec.pre6 enc Try.prog Try.f7 Rows.fnExactWidthOfRow.domain false) (Rows.fnExactWidthOfSpec.post enc Try.prog Try.f7 false true false false) := by
  refine returnsInHanded_of_change_sized (C := Try.checked) own started (by kernel_rfl) Try.func7
    (ChangeSpec.witness6 (enc := enc) (C := Try.checked) false ⟨#[], #[.agg #[.bool false, .slice none 0 0, .slice none 0 0, .bool false, .slice none 0 0, .slice none 0 0, .bool false, .bool false]], []⟩ 8 (by kernel_rfl) (by kernel_rfl) (by kernel_rfl) (by kernel_rfl)) ?_
  intro W base args ds gs before hval hW hcnd hsz _
  refine law_calls (tb := 4) rfl rfl Try.underlying4 laidOut (by kernel_rfl) (fun ds hds => ?_) body W base args ds gs before hval hW hsz
  rw [Try.params7] at hds
  first
    | (match ds, hds with | [a], _ => rfl)
    | (match ds, hds with | [a, b], _ => rfl)
    | (match ds, hds with | [a, b, c], _ => rfl)
    | (match ds, hds with | [a, b, c, d], _ => rfl)
    | (match ds, hds with | [a, b, c, d, e], _ => rfl)
    | (match ds, hds with | [a, b, c, d, e, f], _ => rfl)
theorem over : Rows.fnExactWidthOfRow.holds Try.pinned (OpenSpec.ofChange Rows.fnExactWidthOfSpec) :=
  OpenClaim.holds_of_wide 7 Try.f7 rfl rfl rfl rfl rfl rfl rfl ⟨rfl, rfl, rfl, rfl, rfl⟩ rfl rfl rfl rfl rfl (by kernel_rfl) Try.func7 (facts (by kernel_rfl))
    (of_decide_eq_true (by kernel_rfl)) (by unfold Func.isWrapper; first | (rw [if_pos (by decide +kernel)]; kernel_rfl) | (rw [if_neg (by decide +kernel)]; exact ⟨rfl, rfl⟩))
    (fun os started H enc _ => lifted os started H enc)
theorem proved : Rows.FnExactWidthOfSaid := over
#print axioms proved
end Go.Proofs.Ythhjmaianlmfpaa.lawWidthOf
