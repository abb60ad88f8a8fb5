/- The law of WithoutMembers. -/
import Derived.Test.YtpkphjoobeacfaaK28
namespace Go.Proofs.Ytpkphjoobeacfaa.Vm
open Go Go.Proofs
set_option linter.unusedSimpArgs false
set_option linter.unusedVariables false

theorem dStr_fz (s : Str) : (D.a (dStr s)).fz = .agg s.c := by simp [D.fz, dStr, D.fzL, Str.c]
theorem dStr_dep (s : Str) : (D.a (dStr s)).dep 2 := by
  rw [D.dep]; refine ⟨by omega, ?_⟩; simp [dStr, D.depL, fl_dep]
theorem dStr_sc (s : Str) : (D.a (dStr s)).sc = true := by
  simp [D.sc, dStr, D.scL, fl_sc (jv_ow _), fl_sc (mv_ow _)]
theorem impl_WithoutMembers_ro (s : Str) (l : List Int) (hj : s.js.length ≤ 1048576) (hm : s.ms.length ≤ 1048576) (hl : l.length ≤ 1048576) : RO Try.prog 60 [.agg s.c, .sl (iv l)] (.agg (without s l).c) := by
  have := ro_of_nw 2 (impl_WithoutMembers_nw s l hj hm hl) (dStr_dep _)
  rwa [dStr_fz] at this
theorem spec_WithoutMembers_ro (s : Str) (l : List Int) (hj : s.js.length ≤ 1048576) (hm : s.ms.length ≤ 1048576) (hl : l.length ≤ 1048576) : RO Try.prog 59 [.agg s.c, .sl (iv l)] (.agg (without s l).c) := by
  have := ro_of_nw 2 (spec_WithoutMembers_nw s l hj hm hl) (dStr_dep _)
  rwa [dStr_fz] at this
theorem own_agg {bl : Int → Option Blk} {s : Str} {v : V} {gs : List Int} (h : OwnD bl (.a (dStr s)) v gs) : ∃ v1 v2, v = .agg [v1, v2] ∧ OwnL bl (dStr s) [v1, v2] gs ∧ v1.one = true ∧ v1.cells = [v1] ∧ v2.one = true ∧ v2.cells = [v2] := by
  rw [OwnD] at h
  obtain ⟨vs, rfl, o⟩ := h
  obtain ⟨v1, v2, ga, gb, rfl, rfl, hd, o1, o2⟩ := own_pair.1 o
  exact ⟨v1, v2, rfl, o, o1.one.1, o1.one.2, o2.one.1, o2.one.2⟩
theorem OwnL.not {bl : Int → Option Blk} {d : List D} {v : List V} {gs : List Int} (h : OwnL bl d v gs) {g : Int} (hg : bl g = none) : g ∉ gs := fun hh => by
  obtain ⟨b, hb⟩ := h.has g hh
  rw [hg] at hb; cases hb
theorem OwnD.not {bl : Int → Option Blk} {d : D} {v : V} {gs : List Int} (h : OwnD bl d v gs) {g : Int} (hg : bl g = none) : g ∉ gs := fun hh => by
  obtain ⟨b, hb⟩ := h.has g hh
  rw [hg] at hb; cases hb
theorem sub_new {bl bl' : Int → Option Blk} {g : Int} {b : Option Blk} (hs : Sub bl bl') (hg : bl' g = none) : Sub bl (upd bl' g b) := hs.upd (fresh_of hs hg) b

theorem law_WithoutMembers_ro (s : Str) (l : List Int) (hs : s.sz) (hl : l.length ≤ 140737488351232) : RO Try.prog 16 [.agg s.c, .sl (iv l)] (.bool true) := by
  refine ro_of2 Try.func16 rfl rfl (by rw [Try.ntmps16]; simp) fun bl => ?_
  rw [Try.ntmps16, Try.results16]
  refine AW_run ?_
  simp [Str.c]
  intro g hg0 hg
  refine ⟨fun h => ?_, fun hl1 => ?_⟩
  · exact retRO [_] 0 rfl rfl (by simp [hg])
  have hl2 : l.length ≤ 1048576 := by omega
  have hv := toIntS_ro l hl2
  refine callP_ro (szStructure_ro s _ (by omega) hs.js hs.ms hs.nm) ?_
  try simp
  refine ⟨fun h => ?_, fun h => ?_⟩
  · exact retRO [_] 0 rfl rfl (by simp [hg])
  obtain ⟨l1, l2, _⟩ := szStr_le (s := s) (left := 1048576) (by omega) h
  have hc := toStructure_ro s (by omega) (by omega)
  have hk := keptTo_le s.ms l s.ms.length
  refine callP_ro hc ?_
  try simp
  refine callP_ro hv ?_
  try simp
  refine callP_ro (spec_WithoutMembers_ro s l (by omega) (by omega) hl2) ?_
  simp [Str.c]
  intro gw hgw hwg hbw
  simp [hwg, Ne.symm hwg]
  refine callP_new (toStructure_nw s (by omega) (by omega)) fun v gA b1 oA fA frA => ?_
  obtain ⟨v1, v2, rfl, oA, c1, c2, d1, d2⟩ := own_agg oA
  have eg1 : b1 g = some ⟨2, [[.sl (jv s.js), .sl (mv s.ms)]]⟩ := new_keep fA frA (by simp [Ne.symm hwg])
  have ew1 : b1 gw = some ⟨2, [[.sl (jv (without s l).js), .sl (mv (without s l).ms)]]⟩ := new_keep fA frA (by simp)
  have hA : ∀ x, x ∈ gA → bl x = none := fun x hx => by have := fA x hx; simp [upd_apply] at this; exact this.2.2
  have s1 : Sub bl b1 := fun x b hx => by
    have z1 : x ≠ g := fun e => by rw [e, hg] at hx; cases hx
    have z2 : x ≠ gw := fun e => by rw [e, hbw] at hx; cases hx
    exact new_keep fA frA (by simp [upd_apply, z1, z2, hx])
  simp [c1, d1, c2, d2]
  intro g7 hg7 hb7
  have z71 : g7 ≠ g := fun e => by rw [e, eg1] at hb7; cases hb7
  have z72 : g7 ≠ gw := fun e => by rw [e, ew1] at hb7; cases hb7
  have nA7 : g7 ∉ gA := oA.not hb7
  have oA := oA.frame (bl' := upd b1 g7 (some ⟨2, [[v1, v2]]⟩)) fun x hx => by simp [upd_apply, show x ≠ g7 from fun e => nA7 (e ▸ hx)]
  have s2 : Sub bl (upd b1 g7 (some ⟨2, [[v1, v2]]⟩)) := sub_new s1 hb7
  try simp [z71, z72, Ne.symm z71, Ne.symm z72, eg1, ew1]
  refine callP_new (toIntS_nw l hl2) fun vl gL b2 oL fL frL => ?_
  obtain ⟨m1, m2⟩ := oL.one
  have eg2 : b2 g = some ⟨2, [[.sl (jv s.js), .sl (mv s.ms)]]⟩ := new_keep fL frL (by simp [Ne.symm z71, eg1])
  have ew2 : b2 gw = some ⟨2, [[.sl (jv (without s l).js), .sl (mv (without s l).ms)]]⟩ := new_keep fL frL (by simp [Ne.symm z72, ew1])
  have e72 : b2 g7 = some ⟨2, [[v1, v2]]⟩ := new_keep fL frL (by simp)
  have nAL : ∀ x, x ∈ gL → x ∉ gA := fun x hx => oA.not (fL x hx)
  have hL : ∀ x, x ∈ gL → bl x = none := fun x hx => fresh_of s2 (fL x hx)
  have oA := oA.keep (bl' := b2) fun x _ b hb => new_keep fL frL hb
  have s3 : Sub bl b2 := fun x b hx => new_keep fL frL (s2 x b hx)
  simp [e72]
  refine callP_lend 3 (ys := [.agg s.c, .sl (iv l)]) (by simp [frz_str oA 1, frz_iv oL 2]) (impl_WithoutMembers_nw s l (by omega) (by omega) hl2) (dStr_sc _) fun vr gR b3 oR fR frR => ?_
  obtain ⟨r1, r2, rfl, oR, p1, p2, q1, q2⟩ := own_agg oR
  have eg3 : b3 g = some ⟨2, [[.sl (jv s.js), .sl (mv s.ms)]]⟩ := new_keep fR frR eg2
  have ew3 : b3 gw = some ⟨2, [[.sl (jv (without s l).js), .sl (mv (without s l).ms)]]⟩ := new_keep fR frR ew2
  have e73 : b3 g7 = some ⟨2, [[v1, v2]]⟩ := new_keep fR frR e72
  have nAR : ∀ x, x ∈ gR → x ∉ gA := fun x hx => oA.not (fR x hx)
  have nLR : ∀ x, x ∈ gR → x ∉ gL := fun x hx => oL.not (fR x hx)
  have hR : ∀ x, x ∈ gR → bl x = none := fun x hx => fresh_of s3 (fR x hx)
  have oA := oA.keep (bl' := b3) fun x _ b hb => new_keep fR frR hb
  have oL := oL.keep (bl' := b3) fun x _ b hb => new_keep fR frR hb
  have s4 : Sub bl b3 := fun x b hx => new_keep fR frR (s3 x b hx)
  simp [p1, q1, p2, q2]
  intro g9 hg9 hb9
  have z1 : g9 ≠ g := fun e => by rw [e, eg3] at hb9; cases hb9
  have z2 : g9 ≠ gw := fun e => by rw [e, ew3] at hb9; cases hb9
  have z3 : g9 ≠ g7 := fun e => by rw [e, e73] at hb9; cases hb9
  have nA9 := oA.not hb9
  have nL9 := oL.not hb9
  have nR9 := oR.not hb9
  obtain ⟨b4, hb4⟩ : ∃ b4, b4 = upd b3 g9 (some ⟨2, [[r1, r2]]⟩) := ⟨_, rfl⟩
  have keep4 : ∀ x b, b3 x = some b → b4 x = some b := fun x b hx => by rw [hb4, upd_apply, if_neg (fun e => by rw [e, hb9] at hx; cases hx)]; exact hx
  have eg4 := keep4 _ _ eg3
  have ew4 := keep4 _ _ ew3
  have e74 := keep4 _ _ e73
  have e94 : b4 g9 = some ⟨2, [[r1, r2]]⟩ := by rw [hb4]; simp
  have oA := oA.keep (bl' := b4) fun x _ b hb => keep4 x b hb
  have oL := oL.keep (bl' := b4) fun x _ b hb => keep4 x b hb
  have oR := oR.keep (bl' := b4) fun x _ b hb => keep4 x b hb
  have s5 : Sub bl b4 := fun x b hx => keep4 x b (s4 x b hx)
  simp [z1, z2, z3, Ne.symm z1, Ne.symm z2, Ne.symm z3, ew3]
  rw [← hb4]
  refine callP_borrow 3 (ys := [.agg (without s l).c, .agg (without s l).c]) (by simp [frz_str oR 1]; simp [frz, Str.c, V.cl]) (eqStructure_ro _ _ (by simp [without]; omega) (by simp [without]; omega)) rfl ?_
  simp
  refine AW_quiet mixedO (by kernel_rfl) ?_
  simp [e74, eg4]
  refine hcQ_ro hc ?_
  simp
  refine hcQ_of 3 (eqStructure_ro s s hs.js hs.ms) (by simp [frz_str oA 1]; simp [frz, Str.c, V.cl]) rfl ?_
  simp
  refine callP_ro hv ?_
  simp
  refine callP_borrow 3 (ys := [.sl (iv l), .sl (iv l)]) (by simp [frz_iv oL 2, frz]) (eqIntS_ro _ _ (by omega)) rfl ?_
  simp [e74]
  refine markStructure_cp s 1 _ gA oA (by unfold mkN; omega) fun b5 oA k5 => ?_
  have eg5 := k5 g (fun h => by have := fA g h; simp [Ne.symm hwg] at this) _ eg4
  have ew5 := k5 gw (fun h => by have := fA gw h; simp at this) _ ew4
  have e95 := k5 g9 nA9 _ e94
  have oL := oL.keep (bl' := b5) fun x hx b hb => k5 x (nAL x hx) b hb
  have oR := oR.keep (bl' := b5) fun x hx b hb => k5 x (nAR x hx) b hb
  have s6 : Sub bl b5 := fun x b hx => k5 x (fun h => by rw [hA x h] at hx; cases hx) b (s5 x b hx)
  simp
  refine markIntS_cp l (mkN 1 s : Nat) vl gL oL (by unfold mkN; omega) fun b6 oL k6 => ?_
  have eg6 : b6 g = _ := (k6 g (fun h => by have := fL g h; simp [Ne.symm z71, eg1] at this)).trans eg5
  have ew6 : b6 gw = _ := (k6 gw (fun h => by have := fL gw h; simp [Ne.symm z72, ew1] at this)).trans ew5
  have e96 : b6 g9 = _ := (k6 g9 nL9).trans e95
  have oR := oR.frame (bl' := b6) fun x hx => k6 x (nLR x hx)
  have s7 : Sub bl b6 := fun x b hx => by rw [k6 x (fun h => by rw [hL x h] at hx; cases hx)]; exact s6 x b hx
  simp
  refine AW_way0 [(2, .loc g 2 0 0), (1, .sl (iv l)), (9, .loc g9 2 0 0), (6, .loc gw 2 0 0), (10, .int .i64 ((mkN 1 s : Nat) + l.length))] _ _ 61 (.bool false) ⟨rfl, by simp, Sub.refl _⟩ rfl ?_ ?_
  · have : ¬ ((mkN 1 s : Nat) + l.length : Int) < 0 := by omega
    simp [this, e96, ew6]
    refine callP_borrow 3 (ys := [.agg (without s l).c, .agg (without s l).c]) (by simp [frz_str oR 1]; simp [frz, Str.c, V.cl]) (eqStructure_ro _ _ (by simp [without]; omega) (by simp [without]; omega)) rfl ?_
    simp
  simp [e96]
  refine markStructure_cp (without s l) 1 _ gR oR (by simp [mkN, without]; omega) fun b7 oR k7 => ?_
  have eg7 := k7 g (fun h => by have := fR g h; rw [eg2] at this; cases this) _ eg6
  have ew7 := k7 gw (fun h => by have := fR gw h; rw [ew2] at this; cases this) _ ew6
  have e97 := k7 g9 nR9 _ e96
  have s8 : Sub bl b7 := fun x b hx => k7 x (fun h => by rw [hR x h] at hx; cases hx) b (s7 x b hx)
  simp [e97]
  have hh := heldStructure_ro (without s l) 1 (by simp [mkN, without]; omega)
  refine callP_borrow 3 (ys := [.agg (mkS 1 (without s l)).c, .int .i64 1]) (by simp [frz_str oR 1]; simp [frz]) hh rfl ?_
  have hneg : ¬ (mkN 1 (without s l) : Int) < 0 := by omega
  simp [eg7, hneg]
  refine callP_ro hc ?_
  simp
  refine callP_ro hv ?_
  simp
  refine callP_ro (impl_WithoutMembers_ro s l (by omega) (by omega) hl2) ?_
  simp [Str.c]
  intro g13 hg13 hb13
  have z4 : g13 ≠ gw := fun e => by rw [e, ew7] at hb13; cases hb13
  have z5 : g13 ≠ g9 := fun e => by rw [e, e97] at hb13; cases hb13
  have nR13 := oR.not hb13
  simp [z4, z5, Ne.symm z4, Ne.symm z5, ew7]
  refine callP_ro (eqStructure_ro _ _ (by simp [without]; omega) (by simp [without]; omega)) ?_
  simp [z4, z5, Ne.symm z4, Ne.symm z5, e97]
  have oR := oR.frame (bl' := upd b7 g13 (some ⟨2, [[.sl (jv (without s l).js), .sl (mv (without s l).ms)]]⟩)) fun x hx => by simp [upd_apply, show x ≠ g13 from fun e => nR13 (e ▸ hx)]
  refine callP_borrow 3 (ys := [.agg (mkS 1 (without s l)).c, .int .i64 1]) (by simp [frz_str oR 1]; simp [frz]) hh rfl ?_
  simp [hneg]
  exact retRO [_] 0 rfl rfl (sub_new s8 hb13)

end Go.Proofs.Ytpkphjoobeacfaa.Vm
