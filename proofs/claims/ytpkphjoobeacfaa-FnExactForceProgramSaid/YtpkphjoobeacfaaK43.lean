/- The law of ForceProgram. -/
import Derived.Test.YtpkphjoobeacfaaK42
namespace Go.Proofs.Ytpkphjoobeacfaa.Vm
open Go Go.Proofs
set_option linter.unusedSimpArgs false
set_option linter.unusedVariables false

theorem dPg_dep (p : Pg) : (dPg p).dep 2 := by simp [dPg, D.dep, D.depL, fl_dep]
theorem dPg_fz (p : Pg) : (dPg p).fz = .agg p.v := by simp [dPg, D.fz, D.fzL, Pg.v]
theorem impl_ForceProgram_ro (s : Str) (l : List Int) (hs : s.sz) (hl : l.length ≤ 1048576) : RO Try.prog 75 [.agg s.c, .sl (iv l)] (.agg (fpOf s l).v) := by
  have := ro_of_nw 2 (impl_ForceProgram_nw s l hs hl) (dPg_dep _)
  rwa [dPg_fz] at this
theorem fpOf_len (s : Str) (l : List Int) : (fpOf s l).a.length ≤ 1048576 ∧ (fpOf s l).b.length ≤ 1048576 ∧ (fpOf s l).c.length ≤ 1048576 := by
  unfold fpOf
  split
  · rename_i h
    have hs := (lOk_of h).sok
    have h6 := hs.nj
    have h8 := hs.nm
    have hfr := freesTo_le s.js s.js.length
    change (frees s.js).length ≤ s.js.length at hfr
    have hcn : nC s ≤ 2 * s.ms.length := colsTo_le s.ms s.ms.length
    have hrn : nR s ≤ 12 := by unfold nR; omega
    have : nR s * nC s ≤ 12 * 16 := Nat.mul_le_mul (by omega) (by omega)
    simp [fprog, right_length]; omega
  · simp [noPg]

theorem law_ForceProgram_ro (s : Str) (l : List Int) (hs : s.sz) (hl : l.length ≤ 140737488351232) : RO Try.prog 21 [.agg s.c, .sl (iv l)] (.bool true) := by
  refine ro_of2 Try.func21 rfl rfl (by rw [Try.ntmps21]; simp) fun bl => ?_
  rw [Try.ntmps21, Try.results21]
  refine AW_run ?_
  simp [Str.c]
  intro g hg0 hg
  refine ⟨fun h => ?_, fun hl1 => ?_⟩
  · exact retRO [_] 0 rfl rfl (by simp [hg])
  have hl2 : l.length ≤ 1048576 := by omega
  have hv := toIntS_ro l hl2
  refine callP_ro (szStructure_ro s _ (by omega) hs.js hs.ms hs.nm) ?_
  try simp
  refine ⟨fun h => ?_, fun h => ?_⟩
  · exact retRO [_] 0 rfl rfl (by simp [hg])
  obtain ⟨l1, l2, _⟩ := szStr_le (s := s) (left := 1048576) (by omega) h
  have hc := toStructure_ro s (by omega) (by omega)
  obtain ⟨wa, wb, wc⟩ := fpOf_len s l
  obtain ⟨w, hw⟩ : ∃ w, fpOf s l = w := ⟨_, rfl⟩
  refine callP_ro hc ?_
  try simp
  refine callP_ro hv ?_
  try simp
  refine callP_ro (spec_ForceProgram_ro s l hs hl2) ?_
  rw [hw] at wa wb wc ⊢
  simp [Str.c, Pg.v]
  intro gw hgw hwg hbw
  simp [hwg, Ne.symm hwg]
  refine callP_new (toStructure_nw s (by omega) (by omega)) fun v gA b1 oA fA frA => ?_
  obtain ⟨v1, v2, rfl, oA, c1, c2, d1, d2⟩ := own_agg oA
  have eg1 : b1 g = some ⟨2, [[.sl (jv s.js), .sl (mv s.ms)]]⟩ := new_keep fA frA (by simp [Ne.symm hwg])
  have ew1 : b1 gw = some ⟨5, [[.int .i64 w.rows, .int .i64 w.cols, .sl (iv w.a), .sl (iv w.b), .sl (iv w.c)]]⟩ := new_keep fA frA (by simp)
  have hA : ∀ x, x ∈ gA → bl x = none := fun x hx => by have := fA x hx; simp [upd_apply] at this; exact this.2.2
  have s1 : Sub bl b1 := fun x b hx => by
    have z1 : x ≠ g := fun e => by rw [e, hg] at hx; cases hx
    have z2 : x ≠ gw := fun e => by rw [e, hbw] at hx; cases hx
    exact new_keep fA frA (by simp [upd_apply, z1, z2, hx])
  simp [c1, d1, c2, d2]
  intro g7 hg7 hb7
  have z71 : g7 ≠ g := fun e => by rw [e, eg1] at hb7; cases hb7
  have z72 : g7 ≠ gw := fun e => by rw [e, ew1] at hb7; cases hb7
  have nA7 : g7 ∉ gA := oA.not hb7
  have oA := oA.frame (bl' := upd b1 g7 (some ⟨2, [[v1, v2]]⟩)) fun x hx => by simp [upd_apply, show x ≠ g7 from fun e => nA7 (e ▸ hx)]
  have s2 : Sub bl (upd b1 g7 (some ⟨2, [[v1, v2]]⟩)) := sub_new s1 hb7
  try simp [z71, z72, Ne.symm z71, Ne.symm z72, eg1, ew1]
  refine callP_new (toIntS_nw l hl2) fun vl gL b2 oL fL frL => ?_
  obtain ⟨m1, m2⟩ := oL.one
  have eg2 : b2 g = some ⟨2, [[.sl (jv s.js), .sl (mv s.ms)]]⟩ := new_keep fL frL (by simp [Ne.symm z71, eg1])
  have ew2 : b2 gw = some ⟨5, [[.int .i64 w.rows, .int .i64 w.cols, .sl (iv w.a), .sl (iv w.b), .sl (iv w.c)]]⟩ := new_keep fL frL (by simp [Ne.symm z72, ew1])
  have e72 : b2 g7 = some ⟨2, [[v1, v2]]⟩ := new_keep fL frL (by simp)
  have nAL : ∀ x, x ∈ gL → x ∉ gA := fun x hx => oA.not (fL x hx)
  have hL : ∀ x, x ∈ gL → bl x = none := fun x hx => fresh_of s2 (fL x hx)
  have oA := oA.keep (bl' := b2) fun x _ b hb => new_keep fL frL hb
  have s3 : Sub bl b2 := fun x b hx => new_keep fL frL (s2 x b hx)
  simp [e72]
  refine callP_lend 3 (ys := [.agg s.c, .sl (iv l)]) (by simp [frz_str oA 1, frz_iv oL 2]) (impl_ForceProgram_nw s l hs hl2) (sc_pg _) fun vr gR b3 oR fR frR => ?_
  rw [hw] at oR
  obtain ⟨r1, r2, r3, ra, rb, rc, rfl, egR, d1', d2', o1, o2, o3⟩ := own_pg.1 oR
  obtain ⟨p1, p2⟩ := o1.one
  obtain ⟨q1, q2⟩ := o2.one
  obtain ⟨t1, t2⟩ := o3.one
  have eg3 : b3 g = some ⟨2, [[.sl (jv s.js), .sl (mv s.ms)]]⟩ := new_keep fR frR eg2
  have ew3 : b3 gw = some ⟨5, [[.int .i64 w.rows, .int .i64 w.cols, .sl (iv w.a), .sl (iv w.b), .sl (iv w.c)]]⟩ := new_keep fR frR ew2
  have e73 : b3 g7 = some ⟨2, [[v1, v2]]⟩ := new_keep fR frR e72
  have nAR : ∀ x, x ∈ gR → x ∉ gA := fun x hx => oA.not (fR x hx)
  have nLR : ∀ x, x ∈ gR → x ∉ gL := fun x hx => oL.not (fR x hx)
  have hR : ∀ x, x ∈ gR → bl x = none := fun x hx => fresh_of s3 (fR x hx)
  have oA := oA.keep (bl' := b3) fun x _ b hb => new_keep fR frR hb
  have oL := oL.keep (bl' := b3) fun x _ b hb => new_keep fR frR hb
  have s4 : Sub bl b3 := fun x b hx => new_keep fR frR (s3 x b hx)
  simp [p1, q1, p2, q2, t1, t2]
  intro g9 hg9 hb9
  have z1 : g9 ≠ g := fun e => by rw [e, eg3] at hb9; cases hb9
  have z2 : g9 ≠ gw := fun e => by rw [e, ew3] at hb9; cases hb9
  have z3 : g9 ≠ g7 := fun e => by rw [e, e73] at hb9; cases hb9
  have nA9 := oA.not hb9
  have nL9 := oL.not hb9
  have nR9 := oR.not hb9
  obtain ⟨b4, hb4⟩ : ∃ b4, b4 = upd b3 g9 (some ⟨5, [[.int .i64 w.rows, .int .i64 w.cols, r1, r2, r3]]⟩) := ⟨_, rfl⟩
  have keep4 : ∀ x b, b3 x = some b → b4 x = some b := fun x b hx => by rw [hb4, upd_apply, if_neg (fun e => by rw [e, hb9] at hx; cases hx)]; exact hx
  have eg4 := keep4 _ _ eg3
  have ew4 := keep4 _ _ ew3
  have e74 := keep4 _ _ e73
  have e94 : b4 g9 = some ⟨5, [[.int .i64 w.rows, .int .i64 w.cols, r1, r2, r3]]⟩ := by rw [hb4]; simp
  have oA := oA.keep (bl' := b4) fun x _ b hb => keep4 x b hb
  have oL := oL.keep (bl' := b4) fun x _ b hb => keep4 x b hb
  have oR := oR.keep (bl' := b4) fun x _ b hb => keep4 x b hb
  have s5 : Sub bl b4 := fun x b hx => keep4 x b (s4 x b hx)
  simp [z1, z2, z3, Ne.symm z1, Ne.symm z2, Ne.symm z3, ew3]
  rw [← hb4]
  refine callP_borrow 3 (ys := [.agg w.v, .agg w.v]) (by simp [frz_pg oR 1]; simp [frz, Pg.v, V.cl]) (eqProgram_ro w w wa wb wc) rfl ?_
  simp
  refine AW_quiet mixedO (by kernel_rfl) ?_
  simp [e74, eg4]
  refine hcQ_ro hc ?_
  simp
  refine hcQ_of 3 (eqStructure_ro s s hs.js hs.ms) (by simp [frz_str oA 1]; simp [frz, Str.c, V.cl]) rfl ?_
  simp
  refine callP_ro hv ?_
  simp
  refine callP_borrow 3 (ys := [.sl (iv l), .sl (iv l)]) (by simp [frz_iv oL 2, frz]) (eqIntS_ro _ _ (by omega)) rfl ?_
  simp [e74]
  refine markStructure_cp s 1 _ gA oA (by unfold mkN; omega) fun b5 oA k5 => ?_
  have eg5 := k5 g (fun h => by have := fA g h; simp [Ne.symm hwg] at this) _ eg4
  have ew5 := k5 gw (fun h => by have := fA gw h; simp at this) _ ew4
  have e95 := k5 g9 nA9 _ e94
  have oL := oL.keep (bl' := b5) fun x hx b hb => k5 x (nAL x hx) b hb
  have oR := oR.keep (bl' := b5) fun x hx b hb => k5 x (nAR x hx) b hb
  have s6 : Sub bl b5 := fun x b hx => k5 x (fun h => by rw [hA x h] at hx; cases hx) b (s5 x b hx)
  simp
  refine markIntS_cp l (mkN 1 s : Nat) vl gL oL (by unfold mkN; omega) fun b6 oL k6 => ?_
  have eg6 : b6 g = _ := (k6 g (fun h => by have := fL g h; simp [Ne.symm z71, eg1] at this)).trans eg5
  have ew6 : b6 gw = _ := (k6 gw (fun h => by have := fL gw h; simp [Ne.symm z72, ew1] at this)).trans ew5
  have e96 : b6 g9 = _ := (k6 g9 nL9).trans e95
  have oR := oR.frame (bl' := b6) fun x hx => k6 x (nLR x hx)
  have s7 : Sub bl b6 := fun x b hx => by rw [k6 x (fun h => by rw [hL x h] at hx; cases hx)]; exact s6 x b hx
  simp
  refine AW_way0 [(2, .loc g 2 0 0), (1, .sl (iv l)), (9, .loc g9 5 0 0), (6, .loc gw 5 0 0), (10, .int .i64 ((mkN 1 s : Nat) + l.length))] _ _ 61 (.bool false) ⟨rfl, by simp, Sub.refl _⟩ rfl ?_ ?_
  · have : ¬ ((mkN 1 s : Nat) + l.length : Int) < 0 := by omega
    simp [this, e96, ew6]
    refine callP_borrow 3 (ys := [.agg w.v, .agg w.v]) (by simp [frz_pg oR 1]; simp [frz, Pg.v, V.cl]) (eqProgram_ro w w wa wb wc) rfl ?_
    simp
  simp [e96]
  refine markProgram_cp w 1 _ gR oR (by simp [mkPN]; omega) fun b7 oR k7 => ?_
  have eg7 := k7 g (fun h => by have := fR g h; rw [eg2] at this; cases this) _ eg6
  have ew7 := k7 gw (fun h => by have := fR gw h; rw [ew2] at this; cases this) _ ew6
  have e97 := k7 g9 nR9 _ e96
  have s8 : Sub bl b7 := fun x b hx => k7 x (fun h => by rw [hR x h] at hx; cases hx) b (s7 x b hx)
  simp [e97]
  have hh := heldProgram_ro w 1 (by simp [mkPN]; omega)
  refine callP_borrow 3 (ys := [.agg (mkP 1 w).v, .int .i64 1]) (by simp [frz_pg oR 1]; simp [frz]) hh rfl ?_
  have hneg : ¬ (mkPN 1 w : Int) < 0 := by omega
  simp [eg7, hneg]
  refine callP_ro hc ?_
  simp
  refine callP_ro hv ?_
  simp
  refine callP_ro (impl_ForceProgram_ro s l hs hl2) ?_
  rw [hw]
  simp [Str.c, Pg.v]
  intro g13 hg13 hb13
  have z4 : g13 ≠ gw := fun e => by rw [e, ew7] at hb13; cases hb13
  have z5 : g13 ≠ g9 := fun e => by rw [e, e97] at hb13; cases hb13
  have nR13 := oR.not hb13
  simp [z4, z5, Ne.symm z4, Ne.symm z5, ew7]
  refine callP_ro (eqProgram_ro w w wa wb wc) ?_
  simp [z4, z5, Ne.symm z4, Ne.symm z5, e97]
  have oR := oR.frame (bl' := upd b7 g13 (some ⟨5, [[.int .i64 w.rows, .int .i64 w.cols, .sl (iv w.a), .sl (iv w.b), .sl (iv w.c)]]⟩)) fun x hx => by simp [upd_apply, show x ≠ g13 from fun e => nR13 (e ▸ hx)]
  refine callP_borrow 3 (ys := [.agg (mkP 1 w).v, .int .i64 1]) (by simp [frz_pg oR 1]; simp [frz]) hh rfl ?_
  simp [hneg]
  exact retRO [_] 0 rfl rfl (sub_new s8 hb13)

end Go.Proofs.Ytpkphjoobeacfaa.Vm
