/- The law of MixLoads. -/
import Derived.Test.YtpkphjoobeacfaaK35
namespace Go.Proofs.Ytpkphjoobeacfaa.Vm
open Go Go.Proofs
set_option linter.unusedSimpArgs false
set_option linter.unusedVariables false

theorem law_MixLoads_ro (s : Str) (ws : List (List Int)) (l : List Int) (hs : s.sz) (hW : FitW ws) (hl : l.length ≤ 140737488351232) :
    RO Try.prog 20 [.agg s.c, .sl (ivv ws), .sl (iv l)] (.bool true) := by
  refine ro_of2 Try.func20 rfl rfl (by rw [Try.ntmps20]; simp) fun bl => ?_
  rw [Try.ntmps20, Try.results20]
  refine AW_run ?_
  simp [Str.c]
  intro g hg0 hg
  refine ⟨fun h => ?_, fun hl1 => ?_⟩
  · exact retRO [_] 0 rfl rfl (by simp [hg])
  have hl2 : l.length ≤ 1048576 := by omega
  have hv := toIntS_ro l hl2
  refine callP_ro (szStructure_ro s _ (by omega) hs.js hs.ms hs.nm) ?_
  try simp
  refine ⟨fun h => ?_, fun h => ?_⟩
  · exact retRO [_] 0 rfl rfl (by simp [hg])
  obtain ⟨l1, l2, l3⟩ := szStr_le (s := s) (left := 1048576) (by omega) h
  refine callP_ro (szIntSS_ro ws _ (by omega) hW.n hW.w) ?_
  try simp
  refine ⟨fun h' => ?_, fun h' => ?_⟩
  · exact retRO [_] 0 rfl rfl (by simp [hg])
  obtain ⟨w1, w2, w3⟩ := szII_le (ws := ws) (left := szStr s 1048576) (by omega) h'
  obtain ⟨N, hN⟩ : ∃ N, ws.flatten.length = N := ⟨_, rfl⟩
  rw [hN] at w3
  have hw1 : ws.length ≤ 1048576 := by omega
  have hw2 : ∀ w, w ∈ ws → w.length ≤ 1048576 := fun w hw => by have := w2 w hw; omega
  have hvv := toIntSS_ro ws hw1 hw2
  have hc := toStructure_ro s (by omega) (by omega)
  have hle := mixR_le s ws l
  refine callP_ro hc ?_
  try simp
  refine callP_ro hvv ?_
  try simp
  refine callP_ro hv ?_
  try simp
  refine callP_ro (spec_MixLoads_ro s ws l hs hw1 hw2 hl2) ?_
  simp
  refine callP_new (toStructure_nw s (by omega) (by omega)) fun v gA b1 oA fA frA => ?_
  obtain ⟨v1, v2, rfl, oA, c1, c2, d1, d2⟩ := own_agg oA
  have eg1 : b1 g = some ⟨2, [[.sl (jv s.js), .sl (mv s.ms)]]⟩ := new_keep fA frA (by simp)
  have hA : ∀ x, x ∈ gA → bl x = none := fun x hx => by have := fA x hx; simp [upd_apply] at this; exact this.2
  have s1 : Sub bl b1 := fun x b hx => by
    have z1 : x ≠ g := fun e => by rw [e, hg] at hx; cases hx
    exact new_keep fA frA (by simp [upd_apply, z1, hx])
  simp [c1, d1, c2, d2]
  intro g7 hg7 hb7
  have z71 : g7 ≠ g := fun e => by rw [e, eg1] at hb7; cases hb7
  have nA7 : g7 ∉ gA := oA.not hb7
  have oA := oA.frame (bl' := upd b1 g7 (some ⟨2, [[v1, v2]]⟩)) fun x hx => by simp [upd_apply, show x ≠ g7 from fun e => nA7 (e ▸ hx)]
  have s2 : Sub bl (upd b1 g7 (some ⟨2, [[v1, v2]]⟩)) := sub_new s1 hb7
  try simp [z71, Ne.symm z71, eg1]
  refine callP_new (toIntSS_nw ws hw1 hw2) fun vw gW b12 oW fW frW => ?_
  have eg12 : b12 g = some ⟨2, [[.sl (jv s.js), .sl (mv s.ms)]]⟩ := new_keep fW frW (by simp [Ne.symm z71, eg1])
  have e712 : b12 g7 = some ⟨2, [[v1, v2]]⟩ := new_keep fW frW (by simp)
  have nAW : ∀ x, x ∈ gW → x ∉ gA := fun x hx => oA.not (fW x hx)
  have hWn : ∀ x, x ∈ gW → bl x = none := fun x hx => fresh_of s2 (fW x hx)
  have oA := oA.keep (bl' := b12) fun x _ b hb => new_keep fW frW hb
  have s23 : Sub bl b12 := fun x b hx => new_keep fW frW (s2 x b hx)
  simp
  refine callP_new (toIntS_nw l hl2) fun vl gL b2 oL fL frL => ?_
  have eg2 : b2 g = some ⟨2, [[.sl (jv s.js), .sl (mv s.ms)]]⟩ := new_keep fL frL eg12
  have e72 : b2 g7 = some ⟨2, [[v1, v2]]⟩ := new_keep fL frL e712
  have nAL : ∀ x, x ∈ gL → x ∉ gA := fun x hx => oA.not (fL x hx)
  have nWL : ∀ x, x ∈ gL → x ∉ gW := fun x hx => oW.not (fL x hx)
  have hL : ∀ x, x ∈ gL → bl x = none := fun x hx => fresh_of s23 (fL x hx)
  have oA := oA.keep (bl' := b2) fun x _ b hb => new_keep fL frL hb
  have oW := oW.keep (bl' := b2) fun x _ b hb => new_keep fL frL hb
  have s3 : Sub bl b2 := fun x b hx => new_keep fL frL (s23 x b hx)
  simp [e72]
  refine callP_lend 3 (ys := [.agg s.c, .sl (ivv ws), .sl (iv l)]) (by simp [frz_str oA 1, frz_iv oL 2, frz_ivv oW 1]) (impl_MixLoads_nw s ws l hs hw1 hw2 hl2) (dOpt_sc _ _) fun vr0 gR b3 oR0 fR frR => ?_
  obtain ⟨vr, rfl, oR⟩ := own_opt.1 oR0
  have eg3 : b3 g = some ⟨2, [[.sl (jv s.js), .sl (mv s.ms)]]⟩ := new_keep fR frR eg2
  have e73 : b3 g7 = some ⟨2, [[v1, v2]]⟩ := new_keep fR frR e72
  have nAR : ∀ x, x ∈ gR → x ∉ gA := fun x hx => oA.not (fR x hx)
  have nWR : ∀ x, x ∈ gR → x ∉ gW := fun x hx => oW.not (fR x hx)
  have nLR : ∀ x, x ∈ gR → x ∉ gL := fun x hx => oL.not (fR x hx)
  have hR : ∀ x, x ∈ gR → bl x = none := fun x hx => fresh_of s3 (fR x hx)
  have oA := oA.keep (bl' := b3) fun x _ b hb => new_keep fR frR hb
  have oW := oW.keep (bl' := b3) fun x _ b hb => new_keep fR frR hb
  have oL := oL.keep (bl' := b3) fun x _ b hb => new_keep fR frR hb
  have s4 : Sub bl b3 := fun x b hx => new_keep fR frR (s3 x b hx)
  simp
  refine AW_way0 [(3, .loc g 2 0 0), (1, .sl (ivv ws)), (2, .sl (iv l)), (8, .sl (iv (mixR s ws l))), (9, .bool (mixOk s ws l)), (10, .loc g7 2 0 0), (11, vw), (12, vl), (13, vr), (14, .bool (mixOk s ws l))] _ _ 64 (.bool false) ⟨rfl, by simp, Sub.refl _⟩ rfl ?_ ?_
  · simp
    refine callP_borrow 3 (ys := [.sl (iv (mixR s ws l)), .sl (iv (mixR s ws l))]) (by simp [frz_iv oR 2, frz]) (eqIntS_ro _ _ (by omega)) rfl ?_
    simp
  simp
  refine AW_quiet mixedO (by kernel_rfl) ?_
  simp [e73, eg3]
  refine hcQ_ro hc ?_
  simp
  refine hcQ_of 3 (eqStructure_ro s s hs.js hs.ms) (by simp [frz_str oA 1]; simp [frz, Str.c, V.cl]) rfl ?_
  simp
  refine callP_ro hvv ?_
  simp
  refine callP_borrow 3 (ys := [.sl (ivv ws), .sl (ivv ws)]) (by simp [frz_ivv oW 1, frz]) (eqIntSS_ro _ _ hW.n hW.w) rfl ?_
  simp
  refine callP_ro hv ?_
  simp
  refine callP_borrow 3 (ys := [.sl (iv l), .sl (iv l)]) (by simp [frz_iv oL 2, frz]) (eqIntS_ro _ _ (by omega)) rfl ?_
  simp [e73]
  refine markStructure_cp s 1 _ gA oA (by unfold mkN; omega) fun b5 oA k5 => ?_
  have eg5 := k5 g (fun h => by have := fA g h; simp at this) _ eg3
  have oW := oW.keep (bl' := b5) fun x hx b hb => k5 x (nAW x hx) b hb
  have oL := oL.keep (bl' := b5) fun x hx b hb => k5 x (nAL x hx) b hb
  have oR := oR.keep (bl' := b5) fun x hx b hb => k5 x (nAR x hx) b hb
  have s6 : Sub bl b5 := fun x b hx => k5 x (fun h => by rw [hA x h] at hx; cases hx) b (s4 x b hx)
  simp
  refine markIntSS_cp ws (mkN 1 s) vw gW oW (by unfold mkN; omega) hw1 hw2 fun b56 k56 => ?_
  rw [hN]
  have eg56 := k56 g (fun h => by have := fW g h; simp [Ne.symm z71, eg1] at this) _ eg5
  have oL := oL.keep (bl' := b56) fun x hx b hb => k56 x (nWL x hx) b hb
  have oR := oR.keep (bl' := b56) fun x hx b hb => k56 x (nWR x hx) b hb
  have s67 : Sub bl b56 := fun x b hx => k56 x (fun h => by rw [hWn x h] at hx; cases hx) b (s6 x b hx)
  simp
  refine markIntS_cp l ((mkN 1 s : Nat) + (N : Nat)) vl gL oL (by unfold mkN; omega) fun b6 oL k6 => ?_
  have eg6 : b6 g = _ := (k6 g (fun h => by have := fL g h; rw [eg12] at this; cases this)).trans eg56
  have oR := oR.frame (bl' := b6) fun x hx => k6 x (nLR x hx)
  have s7 : Sub bl b6 := fun x b hx => by rw [k6 x (fun h => by rw [hL x h] at hx; cases hx)]; exact s67 x b hx
  simp
  refine AW_way0 [(3, .loc g 2 0 0), (1, .sl (ivv ws)), (2, .sl (iv l)), (8, .sl (iv (mixR s ws l))), (9, .bool (mixOk s ws l)), (13, vr), (14, .bool (mixOk s ws l)), (15, .int .i64 ((mkN 1 s : Nat) + (N : Nat) + l.length))] _ _ 101 (.bool false) ⟨rfl, by simp, Sub.refl _⟩ rfl ?_ ?_
  · have : ¬ ((mkN 1 s : Nat) + (N : Nat) + l.length : Int) < 0 := by omega
    simp [this]
    refine callP_borrow 3 (ys := [.sl (iv (mixR s ws l)), .sl (iv (mixR s ws l))]) (by simp [frz_iv oR 2, frz]) (eqIntS_ro _ _ (by omega)) rfl ?_
    simp
  simp
  refine markIntS_cp (mixR s ws l) 1 vr gR oR (by omega) fun b7 oR k7 => ?_
  have eg7 : b7 g = _ := (k7 g (fun h => by have := fR g h; rw [eg2] at this; cases this)).trans eg6
  have s8 : Sub bl b7 := fun x b hx => by rw [k7 x (fun h => by rw [hR x h] at hx; cases hx)]; exact s7 x b hx
  simp
  have hh := heldIntS_ro (mixR s ws l).length 1 (by omega)
  refine callP_borrow 3 (ys := [.sl (iv (marks 1 (mixR s ws l).length)), .int .i64 1]) (by simp [frz_iv oR 2]; simp [frz]) hh rfl ?_
  have hneg : ¬ (1 + (mixR s ws l).length : Int) < 0 := by omega
  simp [eg7, hneg]
  refine callP_ro hc ?_
  simp
  refine callP_ro hvv ?_
  simp
  refine callP_ro hv ?_
  simp
  refine callP_ro (impl_MixLoads_ro s ws l hs hw1 hw2 hl2) ?_
  simp
  refine AW_way0 [(8, .sl (iv (mixR s ws l))), (9, .bool (mixOk s ws l)), (13, vr), (16, .int .i64 (1 + (mixR s ws l).length)), (18, .sl (iv (mixR s ws l))), (19, .bool (mixOk s ws l))] _ _ 131 (.bool false) ⟨rfl, by simp, Sub.refl _⟩ rfl ?_ ?_
  · simp
    refine callP_ro (eqIntS_ro _ _ (by omega)) ?_
    simp
  simp
  refine callP_borrow 3 (ys := [.sl (iv (marks 1 (mixR s ws l).length)), .int .i64 1]) (by simp [frz_iv oR 2]; simp [frz]) hh rfl ?_
  simp [hneg]
  exact retRO [_] 0 rfl rfl s8

end Go.Proofs.Ytpkphjoobeacfaa.Vm
