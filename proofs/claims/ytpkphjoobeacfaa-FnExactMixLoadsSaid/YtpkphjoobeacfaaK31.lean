/- The law of PutLoad. -/
import Derived.Test.YtpkphjoobeacfaaK30
namespace Go.Proofs.Ytpkphjoobeacfaa.Vm
open Go Go.Proofs
set_option linter.unusedSimpArgs false
set_option linter.unusedVariables false

theorem putL_le (s : Str) (l : List Int) (j x y : Int) (hl : l.length ≤ 1048576) : (putL s l j x y).length ≤ 1048576 := by
  unfold putL; split
  · simp [put2, put1]; exact hl
  · simp

theorem law_PutLoad_ro (s : Str) (l : List Int) (j x y : Int) (hs : s.sz) (hl : l.length ≤ 140737488351232) (hj' : -9223372036854775808 ≤ j ∧ j ≤ 9223372036854775807) (hx : -9223372036854775808 ≤ x ∧ x ≤ 9223372036854775807) (hy : -9223372036854775808 ≤ y ∧ y ≤ 9223372036854775807) :
    RO Try.prog 19 [.agg s.c, .sl (iv l), .int .i64 j, .int .i64 x, .int .i64 y] (.bool true) := by
  refine ro_of2 Try.func19 rfl rfl (by rw [Try.ntmps19]; simp) fun bl => ?_
  rw [Try.ntmps19, Try.results19]
  refine AW_run ?_
  simp [Str.c]
  intro g hg0 hg
  refine ⟨fun h => ?_, fun hl1 => ?_⟩
  · exact retRO [_] 0 rfl rfl (by simp [hg])
  have hl2 : l.length ≤ 1048576 := by omega
  have hv := toIntS_ro l hl2
  refine callP_ro (szStructure_ro s _ (by omega) hs.js hs.ms hs.nm) ?_
  try simp
  refine ⟨fun h => ?_, fun h => ?_⟩
  · exact retRO [_] 0 rfl rfl (by simp [hg])
  obtain ⟨l1, l2, _⟩ := szStr_le (s := s) (left := 1048576) (by omega) h
  have hc := toStructure_ro s (by omega) (by omega)
  have hle := putL_le s l j x y hl2
  refine callP_ro hc ?_
  try simp
  refine callP_ro hv ?_
  try simp
  refine callP_ro (spec_PutLoad_ro s l j x y hs hl2 hx hy) ?_
  simp
  refine callP_new (toStructure_nw s (by omega) (by omega)) fun v gA b1 oA fA frA => ?_
  obtain ⟨v1, v2, rfl, oA, c1, c2, d1, d2⟩ := own_agg oA
  have eg1 : b1 g = some ⟨2, [[.sl (jv s.js), .sl (mv s.ms)]]⟩ := new_keep fA frA (by simp)
  have hA : ∀ x, x ∈ gA → bl x = none := fun x hx => by have := fA x hx; simp [upd_apply] at this; exact this.2
  have s1 : Sub bl b1 := fun x b hx => by
    have z1 : x ≠ g := fun e => by rw [e, hg] at hx; cases hx
    exact new_keep fA frA (by simp [upd_apply, z1, hx])
  simp [c1, d1, c2, d2]
  intro g7 hg7 hb7
  have z71 : g7 ≠ g := fun e => by rw [e, eg1] at hb7; cases hb7
  have nA7 : g7 ∉ gA := oA.not hb7
  have oA := oA.frame (bl' := upd b1 g7 (some ⟨2, [[v1, v2]]⟩)) fun x hx => by simp [upd_apply, show x ≠ g7 from fun e => nA7 (e ▸ hx)]
  have s2 : Sub bl (upd b1 g7 (some ⟨2, [[v1, v2]]⟩)) := sub_new s1 hb7
  try simp [z71, Ne.symm z71, eg1]
  refine callP_new (toIntS_nw l hl2) fun vl gL b2 oL fL frL => ?_
  obtain ⟨m1, m2⟩ := oL.one
  have eg2 : b2 g = some ⟨2, [[.sl (jv s.js), .sl (mv s.ms)]]⟩ := new_keep fL frL (by simp [Ne.symm z71, eg1])
  have e72 : b2 g7 = some ⟨2, [[v1, v2]]⟩ := new_keep fL frL (by simp)
  have nAL : ∀ x, x ∈ gL → x ∉ gA := fun x hx => oA.not (fL x hx)
  have hL : ∀ x, x ∈ gL → bl x = none := fun x hx => fresh_of s2 (fL x hx)
  have oA := oA.keep (bl' := b2) fun x _ b hb => new_keep fL frL hb
  have s3 : Sub bl b2 := fun x b hx => new_keep fL frL (s2 x b hx)
  simp [e72]
  refine callP_lend 3 (ys := [.agg s.c, .sl (iv l), .int .i64 j, .int .i64 x, .int .i64 y]) (by simp [frz_str oA 1, frz_iv oL 2]; simp [frz]) (impl_PutLoad_nw s l j x y hs hl2 hx hy) (dOpt_sc _ _) fun vr0 gR b3 oR0 fR frR => ?_
  obtain ⟨vr, rfl, oR⟩ := own_opt.1 oR0
  have eg3 : b3 g = some ⟨2, [[.sl (jv s.js), .sl (mv s.ms)]]⟩ := new_keep fR frR eg2
  have e73 : b3 g7 = some ⟨2, [[v1, v2]]⟩ := new_keep fR frR e72
  have nAR : ∀ x, x ∈ gR → x ∉ gA := fun x hx => oA.not (fR x hx)
  have nLR : ∀ x, x ∈ gR → x ∉ gL := fun x hx => oL.not (fR x hx)
  have hR : ∀ x, x ∈ gR → bl x = none := fun x hx => fresh_of s3 (fR x hx)
  have oA := oA.keep (bl' := b3) fun x _ b hb => new_keep fR frR hb
  have oL := oL.keep (bl' := b3) fun x _ b hb => new_keep fR frR hb
  have s4 : Sub bl b3 := fun x b hx => new_keep fR frR (s3 x b hx)
  simp
  refine AW_way0 [(5, .loc g 2 0 0), (1, .sl (iv l)), (2, .int .i64 j), (3, .int .i64 x), (4, .int .i64 y), (12, .sl (iv (putL s l j x y))), (13, .bool (putOk s l j x y)), (14, .loc g7 2 0 0), (15, vl), (16, vr), (17, .bool (putOk s l j x y))] _ _ 63 (.bool false) ⟨rfl, by simp, Sub.refl _⟩ rfl ?_ ?_
  · simp
    refine callP_borrow 3 (ys := [.sl (iv (putL s l j x y)), .sl (iv (putL s l j x y))]) (by simp [frz_iv oR 2, frz]) (eqIntS_ro _ _ (by omega)) rfl ?_
    simp
  simp
  refine AW_quiet mixedO (by kernel_rfl) ?_
  simp [e73, eg3]
  refine hcQ_ro hc ?_
  simp
  refine hcQ_of 3 (eqStructure_ro s s hs.js hs.ms) (by simp [frz_str oA 1]; simp [frz, Str.c, V.cl]) rfl ?_
  simp
  refine callP_ro hv ?_
  simp
  refine callP_borrow 3 (ys := [.sl (iv l), .sl (iv l)]) (by simp [frz_iv oL 2, frz]) (eqIntS_ro _ _ (by omega)) rfl ?_
  simp [e73]
  refine markStructure_cp s 1 _ gA oA (by unfold mkN; omega) fun b5 oA k5 => ?_
  have eg5 := k5 g (fun h => by have := fA g h; simp at this) _ eg3
  have oL := oL.keep (bl' := b5) fun x hx b hb => k5 x (nAL x hx) b hb
  have oR := oR.keep (bl' := b5) fun x hx b hb => k5 x (nAR x hx) b hb
  have s6 : Sub bl b5 := fun x b hx => k5 x (fun h => by rw [hA x h] at hx; cases hx) b (s4 x b hx)
  simp
  refine markIntS_cp l (mkN 1 s : Nat) vl gL oL (by unfold mkN; omega) fun b6 oL k6 => ?_
  have eg6 : b6 g = _ := (k6 g (fun h => by have := fL g h; simp [Ne.symm z71, eg1] at this)).trans eg5
  have oR := oR.frame (bl' := b6) fun x hx => k6 x (nLR x hx)
  have s7 : Sub bl b6 := fun x b hx => by rw [k6 x (fun h => by rw [hL x h] at hx; cases hx)]; exact s6 x b hx
  simp
  refine AW_way0 [(5, .loc g 2 0 0), (1, .sl (iv l)), (2, .int .i64 j), (3, .int .i64 x), (4, .int .i64 y), (12, .sl (iv (putL s l j x y))), (13, .bool (putOk s l j x y)), (16, vr), (17, .bool (putOk s l j x y)), (18, .int .i64 ((mkN 1 s : Nat) + l.length))] _ _ 92 (.bool false) ⟨rfl, by simp, Sub.refl _⟩ rfl ?_ ?_
  · have : ¬ ((mkN 1 s : Nat) + l.length : Int) < 0 := by omega
    simp [this]
    refine callP_borrow 3 (ys := [.sl (iv (putL s l j x y)), .sl (iv (putL s l j x y))]) (by simp [frz_iv oR 2, frz]) (eqIntS_ro _ _ (by omega)) rfl ?_
    simp
  simp
  refine markIntS_cp (putL s l j x y) 1 vr gR oR (by omega) fun b7 oR k7 => ?_
  have eg7 : b7 g = _ := (k7 g (fun h => by have := fR g h; rw [eg2] at this; cases this)).trans eg6
  have s8 : Sub bl b7 := fun x b hx => by rw [k7 x (fun h => by rw [hR x h] at hx; cases hx)]; exact s7 x b hx
  simp
  have hh := heldIntS_ro (putL s l j x y).length 1 (by omega)
  refine callP_borrow 3 (ys := [.sl (iv (marks 1 (putL s l j x y).length)), .int .i64 1]) (by simp [frz_iv oR 2]; simp [frz]) hh rfl ?_
  have hneg : ¬ (1 + (putL s l j x y).length : Int) < 0 := by omega
  simp [eg7, hneg]
  refine callP_ro hc ?_
  simp
  refine callP_ro hv ?_
  simp
  refine callP_ro (impl_PutLoad_ro s l j x y hs hl2 hx hy) ?_
  simp
  refine AW_way0 [(12, .sl (iv (putL s l j x y))), (13, .bool (putOk s l j x y)), (16, vr), (19, .int .i64 (1 + (putL s l j x y).length)), (21, .sl (iv (putL s l j x y))), (22, .bool (putOk s l j x y))] _ _ 123 (.bool false) ⟨rfl, by simp, Sub.refl _⟩ rfl ?_ ?_
  · simp
    refine callP_ro (eqIntS_ro _ _ (by omega)) ?_
    simp
  simp
  refine callP_borrow 3 (ys := [.sl (iv (marks 1 (putL s l j x y).length)), .int .i64 1]) (by simp [frz_iv oR 2]; simp [frz]) hh rfl ?_
  simp [hneg]
  exact retRO [_] 0 rfl rfl s8

end Go.Proofs.Ytpkphjoobeacfaa.Vm
