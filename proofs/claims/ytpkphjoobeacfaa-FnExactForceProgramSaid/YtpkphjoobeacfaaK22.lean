/- NoLoad, FreeJoints. -/
import Derived.Test.YtpkphjoobeacfaaK21
namespace Go.Proofs.Ytpkphjoobeacfaa.Vm
open Go Go.Proofs
set_option linter.unusedSimpArgs false
set_option linter.unusedVariables false

theorem frz_str {bl : Int → Option Blk} {s : Str} {vs : List V} {gs : List Int} (h : OwnL bl (dStr s) vs gs) (n : Nat) : frz bl (n + 2) (.agg vs) = some (.agg s.c) := by
  have h1 : OwnD bl (.a (dStr s)) (.agg vs) gs := by rw [OwnD]; exact ⟨vs, rfl, h⟩
  rw [h1.frz (n := n + 2) (by rw [D.dep]; refine ⟨by omega, ?_⟩; simp [dStr, D.depL, fl_dep])]
  simp [D.fz, dStr, D.fzL, Str.c]
theorem frz_iv {bl : Int → Option Blk} {ns : List Int} {v : V} {gs : List Int} (h : OwnD bl (fl 1 (iv ns)) v gs) (n : Nat) : frz bl (n + 1) v = some (.sl (iv ns)) := by
  rw [h.frz (fl_dep _ _ _), fl_fz]
theorem sc_iv (ns : List Int) : (fl 1 (iv ns)).sc = true := fl_sc (iv_ow ns)

/-- The names and sizes of a structure fit. -/
structure Str.sz (s : Str) : Prop where
  js : s.js.length ≤ 140737488351232
  ms : s.ms.length ≤ 140737488351232
  nm : ∀ j, j ∈ s.js → j.name.size ≤ 140737488351232

def noLoad (s : Str) : List Int := if sOk s = true then List.replicate (2 * s.js.length) 0 else []

theorem impl_NoLoad_nw (s : Str) (h : s.sz) : NW Try.prog 43 [.agg s.c] (fl 1 (iv (noLoad s))) := by
  have hj := h.js
  refine nw_of Try.func43 rfl rfl (by rw [Try.ntmps43]; simp) fun bl => ?_
  rw [Try.ntmps43, Try.results43]
  refine AW_run ?_
  simp [Str.c]
  intro g hg0 hg
  refine callP_ro (impl_StructureOk_ro s h.js h.ms h.nm) ?_
  simp
  refine ⟨fun h => ?_, fun h => ?_⟩
  · refine retNW [.nils] [] rfl ?_ (by simp) (by simp [hg])
    exact own_iv.2 (.inl ⟨by simp [noLoad, h], rfl, rfl⟩)
  · have h6 := (sOk_of h).nj
    simp (disch := omega) [i64_in]
    refine ⟨2 * s.js.length, by simp, by simp, by omega, by unfold maxLen; omega, fun g1 hg1 hb1 => ?_⟩
    simp at hb1
    obtain ⟨h1g, hb1⟩ := hb1
    simp
    refine retNW [.lsl g1 1 0 (2 * s.js.length)] [g1] (by simp) ?_ (by simpa using hb1) (by simp [hg, hb1])
    refine own_iv.2 (.inr ⟨g1, by simp [noLoad, h], rfl, ?_, by omega⟩)
    simp [noLoad, h, iv]

theorem spec_NoLoad_nw (s : Str) (h : s.sz) : NW Try.prog 64 [.agg s.c] (fl 1 (iv (noLoad s))) := by
  have hj := h.js
  refine nw_of Try.func64 rfl rfl (by rw [Try.ntmps64]; simp) fun bl => ?_
  rw [Try.ntmps64, Try.results64]
  refine AW_run ?_
  simp [Str.c]
  intro g hg0 hg
  refine callP_ro (spec_StructureOk_ro s h.js h.ms h.nm) ?_
  simp
  refine ⟨fun h => ?_, fun h => ?_⟩
  · refine retNW [.nils] [] rfl ?_ (by simp) (by simp [hg])
    exact own_iv.2 (.inl ⟨by simp [noLoad, h], rfl, rfl⟩)
  · have h6 := (sOk_of h).nj
    simp (disch := omega) [i64_in]
    refine ⟨2 * s.js.length, by simp, by simp, by omega, by unfold maxLen; omega, fun g1 hg1 hb1 => ?_⟩
    simp at hb1
    obtain ⟨h1g, hb1⟩ := hb1
    simp
    refine retNW [.lsl g1 1 0 (2 * s.js.length)] [g1] (by simp) ?_ (by simpa using hb1) (by simp [hg, hb1])
    refine own_iv.2 (.inr ⟨g1, by simp [noLoad, h], rfl, ?_, by omega⟩)
    simp [noLoad, h, iv]

theorem spec_NoLoad_ro (s : Str) (h : s.sz) : RO Try.prog 64 [.agg s.c] (.sl (iv (noLoad s))) := by
  have := ro_of_nw 1 (spec_NoLoad_nw s h) (fl_dep _ _ 0)
  simpa using this
theorem impl_NoLoad_ro (s : Str) (h : s.sz) : RO Try.prog 43 [.agg s.c] (.sl (iv (noLoad s))) := by
  have := ro_of_nw 1 (impl_NoLoad_nw s h) (fl_dep _ _ 0)
  simpa using this

theorem new_keep {bl bl' : Int → Option Blk} {gs : List Int} (h2 : ∀ g, g ∈ gs → bl g = none) (h3 : ∀ g, g ∉ gs → bl' g = bl g) {x : Int} {b : Blk} (hx : bl x = some b) : bl' x = some b :=
  Made.sub (d := default) (v := default) h2 h3 x b hx
theorem OwnD.keep {bl bl' : Int → Option Blk} {d : D} {v : V} {gs : List Int} (h : OwnD bl d v gs) (hg : ∀ x, x ∈ gs → ∀ b, bl x = some b → bl' x = some b) : OwnD bl' d v gs := h.frame fun x hx => by
  obtain ⟨b, hb⟩ := h.has x hx
  rw [hb, hg x hx b hb]
theorem OwnL.keep {bl bl' : Int → Option Blk} {d : List D} {v : List V} {gs : List Int} (h : OwnL bl d v gs) (hg : ∀ x, x ∈ gs → ∀ b, bl x = some b → bl' x = some b) : OwnL bl' d v gs := h.frame fun x hx => by
  obtain ⟨b, hb⟩ := h.has x hx
  rw [hb, hg x hx b hb]

theorem noLoad_le (s : Str) : (noLoad s).length ≤ 12 := by
  unfold noLoad
  split
  · rename_i h; have := (sOk_of h).nj; simp; omega
  · simp

theorem law_NoLoad_ro (s : Str) (hs : s.sz) : RO Try.prog 17 [.agg s.c] (.bool true) := by
  refine ro_of2 Try.func17 rfl rfl (by rw [Try.ntmps17]; simp) fun bl => ?_
  rw [Try.ntmps17, Try.results17]
  refine AW_run ?_
  simp [Str.c]
  intro g hg0 hg
  refine callP_ro (szStructure_ro s _ (by omega) hs.js hs.ms hs.nm) ?_
  try simp
  refine ⟨fun h => ?_, fun h => ?_⟩
  · exact retRO [_] 0 rfl rfl (by simp [hg])
  obtain ⟨l1, l2, _⟩ := szStr_le (s := s) (left := 1048576) (by omega) h
  have hc := toStructure_ro s (by omega) (by omega)
  have hn := toStructure_nw s (by omega) (by omega)
  have hl := noLoad_le s
  refine callP_ro hc ?_
  try simp
  refine callP_ro (spec_NoLoad_ro s hs) ?_
  try simp
  refine callP_new hn fun v gA b1 o f fr => ?_
  rw [OwnD] at o
  obtain ⟨vs, rfl, o⟩ := o
  obtain ⟨v1, v2, ga, gb, rfl, rfl, hd, o1, o2⟩ := own_pair.1 o
  obtain ⟨c1, c2⟩ := o1.one
  obtain ⟨d1, d2⟩ := o2.one
  have eg : b1 g = some ⟨2, [[.sl (jv s.js), .sl (mv s.ms)]]⟩ := by rw [fr g (fun h => by have := f g h; simp at this)]; simp
  have ng : ∀ x, x ∈ ga ++ gb → x ≠ g ∧ bl x = none := fun x hx => by have := f x hx; simp [upd_apply] at this; exact this
  simp [c1, d1]
  intro g5 hg5 hb5
  have n5 : ∀ x, x ∈ ga ++ gb → x ≠ g5 := fun x hx e => by obtain ⟨b, hb⟩ := o.has x hx; rw [e, hb5] at hb; cases hb
  have o' : OwnL (upd b1 g5 (some ⟨2, [[v1, v2]]⟩)) (dStr s) [v1, v2] (ga ++ gb) := o.frame fun x hx => by simp [n5 x hx]
  have e5 : g5 ≠ g := fun e => by rw [e, eg] at hb5; cases hb5
  have hS1 : Sub bl b1 := fun x b hx => by
    have hne : x ≠ g := fun e => by rw [e, hg] at hx; cases hx
    exact new_keep f fr (by simp [upd_apply, hne, hx])
  have hS : Sub bl (upd b1 g5 (some ⟨2, [[v1, v2]]⟩)) := by
    simp [fresh_of hS1 hb5]
    exact hS1
  refine callP_lend 3 (ys := [.agg s.c]) (by simp [frz_str o' 1]) (impl_NoLoad_nw s hs) (sc_iv _) fun vr gR b3 oR fR frR => ?_
  obtain ⟨r1, r2⟩ := oR.one
  have eg3 : b3 g = some ⟨2, [[.sl (jv s.js), .sl (mv s.ms)]]⟩ := new_keep fR frR (by simp [Ne.symm e5, eg])
  have e53 : b3 g5 = some ⟨2, [[v1, v2]]⟩ := new_keep fR frR (by simp)
  have o3 : OwnL b3 (dStr s) [v1, v2] (ga ++ gb) := o'.keep fun x _ b hb => new_keep fR frR hb
  have dR : ∀ x, x ∈ gR → x ∉ ga ++ gb := fun x hx h => by
    obtain ⟨b, hb⟩ := o'.has x h
    rw [fR x hx] at hb; cases hb
  have hS3 : Sub bl b3 := fun x b hx => new_keep fR frR (hS x b hx)
  have qa : ∀ x, x ∈ ga ++ gb → bl x = none := fun x hx => (ng x hx).2
  have qr : ∀ x, x ∈ gR → bl x = none := fun x hx => by
    cases hb : bl x with
    | none => rfl
    | some b => have := hS x b hb; rw [fR x hx] at this; cases this
  simp
  refine callP_borrow 3 (ys := [.sl (iv (noLoad s)), .sl (iv (noLoad s))]) (by simp [frz_iv oR 2, frz]) (eqIntS_ro _ _ (by omega)) rfl ?_
  simp
  refine AW_quiet mixedO (by kernel_rfl) ?_
  simp [e53, eg3]
  refine hcQ_ro hc ?_
  simp
  refine hcQ_of 3 (eqStructure_ro s s hs.js hs.ms) (by simp [frz_str o3 1]; simp [frz, Str.c, V.cl]) rfl ?_
  simp [e53]
  refine markStructure_cp s 1 _ (ga ++ gb) o3 (by unfold mkN; omega) fun b4 o4 k4 => ?_
  have eg4 : b4 g = some ⟨2, [[.sl (jv s.js), .sl (mv s.ms)]]⟩ := k4 g (fun h => (ng g h).1 rfl) _ eg3
  have oR4 : OwnD b4 (fl 1 (iv (noLoad s))) vr gR := oR.keep fun x hx b hb => k4 x (dR x hx) b hb
  have hS4 : Sub bl b4 := fun x b hx => k4 x (fun h => by rw [qa x h] at hx; cases hx) b (hS3 x b hx)
  simp
  refine AW_way0 [(1, .loc g 2 0 0), (6, vr), (4, .sl (iv (noLoad s))), (7, .int .i64 (mkN 1 s : Nat))] _ _ 42 (.bool false) ⟨rfl, by simp, Sub.refl _⟩ rfl ?_ ?_
  · have : ¬ (mkN 1 s : Int) < 0 := by omega
    simp [this]
    refine callP_borrow 3 (ys := [.sl (iv (noLoad s)), .sl (iv (noLoad s))]) (by simp [frz_iv oR4 2, frz]) (eqIntS_ro _ _ (by omega)) rfl ?_
    simp
  simp
  refine markIntS_cp (noLoad s) 1 vr gR oR4 (by omega) fun b5 o5 k5 => ?_
  have eg5 : b5 g = some ⟨2, [[.sl (jv s.js), .sl (mv s.ms)]]⟩ := by rw [k5 g (fun h => by have := fR g h; simp [Ne.symm e5, eg] at this)]; exact eg4
  have hS5 : Sub bl b5 := fun x b hx => by rw [k5 x (fun h => by rw [qr x h] at hx; cases hx)]; exact hS4 x b hx
  simp
  have hh := heldIntS_ro (noLoad s).length 1 (by omega)
  refine callP_borrow 3 (ys := [.sl (iv (marks 1 (noLoad s).length)), .int .i64 1]) (by simp [frz_iv o5 2, frz]) hh rfl ?_
  simp
  refine ⟨by omega, fun _ => ?_⟩
  simp [eg5]
  refine callP_ro hc ?_
  simp
  refine callP_ro (impl_NoLoad_ro s hs) ?_
  simp
  refine callP_ro (eqIntS_ro _ _ (by omega)) ?_
  simp
  refine callP_borrow 3 (ys := [.sl (iv (marks 1 (noLoad s).length)), .int .i64 1]) (by simp [frz_iv o5 2, frz]) hh rfl ?_
  simp
  refine ⟨by omega, fun _ => ?_⟩
  exact retRO [_] 0 rfl rfl hS5

end Go.Proofs.Ytpkphjoobeacfaa.Vm
