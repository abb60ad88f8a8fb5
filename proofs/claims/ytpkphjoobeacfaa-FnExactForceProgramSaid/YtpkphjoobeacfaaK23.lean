/- FreeJoints, DegreeOf. -/
import Derived.Test.YtpkphjoobeacfaaK22
namespace Go.Proofs.Ytpkphjoobeacfaa.Vm
open Go Go.Proofs
set_option linter.unusedSimpArgs false
set_option linter.unusedVariables false

def freeL (s : Str) : List Int := if sOk s = true then frees s.js else []
theorem freeL_le (s : Str) : (freeL s).length ≤ 12 := by
  unfold freeL
  split
  · rename_i h; have := (sOk_of h).nj; have := freesTo_le s.js s.js.length; unfold frees; omega
  · simp

theorem freeJoints_ro (s : Str) (hj : s.js.length ≤ 1048576) : RO Try.prog 109 [.ptr s.c] (.sl (iv (frees s.js))) := by
  have := ro_of_nw 1 (freeJoints_nw s hj) (fl_dep _ _ 0)
  simpa using this

theorem l12Free_nw (s : Str) (hj : s.js.length ≤ 1048576) : NW Try.prog 108 [.agg s.c] (fl 1 (iv (frees s.js))) := by
  refine nw_of Try.func108 rfl rfl (by rw [Try.ntmps108]; simp) fun bl => ?_
  rw [Try.ntmps108, Try.results108]
  refine AW_run ?_
  simp [Str.c]
  intro gs hgs0 hgs g00 hg00 hgs1 hb00
  simp [hgs1, Ne.symm hgs1]
  refine AW_for (fun p : Nat × Int => [(3, .lsl p.2 1 0 (freesTo s.js p.1).length), (8, .sl (jv s.js)), (9, .int .i64 s.js.length), (10, .int .i64 p.1)]) (fun p => upd bl p.2 (some ⟨1, iv (freesTo s.js p.1)⟩)) (fun p => p.1 ≤ s.js.length ∧ bl p.2 = none ∧ (p.2 < 0 → freesTo s.js p.1 = [])) (fun p => s.js.length - p.1) _ (0, g00) ⟨Nat.zero_le _, hb00, fun _ => rfl⟩ (by refine ⟨rfl, by simp [freesTo], ?_⟩; exact sub_put (by simp [freesTo, iv]) (by simp [hgs])) ?_
  rintro ⟨i, g⟩ ⟨hi, hg, h0⟩
  simp only at hi hg h0
  have hl := freesTo_le s.js i
  refine AW_run ?_
  simp
  refine ⟨fun h => ?_, fun h => ?_⟩
  · simp [h, J.c]
    intro g1 hg1 h1g hb1
    refine ⟨fun hf => ?_, fun hf => ?_⟩
    · intro g2 hg2 h21 h2g hb2
      simp [h1g, h21, h2g, Ne.symm h1g, Ne.symm h21, Ne.symm h2g, appV, elsV, Int.not_lt.2 hg2]
      refine ⟨by omega, fun g3 hg3 hb3 => ?_⟩
      have hb3' : bl g3 = none := by grind
      simp (disch := omega) [i64_in, loopQ_normal]
      have hjf : (s.js.getD i default).fixed = false := by simpa [h] using hf
      have hs1 : freesTo s.js (i + 1) = freesTo s.js i ++ [(i : Int)] := by rw [freesTo_succ, hjf]; rfl
      refine ⟨i + 1, g3, ⟨by omega, hb3', by omega⟩, by omega, rfl, by simp [hs1], ?_⟩
      rw [hs1, iv_append]
      exact sub_put (by rw [iv_takeall]; rfl) (by simp [hg, hb1, hb2, h1g, h21, h2g])
    · simp (disch := omega) [i64_in, loopQ_normal]
      have hjf : (s.js.getD i default).fixed = true := by simpa [h] using hf
      have hs1 : freesTo s.js (i + 1) = freesTo s.js i := by rw [freesTo_succ, hjf]; simp
      refine ⟨i + 1, g, ⟨by omega, hg, by rw [hs1]; exact h0⟩, by omega, rfl, by simp [hs1], ?_⟩
      rw [hs1]
      simp [hb1, h1g]
  · have hi : i = s.js.length := by omega
    subst hi
    refine retNW [.lsl g 1 0 (freesTo s.js s.js.length).length] [g] (by simp) ?_ (by simpa using hg) (by simp [hg])
    refine own_iv.2 (.inr ⟨g, rfl, rfl, by simp [frees], h0⟩)
theorem l12Free_ro (s : Str) (hj : s.js.length ≤ 1048576) : RO Try.prog 108 [.agg s.c] (.sl (iv (frees s.js))) := by
  have := ro_of_nw 1 (l12Free_nw s hj) (fl_dep _ _ 0)
  simpa using this

theorem impl_FreeJoints_nw (s : Str) (h : s.sz) : NW Try.prog 67 [.agg s.c] (fl 1 (iv (freeL s))) := by
  refine nw_of Try.func67 rfl rfl (by rw [Try.ntmps67]; simp) fun bl => ?_
  rw [Try.ntmps67, Try.results67]
  refine AW_run ?_
  simp [Str.c]
  intro g hg0 hg
  refine callP_ro (impl_StructureOk_ro s h.js h.ms h.nm) ?_
  simp
  refine ⟨fun h => ?_, fun h => ?_⟩
  · refine retNW [.nils] [] rfl ?_ (by simp) (by simp [hg])
    exact own_iv.2 (.inl ⟨by simp [freeL, h], rfl, rfl⟩)
  · have h6 := (sOk_of h).nj
    refine callP_lend 2 (ys := [.ptr s.c]) (by simp [frz, V.cl, Str.c]) (freeJoints_nw s (by omega)) (sc_iv _) fun v gs b o f fr => ?_
    simp
    refine retNW [v] gs rfl ?_ (fun x hx => ?_) (fun x b hx => ?_)
    · simp [freeL, h]; exact o
    · have := f x hx; simp [upd_apply] at this; exact this.2
    · exact new_keep f fr (by rw [upd_apply, if_neg (fun e => by rw [e, hg] at hx; cases hx)]; exact hx)

theorem spec_FreeJoints_ro (s : Str) (h : s.sz) : RO Try.prog 66 [.agg s.c] (.sl (iv (freeL s))) := by
  refine ro_of2 Try.func66 rfl rfl (by rw [Try.ntmps66]; simp) fun bl => ?_
  rw [Try.ntmps66, Try.results66]
  refine AW_run ?_
  simp [Str.c]
  intro g hg0 hg
  refine callP_ro (spec_StructureOk_ro s h.js h.ms h.nm) ?_
  simp
  refine ⟨fun h => ?_, fun h => ?_⟩
  · exact retRO [.nils] 0 rfl (by simp [freeL, h, frz, iv]) (by simp [hg])
  · have h6 := (sOk_of h).nj
    refine callP_ro (l12Free_ro s (by omega)) ?_
    simp
    exact retRO [_] 0 rfl (by simp [freeL, h, frz]) (by simp [hg])
theorem impl_FreeJoints_ro (s : Str) (h : s.sz) : RO Try.prog 67 [.agg s.c] (.sl (iv (freeL s))) := by
  have := ro_of_nw 1 (impl_FreeJoints_nw s h) (fl_dep _ _ 0)
  simpa using this

def degOf (s : Str) : Int := if sOk s = true then s.ms.length - 2 * (frees s.js).length else 0

theorem impl_DegreeOf_ro (s : Str) (h : s.sz) : RO Try.prog 52 [.agg s.c] (.int .i64 (degOf s)) := by
  refine ro_of2 Try.func52 rfl rfl (by rw [Try.ntmps52]; simp) fun bl => ?_
  rw [Try.ntmps52, Try.results52]
  refine AW_run ?_
  simp [Str.c]
  intro g hg0 hg
  refine callP_ro (impl_StructureOk_ro s h.js h.ms h.nm) ?_
  simp
  refine ⟨fun h => ?_, fun h => ?_⟩
  · exact retRO [_] 0 rfl (by simp [degOf, h, frz]) (by simp [hg])
  · have h6 := (sOk_of h).nj
    have h7 := (sOk_of h).nm
    have h8 := freesTo_le s.js s.js.length
    refine AW_frzAt 2 1 (.ptr s.c) bl (by simp [hg]) (by simp [frz, dropB, V.cl, Str.c, hg]) ?_
    refine AW_quiet mixedO (by kernel_rfl) ?_
    simp [Str.c]
    refine hcQ_ro (freeJoints_ro s (by omega)) ?_
    simp
    simp (disch := (unfold frees; omega)) [i64_in]
    exact retRO [_] 0 rfl (by simp [degOf, h, frz]) (Sub.refl _)

theorem spec_DegreeOf_ro (s : Str) (h : s.sz) : RO Try.prog 51 [.agg s.c] (.int .i64 (degOf s)) := by
  refine ro_of2 Try.func51 rfl rfl (by rw [Try.ntmps51]; simp) fun bl => ?_
  rw [Try.ntmps51, Try.results51]
  refine AW_run ?_
  simp [Str.c]
  intro g hg0 hg
  refine callP_ro (spec_StructureOk_ro s h.js h.ms h.nm) ?_
  simp
  refine ⟨fun h => ?_, fun h => ?_⟩
  · exact retRO [_] 0 rfl (by simp [degOf, h, frz]) (by simp [hg])
  · have h6 := (sOk_of h).nj
    have h7 := (sOk_of h).nm
    have h8 := freesTo_le s.js s.js.length
    refine AW_quiet mixedO (by kernel_rfl) ?_
    simp
    refine hcQ_ro (l12Free_ro s (by omega)) ?_
    simp
    simp (disch := (unfold frees; omega)) [i64_in]
    exact retRO [_] 0 rfl (by simp [degOf, h, frz]) (by simp [hg])

theorem law_FreeJoints_ro (s : Str) (hs : s.sz) : RO Try.prog 18 [.agg s.c] (.bool true) := by
  refine ro_of2 Try.func18 rfl rfl (by rw [Try.ntmps18]; simp) fun bl => ?_
  rw [Try.ntmps18, Try.results18]
  refine AW_run ?_
  simp [Str.c]
  intro g hg0 hg
  refine callP_ro (szStructure_ro s _ (by omega) hs.js hs.ms hs.nm) ?_
  try simp
  refine ⟨fun h => ?_, fun h => ?_⟩
  · exact retRO [_] 0 rfl rfl (by simp [hg])
  obtain ⟨l1, l2, _⟩ := szStr_le (s := s) (left := 1048576) (by omega) h
  have hc := toStructure_ro s (by omega) (by omega)
  have hn := toStructure_nw s (by omega) (by omega)
  have hl := freeL_le s
  refine callP_ro hc ?_
  try simp
  refine callP_ro (spec_FreeJoints_ro s hs) ?_
  try simp
  refine callP_new hn fun v gA b1 o f fr => ?_
  rw [OwnD] at o
  obtain ⟨vs, rfl, o⟩ := o
  obtain ⟨v1, v2, ga, gb, rfl, rfl, hd, o1, o2⟩ := own_pair.1 o
  obtain ⟨c1, c2⟩ := o1.one
  obtain ⟨d1, d2⟩ := o2.one
  have eg : b1 g = some ⟨2, [[.sl (jv s.js), .sl (mv s.ms)]]⟩ := by rw [fr g (fun h => by have := f g h; simp at this)]; simp
  have ng : ∀ x, x ∈ ga ++ gb → x ≠ g ∧ bl x = none := fun x hx => by have := f x hx; simp [upd_apply] at this; exact this
  simp [c1, d1]
  intro g5 hg5 hb5
  have n5 : ∀ x, x ∈ ga ++ gb → x ≠ g5 := fun x hx e => by obtain ⟨b, hb⟩ := o.has x hx; rw [e, hb5] at hb; cases hb
  have o' : OwnL (upd b1 g5 (some ⟨2, [[v1, v2]]⟩)) (dStr s) [v1, v2] (ga ++ gb) := o.frame fun x hx => by simp [n5 x hx]
  have e5 : g5 ≠ g := fun e => by rw [e, eg] at hb5; cases hb5
  have hS1 : Sub bl b1 := fun x b hx => by
    have hne : x ≠ g := fun e => by rw [e, hg] at hx; cases hx
    exact new_keep f fr (by simp [upd_apply, hne, hx])
  have hS : Sub bl (upd b1 g5 (some ⟨2, [[v1, v2]]⟩)) := by
    simp [fresh_of hS1 hb5]
    exact hS1
  refine callP_lend 3 (ys := [.agg s.c]) (by simp [frz_str o' 1]) (impl_FreeJoints_nw s hs) (sc_iv _) fun vr gR b3 oR fR frR => ?_
  obtain ⟨r1, r2⟩ := oR.one
  have eg3 : b3 g = some ⟨2, [[.sl (jv s.js), .sl (mv s.ms)]]⟩ := new_keep fR frR (by simp [Ne.symm e5, eg])
  have e53 : b3 g5 = some ⟨2, [[v1, v2]]⟩ := new_keep fR frR (by simp)
  have o3 : OwnL b3 (dStr s) [v1, v2] (ga ++ gb) := o'.keep fun x _ b hb => new_keep fR frR hb
  have dR : ∀ x, x ∈ gR → x ∉ ga ++ gb := fun x hx h => by
    obtain ⟨b, hb⟩ := o'.has x h
    rw [fR x hx] at hb; cases hb
  have hS3 : Sub bl b3 := fun x b hx => new_keep fR frR (hS x b hx)
  have qa : ∀ x, x ∈ ga ++ gb → bl x = none := fun x hx => (ng x hx).2
  have qr : ∀ x, x ∈ gR → bl x = none := fun x hx => by
    cases hb : bl x with
    | none => rfl
    | some b => have := hS x b hb; rw [fR x hx] at this; cases this
  simp
  refine callP_borrow 3 (ys := [.sl (iv (freeL s)), .sl (iv (freeL s))]) (by simp [frz_iv oR 2, frz]) (eqIntS_ro _ _ (by omega)) rfl ?_
  simp
  refine AW_quiet mixedO (by kernel_rfl) ?_
  simp [e53, eg3]
  refine hcQ_ro hc ?_
  simp
  refine hcQ_of 3 (eqStructure_ro s s hs.js hs.ms) (by simp [frz_str o3 1]; simp [frz, Str.c, V.cl]) rfl ?_
  simp [e53]
  refine markStructure_cp s 1 _ (ga ++ gb) o3 (by unfold mkN; omega) fun b4 o4 k4 => ?_
  have eg4 : b4 g = some ⟨2, [[.sl (jv s.js), .sl (mv s.ms)]]⟩ := k4 g (fun h => (ng g h).1 rfl) _ eg3
  have oR4 : OwnD b4 (fl 1 (iv (freeL s))) vr gR := oR.keep fun x hx b hb => k4 x (dR x hx) b hb
  have hS4 : Sub bl b4 := fun x b hx => k4 x (fun h => by rw [qa x h] at hx; cases hx) b (hS3 x b hx)
  simp
  refine AW_way0 [(1, .loc g 2 0 0), (6, vr), (4, .sl (iv (freeL s))), (7, .int .i64 (mkN 1 s : Nat))] _ _ 42 (.bool false) ⟨rfl, by simp, Sub.refl _⟩ rfl ?_ ?_
  · have : ¬ (mkN 1 s : Int) < 0 := by omega
    simp [this]
    refine callP_borrow 3 (ys := [.sl (iv (freeL s)), .sl (iv (freeL s))]) (by simp [frz_iv oR4 2, frz]) (eqIntS_ro _ _ (by omega)) rfl ?_
    simp
  simp
  refine markIntS_cp (freeL s) 1 vr gR oR4 (by omega) fun b5 o5 k5 => ?_
  have eg5 : b5 g = some ⟨2, [[.sl (jv s.js), .sl (mv s.ms)]]⟩ := by rw [k5 g (fun h => by have := fR g h; simp [Ne.symm e5, eg] at this)]; exact eg4
  have hS5 : Sub bl b5 := fun x b hx => by rw [k5 x (fun h => by rw [qr x h] at hx; cases hx)]; exact hS4 x b hx
  simp
  have hh := heldIntS_ro (freeL s).length 1 (by omega)
  refine callP_borrow 3 (ys := [.sl (iv (marks 1 (freeL s).length)), .int .i64 1]) (by simp [frz_iv o5 2, frz]) hh rfl ?_
  simp
  refine ⟨by omega, fun _ => ?_⟩
  simp [eg5]
  refine callP_ro hc ?_
  simp
  refine callP_ro (impl_FreeJoints_ro s hs) ?_
  simp
  refine callP_ro (eqIntS_ro _ _ (by omega)) ?_
  simp
  refine callP_borrow 3 (ys := [.sl (iv (marks 1 (freeL s).length)), .int .i64 1]) (by simp [frz_iv o5 2, frz]) hh rfl ?_
  simp
  refine ⟨by omega, fun _ => ?_⟩
  exact retRO [_] 0 rfl rfl hS5


theorem law_DegreeOf_ro (s : Str) (hs : s.sz) :
    RO Try.prog 11 [.agg s.c] (.bool true) := by
  refine ro_of2 Try.func11 rfl rfl (by rw [Try.ntmps11]; simp) fun bl => ?_
  rw [Try.ntmps11, Try.results11]
  refine AW_run ?_
  simp [Str.c]
  intro g hg0 hg
  refine callP_ro (szStructure_ro s _ (by omega) hs.js hs.ms hs.nm) ?_
  try simp
  refine ⟨fun h => ?_, fun h => ?_⟩
  · exact retRO [_] 0 rfl rfl (by simp [hg])
  obtain ⟨l1, l2, _⟩ := szStr_le (s := s) (left := 1048576) (by omega) h
  have hc := toStructure_ro s (by omega) (by omega)
  refine callP_ro hc ?_
  try simp
  refine callP_ro (spec_DegreeOf_ro s hs) ?_
  try simp
  refine callP_ro hc ?_
  simp [Str.c]
  intro g2 hg2 h2 hb2
  try simp [h2, Ne.symm h2]
  refine callP_ro (impl_DegreeOf_ro s hs) ?_
  try simp
  refine AW_quiet mixedO (by kernel_rfl) ?_
  simp [h2, Ne.symm h2]
  refine hcQ_ro hc ?_
  try simp
  refine hcQ_ro (eqStructure_ro s s hs.js hs.ms) ?_
  try simp
  exact retRO [_] 0 rfl rfl (by simp [hg, hb2])

end Go.Proofs.Ytpkphjoobeacfaa.Vm
