/- Marks of structures. -/

import Derived.Test.YtmbcofnnibpbeaaGreatQCFnExactMechanisms6

namespace Go.Proofs.YtmbcofnnibpbeaaGreat.Vm
open Go Go.Proofs
set_option linter.unusedSimpArgs false
set_option linter.unusedVariables false

/-! ### Copies that are the call's own -/

theorem jv_clen (ns : List J) : ∀ r, r ∈ jv ns → r.length = 4 := by
  intro r hr
  obtain ⟨n, _, rfl⟩ := List.mem_map.1 hr
  rfl
theorem mv_clen (ns : List Mb) : ∀ r, r ∈ mv ns → r.length = 3 := by
  intro r hr
  obtain ⟨n, _, rfl⟩ := List.mem_map.1 hr
  rfl
theorem jv_ow (ns : List J) : (jv ns).all (fun r => r.all V.ow) = true := by simp [jv, J.c, V.ow]
theorem mv_ow (ns : List Mb) : (mv ns).all (fun r => r.all V.ow) = true := by simp [mv, Mb.c, V.ow]
theorem own_jv {bl : Int → Option Blk} {ns : List J} {v : V} {gs : List Int} : OwnD bl (fl 4 (jv ns)) v gs ↔ (ns = [] ∧ v = .nils ∧ gs = []) ∨ ∃ g, v = .lsl g 4 0 ns.length ∧ gs = [g] ∧ bl g = some ⟨4, jv ns⟩ ∧ (g < 0 → ns = []) := by
  rw [own_fl (jv_cl ns) (jv_clen ns)]
  simp [jv]
theorem own_mv {bl : Int → Option Blk} {ns : List Mb} {v : V} {gs : List Int} : OwnD bl (fl 3 (mv ns)) v gs ↔ (ns = [] ∧ v = .nils ∧ gs = []) ∨ ∃ g, v = .lsl g 3 0 ns.length ∧ gs = [g] ∧ bl g = some ⟨3, mv ns⟩ ∧ (g < 0 → ns = []) := by
  rw [own_fl (mv_cl ns) (mv_clen ns)]
  simp [mv]

theorem toJointS_nw (a : List J) (ha : a.length ≤ 1048576) : NW Tryz.prog 56 [.sl (jv a)] (fl 4 (jv a)) := by
  refine nw_of Tryz.func56 rfl rfl (by rw [Tryz.ntmps56]; simp) fun bl => ?_
  rw [Tryz.ntmps56, Tryz.results56]
  refine AW_run ?_
  simp
  refine ⟨by omega, by unfold maxLen; omega, fun g hg0 hg => ?_⟩
  refine AW_for (fun i : Nat => [(0, .sl (jv a)), (3, .lsl g 4 0 a.length), (4, .int .i64 i)]) (fun i => upd bl g (some ⟨4, part (jv a) [.str { data := #[] }, .int .i64 0, .int .i64 0, .bool false] i⟩)) (fun i => i ≤ a.length) (fun i => a.length - i) _ 0 (Nat.zero_le _) ⟨rfl, by simp, sub_eq (by simp)⟩ ?_
  intro i hi
  refine AW_run ?_
  simp
  refine ⟨fun h => ?_, fun h => ?_⟩
  · have hi' : i < (jv a).length := by simpa using h
    simp [h]
    refine callP_ro (toJoint_ro a[i]) ?_
    simp (disch := omega) [h, part_get _ _ _ hi', i64_in, loopQ_normal, J.c]
    refine ⟨i + 1, by omega, by omega, rfl, by simp, sub_eq ?_⟩
    simp only [upd_idem]
    rw [part_set _ _ _ hi']
    simp [J.c]
  · refine retNW [.lsl g 4 0 a.length] [g] (by simp) ?_ (by simpa using hg) (by simp [hg])
    rw [part_all _ _ _ (by simpa using h)]
    exact own_jv.2 (.inr ⟨g, rfl, rfl, by simp, by omega⟩)

theorem toMemberS_nw (a : List Mb) (ha : a.length ≤ 1048576) : NW Tryz.prog 57 [.sl (mv a)] (fl 3 (mv a)) := by
  refine nw_of Tryz.func57 rfl rfl (by rw [Tryz.ntmps57]; simp) fun bl => ?_
  rw [Tryz.ntmps57, Tryz.results57]
  refine AW_run ?_
  simp
  refine ⟨by omega, by unfold maxLen; omega, fun g hg0 hg => ?_⟩
  refine AW_for (fun i : Nat => [(0, .sl (mv a)), (3, .lsl g 3 0 a.length), (4, .int .i64 i)]) (fun i => upd bl g (some ⟨3, part (mv a) [.int .i64 0, .int .i64 0, .int .i64 0] i⟩)) (fun i => i ≤ a.length) (fun i => a.length - i) _ 0 (Nat.zero_le _) ⟨rfl, by simp, sub_eq (by simp)⟩ ?_
  intro i hi
  refine AW_run ?_
  simp
  refine ⟨fun h => ?_, fun h => ?_⟩
  · have hi' : i < (mv a).length := by simpa using h
    simp [h]
    refine callP_ro (toMember_ro a[i]) ?_
    simp (disch := omega) [h, part_get _ _ _ hi', i64_in, loopQ_normal, Mb.c]
    refine ⟨i + 1, by omega, by omega, rfl, by simp, sub_eq ?_⟩
    simp only [upd_idem]
    rw [part_set _ _ _ hi']
    simp [Mb.c]
  · refine retNW [.lsl g 3 0 a.length] [g] (by simp) ?_ (by simpa using hg) (by simp [hg])
    rw [part_all _ _ _ (by simpa using h)]
    exact own_mv.2 (.inr ⟨g, rfl, rfl, by simp, by omega⟩)

/-- A structure of the call's own. -/
def dStr (s : Str) : List D := [fl 4 (jv s.js), fl 3 (mv s.ms)]

theorem toStructure_nw (s : Str) (hj : s.js.length ≤ 1048576) (hm : s.ms.length ≤ 1048576) : NW Tryz.prog 18 [.agg s.c] (.a (dStr s)) := by
  refine nw_of Tryz.func18 rfl rfl (by rw [Tryz.ntmps18]; simp) fun bl => ?_
  rw [Tryz.ntmps18, Tryz.results18]
  refine AW_run ?_
  simp [Str.c]
  intro g1 hg1 hb1 g2 hg2 h21 hb2
  intro g3 hg3 h32 h31 hb3
  simp [h21, h31, h32, Ne.symm h21, Ne.symm h31, Ne.symm h32]
  refine callP_new (toJointS_nw _ hj) fun v1 gs1 b1 o1 f1 fr1 => ?_
  obtain ⟨c1, c2⟩ := o1.one
  have e1 : ∀ g, g ∈ gs1 → g ≠ g1 ∧ g ≠ g2 ∧ g ≠ g3 ∧ bl g = none := fun g hg => by have := f1 g hg; simp [upd_apply] at this; grind
  have n1 : b1 g1 = _ := fr1 g1 fun h => (e1 g1 h).1 rfl
  have n2 : b1 g2 = _ := fr1 g2 fun h => (e1 g2 h).2.1 rfl
  have n3 : b1 g3 = _ := fr1 g3 fun h => (e1 g3 h).2.2.1 rfl
  simp [h21, h31, h32, Ne.symm h21, Ne.symm h31, Ne.symm h32] at n1 n2 n3
  simp [h21, h31, h32, Ne.symm h21, Ne.symm h31, Ne.symm h32, n1, n2, n3, c1, c2]
  refine callP_new (toMemberS_nw _ hm) fun v2 gs2 b2 o2 f2 fr2 => ?_
  obtain ⟨d1, d2⟩ := o2.one
  have e2 : ∀ g, g ∈ gs2 → g ≠ g3 ∧ b1 g = none := fun g hg => by have := f2 g hg; simp [upd_apply] at this; exact this
  have e3 : ∀ g, g ∈ gs2 → g ∉ gs1 := fun g hg hg1 => by
    obtain ⟨b, hb⟩ := o1.has g hg1
    rw [(e2 g hg).2] at hb; cases hb
  have e4 : ∀ g, g ∈ gs2 → g ≠ g2 := fun g hg h => by have := (e2 g hg).2; rw [h, n2] at this; cases this
  have m1 : b2 g1 = _ := fr2 g1 fun h => by have := (e2 g1 h).2; rw [n1] at this; cases this
  have m2 : b2 g2 = _ := fr2 g2 fun h => by have := (e2 g2 h).2; rw [n2] at this; cases this
  have m3 : b2 g3 = _ := fr2 g3 fun h => (e2 g3 h).1 rfl
  simp [h21, h31, h32, Ne.symm h21, Ne.symm h31, Ne.symm h32, n1, n2] at m1 m2 m3
  simp [h21, h31, h32, Ne.symm h21, Ne.symm h31, Ne.symm h32, m1, m2, m3, d1, d2, c1]
  have k1 : OwnD b2 (fl 4 (jv s.js)) v1 gs1 := o1.frame fun g hg => by
    rw [fr2 g (fun h => e3 g h hg)]
    simp [upd_apply, (e1 g hg).2.2.1]
  have hsub : Sub bl b2 := fun g b hb => by
    have z1 : g ≠ g1 := fun h => by rw [h, hb1] at hb; cases hb
    have z2 : g ≠ g2 := fun h => by rw [h, hb2] at hb; cases hb
    have z3 : g ≠ g3 := fun h => by rw [h, hb3] at hb; cases hb
    have hn1 : g ∉ gs1 := fun h => by rw [(e1 g h).2.2.2] at hb; cases hb
    have hb1 : b1 g = some b := by rw [fr1 g hn1]; simp [upd_apply, z1, z2, z3, hb]
    have hn2 : g ∉ gs2 := fun h => by rw [(e2 g h).2] at hb1; cases hb1
    rw [fr2 g hn2]
    simp [upd_apply, z3, hb1]
  refine retNW [.agg [v1, v2]] (gs1 ++ gs2) ?_ ?_ ?_ ?_
  · simp [h21, h31, h32, Ne.symm h21, Ne.symm h31, Ne.symm h32, m1, m2, m3]
  · show OwnD _ (.a (dStr s)) (.agg [v1, v2]) (gs1 ++ gs2)
    rw [OwnD]
    refine ⟨_, rfl, own_pair.2 ⟨v1, v2, gs1, gs2, rfl, rfl, fun g h1 h2 => e3 g h2 h1, ?_, ?_⟩⟩
    · exact k1.frame fun g hg => by simp [upd_apply, (e1 g hg).2.1, (e1 g hg).2.2.1]
    · exact o2.frame fun g hg => by simp [upd_apply, (e2 g hg).1, e4 g hg]
  · intro g hg
    rcases List.mem_append.1 hg with hg | hg
    · exact (e1 g hg).2.2.2
    · have h2 := (e2 g hg).2
      rw [fr1 g (e3 g hg)] at h2
      simp [upd_apply] at h2
      grind
  · simp [hb2, hb3]; exact hsub

/-- The names and sizes of a structure fit. -/
structure Str.sz (s : Str) : Prop where
  js : s.js.length ≤ 140737488351232
  ms : s.ms.length ≤ 140737488351232
  nm : ∀ j, j ∈ s.js → j.name.size ≤ 140737488351232
theorem frz_str {bl : Int → Option Blk} {s : Str} {vs : List V} {gs : List Int} (h : OwnL bl (dStr s) vs gs) (n : Nat) : frz bl (n + 2) (.agg vs) = some (.agg s.c) := by
  have h1 : OwnD bl (.a (dStr s)) (.agg vs) gs := by rw [OwnD]; exact ⟨vs, rfl, h⟩
  rw [h1.frz (n := n + 2) (by rw [D.dep]; refine ⟨by omega, ?_⟩; simp [dStr, D.depL, fl_dep])]
  simp [D.fz, dStr, D.fzL, Str.c]
theorem dStr_fz (s : Str) : (D.a (dStr s)).fz = .agg s.c := by simp [D.fz, dStr, D.fzL, Str.c]
theorem dStr_dep (s : Str) : (D.a (dStr s)).dep 2 := by
  rw [D.dep]; refine ⟨by omega, ?_⟩; simp [dStr, D.depL, fl_dep]
theorem dStr_sc (s : Str) : (D.a (dStr s)).sc = true := by
  simp [D.sc, dStr, D.scL, fl_sc (jv_ow _), fl_sc (mv_ow _)]
theorem own_agg {bl : Int → Option Blk} {s : Str} {v : V} {gs : List Int} (h : OwnD bl (.a (dStr s)) v gs) : ∃ v1 v2, v = .agg [v1, v2] ∧ OwnL bl (dStr s) [v1, v2] gs ∧ v1.one = true ∧ v1.cells = [v1] ∧ v2.one = true ∧ v2.cells = [v2] := by
  rw [OwnD] at h
  obtain ⟨vs, rfl, o⟩ := h
  obtain ⟨v1, v2, ga, gb, rfl, rfl, hd, o1, o2⟩ := own_pair.1 o
  exact ⟨v1, v2, rfl, o, o1.one.1, o1.one.2, o2.one.1, o2.one.2⟩

end Go.Proofs.YtmbcofnnibpbeaaGreat.Vm

namespace Go.Proofs.YtmbcofnnibpbeaaGreat.Vm
open Go Go.Proofs
set_option linter.unusedSimpArgs false
set_option linter.unusedVariables false

/-! ### Texts of marks -/
def digs (k : Nat) (out : ByteArray) : ByteArray := if h : k = 0 then out else digs (k / 10) (toBytes [IntKind.u8.wrap (IntKind.i64.wrap (48 + (k : Int).tmod 10))] ++ out)
termination_by k
decreasing_by omega
def mtext (k : Nat) : ByteArray := if k = 0 then { data := #[109, 48] } else ({ data := #[109] } : ByteArray) ++ digs k { data := #[] }
theorem digs_step {k : Nat} (h : k ≠ 0) (out : ByteArray) : digs k out = digs (k / 10) (toBytes [IntKind.u8.wrap (IntKind.i64.wrap (48 + (k : Int).tmod 10))] ++ out) := by
  rw [digs, dif_neg h]
theorem digs_zero (out : ByteArray) : digs 0 out = out := by rw [digs, dif_pos rfl]

theorem markText_ro (k : Nat) (hk : k ≤ 4611686018427387904) : RO Tryz.prog 118 [.int .i64 k] (.str (mtext k)) := by
  refine ro_of2 Tryz.func118 rfl rfl (by rw [Tryz.ntmps118]; simp) fun bl => ?_
  rw [Tryz.ntmps118, Tryz.results118]
  refine AW_run ?_
  simp
  refine ⟨fun h => ?_, fun h => ?_⟩
  · exact retRO0 (by simp [mtext, h]) rfl rfl
  refine AW_for (fun p : Nat × ByteArray => [(0, .int .i64 p.1), (3, .str p.2)]) (fun _ => bl) (fun p => p.1 + p.2.size ≤ k ∧ digs p.1 p.2 = digs k { data := #[] }) (fun p => p.1) _ (k, { data := #[] }) ⟨by simp [ByteArray.size], rfl⟩ ⟨rfl, by simp, Sub.refl _⟩ ?_
  rintro ⟨n, out⟩ ⟨hn, hd⟩
  simp only at hn hd
  refine AW_run ?_
  simp
  refine ⟨fun h1 => ?_, fun h1 => ?_⟩
  · intro g hg0 hg
    have hsz : ∀ x, (toBytes [x]).size = 1 := fun x => rfl
    simp [cvtV, cvtS, elsV, Int.not_lt.2 hg0, bytesOf]
    have h2 := hsz (IntKind.u8.wrap (IntKind.i64.wrap (48 + (n : Int).tmod 10)))
    refine ⟨by omega, ?_⟩
    simp [loopQ_normal]
    refine ⟨n / 10, toBytes [IntKind.u8.wrap (IntKind.i64.wrap (48 + (n : Int).tmod 10))] ++ out, ⟨?_, ?_⟩, by omega, rfl, ?_, ?_⟩
    · rw [ByteArray.size_append, h2]; omega
    · rw [← hd]; exact (digs_step (by omega) out).symm
    · simp
      exact i64_in (by omega) (by omega)
    · simp [hg]
  · have : n = 0 := by omega
    subst this
    rw [digs_zero] at hd
    subst hd
    have h2 : ({ data := #[109] } : ByteArray).size = 1 := rfl
    simp only [h2]
    refine ⟨by omega, ?_⟩
    exact retRO0 (by simp [mtext, h]) rfl rfl

/-! ### Joints and members -/
def mkJ (k n : Nat) : List J := (List.range n).map fun i => ⟨mtext (k + 4 * i), (k + 4 * i + 1 : Nat), (k + 4 * i + 2 : Nat), ((k + 4 * i + 3 : Nat) : Int).tmod 3 == 0⟩
@[simp] theorem mkJ_length (k n : Nat) : (mkJ k n).length = n := by simp [mkJ]
@[simp] theorem mkJ_getE (k n i : Nat) (h : i < (mkJ k n).length) : (mkJ k n)[i] = ⟨mtext (k + 4 * i), (k + 4 * i + 1 : Nat), (k + 4 * i + 2 : Nat), ((k + 4 * i + 3 : Nat) : Int).tmod 3 == 0⟩ := by simp [mkJ]
def mkM (k n : Nat) : List Mb := (List.range n).map fun i => ⟨(k + 3 * i : Nat), (k + 3 * i + 1 : Nat), (k + 3 * i + 2 : Nat)⟩
@[simp] theorem mkM_length (k n : Nat) : (mkM k n).length = n := by simp [mkM]
@[simp] theorem mkM_getE (k n i : Nat) (h : i < (mkM k n).length) : (mkM k n)[i] = ⟨(k + 3 * i : Nat), (k + 3 * i + 1 : Nat), (k + 3 * i + 2 : Nat)⟩ := by simp [mkM]

theorem upd_self {α β : Type} [DecidableEq α] (f : α → β) (a : α) (b : β) (h : f a = b) : upd f a b = f := by
  funext x
  simp only [upd_apply]
  split
  · rename_i hx; subst hx; exact h.symm
  · rfl

theorem markJointS_cp {bl : Int → Option Blk} {K : V → (Int → Option Blk) → Prop} (xs : List J) (k : Nat) (v : V) (gs : List Int) (h : OwnD bl (fl 4 (jv xs)) v gs) (hk : k + 4 * xs.length ≤ 4611686018427387000)
    (hK : ∀ bl', OwnD bl' (fl 4 (jv (mkJ k xs.length))) v gs → (∀ g, g ∉ gs → bl' g = bl g) → K (.int .i64 (k + 4 * xs.length : Nat)) bl') : CallP Tryz.prog 63 [v, .int .i64 k] bl K := by
  refine callP_of Tryz.func63 rfl rfl (by rw [Tryz.ntmps63]; simp) ?_
  rw [Tryz.ntmps63, Tryz.results63]
  refine AW_run ?_
  rcases own_jv.1 h with ⟨rfl, rfl, rfl⟩ | ⟨g, rfl, rfl, hb, hg0⟩
  · simp
    refine AW_for (fun _ : Unit => [(0, .nils), (1, .int .i64 k), (5, .int .i64 0)]) (fun _ => bl) (fun _ => True) (fun _ => 0) _ () trivial ⟨rfl, by simp, Sub.refl _⟩ ?_
    intro _ _
    refine AW_run ?_
    simp
    rw [retK_ret]
    refine ⟨[.int .i64 k], by simp, ?_⟩
    have := hK bl (own_jv.2 (.inl ⟨rfl, rfl, rfl⟩)) (fun _ _ => rfl)
    simpa using this
  · simp
    refine AW_for (fun i : Nat => [(0, .lsl g 4 0 xs.length), (1, .int .i64 (k + 4 * i : Nat)), (5, .int .i64 i)]) (fun i => upd bl g (some ⟨4, over (jv (mkJ k xs.length)) (jv xs) i⟩)) (fun i => i ≤ xs.length) (fun i => xs.length - i) _ 0 (Nat.zero_le _) ⟨rfl, by simp, sub_eq ?_⟩ ?_
    · exact (upd_self _ _ _ (by simpa using hb)).symm
    intro i hi
    refine AW_run ?_
    simp
    refine ⟨fun h1 => ?_, fun h1 => ?_⟩
    · have h2 : i < (jv xs).length := by simpa using h1
      have hge : 0 ≤ g := by
        rcases Int.lt_or_le g 0 with hlt | hge
        · have := hg0 hlt; subst this; simp at h1
        · exact hge
      have hgi := over_get (jv (mkJ k xs.length)) (jv xs) i (by simp) h2
      have hgE := over_getE (jv (mkJ k xs.length)) (jv xs) i (by simp) h2
      have hol : i < (over (jv (mkJ k xs.length)) (jv xs) i).length := by rw [over_length _ _ _ (by simp)]; exact h2
      have hm := markText_ro (k + 4 * i) (by omega)
      simp at hm
      simp [h1]
      refine callP_ro hm ?_
      simp (disch := omega) [h1, hgi, i64_in, J.c, hol, List.getElem?_set_self, List.set_set]
      simp only [loopQ_normal]
      refine ⟨i + 1, by omega, by omega, rfl, by simp; omega, sub_eq ?_⟩
      simp only [upd_idem]
      rw [over_set _ _ _ (by simp) (by simpa using h1) _ (by simp [hgE, J.c, Int.add_assoc])]
    · have hi' : i = xs.length := by omega
      subst hi'
      rw [retK_ret]
      refine ⟨[.int .i64 (k + 4 * xs.length : Nat)], by simp, ?_⟩
      refine hK _ (own_jv.2 (.inr ⟨g, by simp, rfl, ?_, fun h => by have := hg0 h; subst this; rfl⟩)) (fun g' hg' => ?_)
      · simp; rw [over_all _ _ _ (by simp) (by simp)]
      · simp at hg'; simp [hg']

theorem markMemberS_cp {bl : Int → Option Blk} {K : V → (Int → Option Blk) → Prop} (xs : List Mb) (k : Nat) (v : V) (gs : List Int) (h : OwnD bl (fl 3 (mv xs)) v gs) (hk : k + 3 * xs.length ≤ 4611686018427387000)
    (hK : ∀ bl', OwnD bl' (fl 3 (mv (mkM k xs.length))) v gs → (∀ g, g ∉ gs → bl' g = bl g) → K (.int .i64 (k + 3 * xs.length : Nat)) bl') : CallP Tryz.prog 64 [v, .int .i64 k] bl K := by
  refine callP_of Tryz.func64 rfl rfl (by rw [Tryz.ntmps64]; simp) ?_
  rw [Tryz.ntmps64, Tryz.results64]
  refine AW_run ?_
  rcases own_mv.1 h with ⟨rfl, rfl, rfl⟩ | ⟨g, rfl, rfl, hb, hg0⟩
  · simp
    refine AW_for (fun _ : Unit => [(0, .nils), (1, .int .i64 k), (5, .int .i64 0)]) (fun _ => bl) (fun _ => True) (fun _ => 0) _ () trivial ⟨rfl, by simp, Sub.refl _⟩ ?_
    intro _ _
    refine AW_run ?_
    simp
    rw [retK_ret]
    refine ⟨[.int .i64 k], by simp, ?_⟩
    have := hK bl (own_mv.2 (.inl ⟨rfl, rfl, rfl⟩)) (fun _ _ => rfl)
    simpa using this
  · simp
    refine AW_for (fun i : Nat => [(0, .lsl g 3 0 xs.length), (1, .int .i64 (k + 3 * i : Nat)), (5, .int .i64 i)]) (fun i => upd bl g (some ⟨3, over (mv (mkM k xs.length)) (mv xs) i⟩)) (fun i => i ≤ xs.length) (fun i => xs.length - i) _ 0 (Nat.zero_le _) ⟨rfl, by simp, sub_eq ?_⟩ ?_
    · exact (upd_self _ _ _ (by simpa using hb)).symm
    intro i hi
    refine AW_run ?_
    simp
    refine ⟨fun h1 => ?_, fun h1 => ?_⟩
    · have h2 : i < (mv xs).length := by simpa using h1
      have hge : 0 ≤ g := by
        rcases Int.lt_or_le g 0 with hlt | hge
        · have := hg0 hlt; subst this; simp at h1
        · exact hge
      have hgi := over_get (mv (mkM k xs.length)) (mv xs) i (by simp) h2
      have hgE := over_getE (mv (mkM k xs.length)) (mv xs) i (by simp) h2
      have hol : i < (over (mv (mkM k xs.length)) (mv xs) i).length := by rw [over_length _ _ _ (by simp)]; exact h2
      simp (disch := omega) [h1, hgi, i64_in, Mb.c, hol, List.getElem?_set_self, List.set_set]
      simp only [loopQ_normal]
      refine ⟨i + 1, by omega, by omega, rfl, by simp; omega, sub_eq ?_⟩
      simp only [upd_idem]
      rw [over_set _ _ _ (by simp) (by simpa using h1) _ (by simp [hgE, Mb.c, Int.add_assoc])]
    · have hi' : i = xs.length := by omega
      subst hi'
      rw [retK_ret]
      refine ⟨[.int .i64 (k + 3 * xs.length : Nat)], by simp, ?_⟩
      refine hK _ (own_mv.2 (.inr ⟨g, by simp, rfl, ?_, fun h => by have := hg0 h; subst this; rfl⟩)) (fun g' hg' => ?_)
      · simp; rw [over_all _ _ _ (by simp) (by simp)]
      · simp at hg'; simp [hg']

/-- The marks of a structure from k on. -/
def mkS (k : Nat) (s : Str) : Str := ⟨mkJ k s.js.length, mkM (k + 4 * s.js.length) s.ms.length⟩
def mkN (k : Nat) (s : Str) : Nat := k + 4 * s.js.length + 3 * s.ms.length

theorem markStructure_cp {bl : Int → Option Blk} {K : V → (Int → Option Blk) → Prop} (s : Str) (k : Nat) (vs : List V) (gs : List Int) (h : OwnL bl (dStr s) vs gs) (hk : mkN k s ≤ 4611686018427387000)
    (hK : ∀ bl', OwnL bl' (dStr (mkS k s)) vs gs → (∀ g, g ∉ gs → ∀ b, bl g = some b → bl' g = some b) → K (.int .i64 (mkN k s : Nat)) bl') : CallP Tryz.prog 22 [.agg vs, .int .i64 k] bl K := by
  obtain ⟨v, w, g1, g2, rfl, rfl, hd, o1, o2⟩ := own_pair.1 h
  obtain ⟨c1, c2⟩ := o1.one
  obtain ⟨d1, d2⟩ := o2.one
  unfold mkN at hk
  refine callP_of Tryz.func22 rfl rfl (by rw [Tryz.ntmps22]; simp) ?_
  rw [Tryz.ntmps22, Tryz.results22]
  refine AW_run ?_
  simp [c1, d1]
  intro g hg0 hg
  have f1 : ∀ x, x ∈ g1 → x ≠ g := fun x hx h => by obtain ⟨b, hb⟩ := o1.has x hx; rw [h, hg] at hb; cases hb
  have f2 : ∀ x, x ∈ g2 → x ≠ g := fun x hx h => by obtain ⟨b, hb⟩ := o2.has x hx; rw [h, hg] at hb; cases hb
  refine markJointS_cp s.js k v g1 (o1.frame fun x hx => by simp [f1 x hx]) (by omega) fun b1 p1 q1 => ?_
  have n1 : b1 g = some ⟨2, [[v, w]]⟩ := by rw [q1 g (fun h => f1 g h rfl)]; simp
  have p2 : OwnD b1 (fl 3 (mv s.ms)) w g2 := o2.frame fun x hx => by rw [q1 x (fun h => hd x h hx)]; simp [f2 x hx]
  simp [n1]
  have := markMemberS_cp (bl := b1) (K := K) s.ms (k + 4 * s.js.length) w g2 p2 (by omega)
  refine markMemberS_cp s.ms (k + 4 * s.js.length) w g2 p2 (by omega) fun b2 p3 q3 => ?_
  simp
  rw [retK_ret]
  refine ⟨[_], by simp; rfl, ?_⟩
  have := hK b2 (own_pair.2 ⟨v, w, g1, g2, rfl, rfl, hd, p1.frame fun x hx => q3 x (hd x hx), p3⟩) (fun x hx b hb => ?_)
  · simpa [mkN] using this
  · simp at hx
    rw [q3 x hx.2, q1 x hx.1]
    simp only [upd_apply]
    rw [if_neg (fun e => by subst e; rw [hg] at hb; cases hb)]; exact hb

end Go.Proofs.YtmbcofnnibpbeaaGreat.Vm

namespace Go.Proofs.YtmbcofnnibpbeaaGreat.Vm
open Go Go.Proofs
set_option linter.unusedSimpArgs false
set_option linter.unusedVariables false

end Go.Proofs.YtmbcofnnibpbeaaGreat.Vm

namespace Go.Proofs.YtmbcofnnibpbeaaGreat.Vm
open Go Go.Proofs
set_option linter.unusedSimpArgs false
set_option linter.unusedVariables false


def noLoad (s : Str) : List Int := if sOk s = true then List.replicate (2 * s.js.length) 0 else []

theorem impl_NoLoad_nw (s : Str) (h : s.sz) : NW Tryz.prog 33 [.agg s.c] (fl 1 (iv (noLoad s))) := by
  have hj := h.js
  refine nw_of Tryz.func33 rfl rfl (by rw [Tryz.ntmps33]; simp) fun bl => ?_
  rw [Tryz.ntmps33, Tryz.results33]
  refine AW_run ?_
  simp [Str.c]
  intro g hg0 hg
  refine callP_ro (impl_StructureOk_ro s h.js h.ms h.nm) ?_
  simp
  refine ⟨fun h => ?_, fun h => ?_⟩
  · refine retNW [.nils] [] rfl ?_ (by simp) (by simp [hg])
    exact own_iv.2 (.inl ⟨by simp [noLoad, h], rfl, rfl⟩)
  · have h6 := (sOk_of h).nj
    simp (disch := omega) [i64_in]
    refine ⟨2 * s.js.length, by simp, by simp, by omega, by unfold maxLen; omega, fun g1 hg1 hb1 => ?_⟩
    simp at hb1
    obtain ⟨h1g, hb1⟩ := hb1
    simp
    refine retNW [.lsl g1 1 0 (2 * s.js.length)] [g1] (by simp) ?_ (by simpa using hb1) (by simp [hg, hb1])
    refine own_iv.2 (.inr ⟨g1, by simp [noLoad, h], rfl, ?_, by omega⟩)
    simp [noLoad, h, iv]

theorem impl_NoLoad_ro (s : Str) (h : s.sz) : RO Tryz.prog 33 [.agg s.c] (.sl (iv (noLoad s))) := by
  have := ro_of_nw 1 (impl_NoLoad_nw s h) (fl_dep _ _ 0)
  simpa using this


theorem noLoad_le (s : Str) : (noLoad s).length ≤ 12 := by
  unfold noLoad
  split
  · rename_i h; have := (sOk_of h).nj; simp; omega
  · simp

end Go.Proofs.YtmbcofnnibpbeaaGreat.Vm

namespace Go.Proofs.YtmbcofnnibpbeaaGreat.Vm
open Go Go.Proofs
set_option linter.unusedSimpArgs false
set_option linter.unusedVariables false

def freeL (s : Str) : List Int := if sOk s = true then frees s.js else []
theorem freeL_le (s : Str) : (freeL s).length ≤ 12 := by
  unfold freeL
  split
  · rename_i h; have := (sOk_of h).nj; have := freesTo_le s.js s.js.length; unfold frees; omega
  · simp

theorem freeJoints_ro (s : Str) (hj : s.js.length ≤ 1048576) : RO Tryz.prog 47 [.ptr s.c] (.sl (iv (frees s.js))) := by
  have := ro_of_nw 1 (freeJoints_nw s hj) (fl_dep _ _ 0)
  simpa using this

theorem l12Free_nw (s : Str) (hj : s.js.length ≤ 1048576) : NW Tryz.prog 109 [.agg s.c] (fl 1 (iv (frees s.js))) := by
  refine nw_of Tryz.func109 rfl rfl (by rw [Tryz.ntmps109]; simp) fun bl => ?_
  rw [Tryz.ntmps109, Tryz.results109]
  refine AW_run ?_
  simp [Str.c]
  intro gs hgs0 hgs g00 hg00 hgs1 hb00
  simp [hgs1, Ne.symm hgs1]
  refine AW_for (fun p : Nat × Int => [(3, .lsl p.2 1 0 (freesTo s.js p.1).length), (8, .sl (jv s.js)), (9, .int .i64 s.js.length), (10, .int .i64 p.1)]) (fun p => upd bl p.2 (some ⟨1, iv (freesTo s.js p.1)⟩)) (fun p => p.1 ≤ s.js.length ∧ bl p.2 = none ∧ (p.2 < 0 → freesTo s.js p.1 = [])) (fun p => s.js.length - p.1) _ (0, g00) ⟨Nat.zero_le _, hb00, fun _ => rfl⟩ (by refine ⟨rfl, by simp [freesTo], ?_⟩; exact sub_put (by simp [freesTo, iv]) (by simp [hgs])) ?_
  rintro ⟨i, g⟩ ⟨hi, hg, h0⟩
  simp only at hi hg h0
  have hl := freesTo_le s.js i
  refine AW_run ?_
  simp
  refine ⟨fun h => ?_, fun h => ?_⟩
  · simp [h, J.c]
    intro g1 hg1 h1g hb1
    refine ⟨fun hf => ?_, fun hf => ?_⟩
    · intro g2 hg2 h21 h2g hb2
      simp [h1g, h21, h2g, Ne.symm h1g, Ne.symm h21, Ne.symm h2g, appV, elsV, Int.not_lt.2 hg2]
      refine ⟨by omega, fun g3 hg3 hb3 => ?_⟩
      have hb3' : bl g3 = none := by grind
      simp (disch := omega) [i64_in, loopQ_normal]
      have hjf : (s.js.getD i default).fixed = false := by simpa [h] using hf
      have hs1 : freesTo s.js (i + 1) = freesTo s.js i ++ [(i : Int)] := by rw [freesTo_succ, hjf]; rfl
      refine ⟨i + 1, g3, ⟨by omega, hb3', by omega⟩, by omega, rfl, by simp [hs1], ?_⟩
      rw [hs1, iv_append]
      exact sub_put (by rw [iv_takeall]; rfl) (by simp [hg, hb1, hb2, h1g, h21, h2g])
    · simp (disch := omega) [i64_in, loopQ_normal]
      have hjf : (s.js.getD i default).fixed = true := by simpa [h] using hf
      have hs1 : freesTo s.js (i + 1) = freesTo s.js i := by rw [freesTo_succ, hjf]; simp
      refine ⟨i + 1, g, ⟨by omega, hg, by rw [hs1]; exact h0⟩, by omega, rfl, by simp [hs1], ?_⟩
      rw [hs1]
      simp [hb1, h1g]
  · have hi : i = s.js.length := by omega
    subst hi
    refine retNW [.lsl g 1 0 (freesTo s.js s.js.length).length] [g] (by simp) ?_ (by simpa using hg) (by simp [hg])
    refine own_iv.2 (.inr ⟨g, rfl, rfl, by simp [frees], h0⟩)
theorem l12Free_ro (s : Str) (hj : s.js.length ≤ 1048576) : RO Tryz.prog 109 [.agg s.c] (.sl (iv (frees s.js))) := by
  have := ro_of_nw 1 (l12Free_nw s hj) (fl_dep _ _ 0)
  simpa using this

theorem impl_FreeJoints_nw (s : Str) (h : s.sz) : NW Tryz.prog 13 [.agg s.c] (fl 1 (iv (freeL s))) := by
  refine nw_of Tryz.func13 rfl rfl (by rw [Tryz.ntmps13]; simp) fun bl => ?_
  rw [Tryz.ntmps13, Tryz.results13]
  refine AW_run ?_
  simp [Str.c]
  intro g hg0 hg
  refine callP_ro (impl_StructureOk_ro s h.js h.ms h.nm) ?_
  simp
  refine ⟨fun h => ?_, fun h => ?_⟩
  · refine retNW [.nils] [] rfl ?_ (by simp) (by simp [hg])
    exact own_iv.2 (.inl ⟨by simp [freeL, h], rfl, rfl⟩)
  · have h6 := (sOk_of h).nj
    refine callP_lend 2 (ys := [.ptr s.c]) (by simp [frz, V.cl, Str.c]) (freeJoints_nw s (by omega)) (sc_iv _) fun v gs b o f fr => ?_
    simp
    refine retNW [v] gs rfl ?_ (fun x hx => ?_) (fun x b hx => ?_)
    · simp [freeL, h]; exact o
    · have := f x hx; simp [upd_apply] at this; exact this.2
    · exact new_keep f fr (by rw [upd_apply, if_neg (fun e => by rw [e, hg] at hx; cases hx)]; exact hx)

theorem impl_FreeJoints_ro (s : Str) (h : s.sz) : RO Tryz.prog 13 [.agg s.c] (.sl (iv (freeL s))) := by
  have := ro_of_nw 1 (impl_FreeJoints_nw s h) (fl_dep _ _ 0)
  simpa using this

def degOf (s : Str) : Int := if sOk s = true then s.ms.length - 2 * (frees s.js).length else 0

theorem impl_DegreeOf_ro (s : Str) (h : s.sz) : RO Tryz.prog 31 [.agg s.c] (.int .i64 (degOf s)) := by
  refine ro_of2 Tryz.func31 rfl rfl (by rw [Tryz.ntmps31]; simp) fun bl => ?_
  rw [Tryz.ntmps31, Tryz.results31]
  refine AW_run ?_
  simp [Str.c]
  intro g hg0 hg
  refine callP_ro (impl_StructureOk_ro s h.js h.ms h.nm) ?_
  simp
  refine ⟨fun h => ?_, fun h => ?_⟩
  · exact retRO [_] 0 rfl (by simp [degOf, h, frz]) (by simp [hg])
  · have h6 := (sOk_of h).nj
    have h7 := (sOk_of h).nm
    have h8 := freesTo_le s.js s.js.length
    refine AW_frzAt 2 1 (.ptr s.c) bl (by simp [hg]) (by simp [frz, dropB, V.cl, Str.c, hg]) ?_
    refine AW_quiet mixedO (by kernel_rfl) ?_
    simp [Str.c]
    refine hcQ_ro (freeJoints_ro s (by omega)) ?_
    simp
    simp (disch := (unfold frees; omega)) [i64_in]
    exact retRO [_] 0 rfl (by simp [degOf, h, frz]) (Sub.refl _)

end Go.Proofs.YtmbcofnnibpbeaaGreat.Vm

namespace Go.Proofs.YtmbcofnnibpbeaaGreat.Vm
open Go Go.RowKit
set_option linter.unusedSimpArgs false
set_option linter.unusedVariables false

theorem Hoist_append {P : Program} {ops : Array Oper} {blK : Int → Option Blk} {K : St → Prop} : ∀ (is js : List Nat) (σ : St), Hoist P ops blK is (fun σ' => Hoist P ops blK js K σ') σ → Hoist P ops blK (is ++ js) K σ
  | [], js, σ, h => h
  | i :: is, js, σ, h => by
    rw [List.cons_append]
    unfold Hoist at h ⊢
    split at h
    · obtain ⟨v, h1, h2⟩ := h
      exact ⟨v, h1, Hoist_append is js _ h2⟩
    · exact h.elim
theorem HoistF_mono {P : Program} {ds : List (Option Tmp)} {blK : Int → Option Blk} {K K' : St → Prop} (hK : ∀ σ, K σ → K' σ) : ∀ (l : List Oper) (σ : St), HoistF P ds blK l K σ → HoistF P ds blK l K' σ
  | [], σ, h => hK σ h
  | o :: rest, σ, h => by
    have next : ∀ v, HoistF P ds blK rest K (σ.put o.dst v) → HoistF P ds blK rest K' (σ.put o.dst v) := fun v hv => HoistF_mono hK rest _ hv
    unfold HoistF at h ⊢
    cases hg : o.guard with
    | none =>
      simp only [hg] at h ⊢
      split at h
      · obtain ⟨p, h1, v, n, ys, h2, h3⟩ := h
        exact ⟨p, h1, v, n, ys, h2, next v h3⟩
      · obtain ⟨v, h1, h2⟩ := h
        exact ⟨v, h1, next v h2⟩
    | some jb =>
      obtain ⟨j, b⟩ := jb
      simp only [hg] at h ⊢
      split at h
      · rename_i d hd
        split at h
        · split at h
          · rename_i hq
            obtain ⟨v, h1, h2⟩ := h
            rw [if_pos hq]
            exact ⟨v, h1, next v h2⟩
          · rename_i hq
            rw [if_neg hq]
            exact next _ h
        · exact next _ h
        · exact h.elim
      · exact h.elim
/-- One operation, guarded or not, as what it yields. -/
def HStep (P : Program) (ops : Array Oper) (blK : Int → Option Blk) (i : Nat) (K : St → Prop) (σ : St) : Prop := match ops[i]? with
  | some o => ∃ v, DY P ops blK o σ v ∧ K (σ.put o.dst v)
  | none => False
theorem HStep_call {P : Program} {ops : Array Oper} {blK : Int → Option Blk} {K : St → Prop} {σ : St} {i j d : Nat} {o : Oper} {b : Bool} {f : Operand} {args : Array Operand} {ats : Array TypeId} {fid : FuncId} {xs : List V} {v : V}
    (ho : ops[i]? = some o) (hop : o.op = .call ⟨.value f, args, ats⟩) (hg : o.guard = some (j, b)) (hd : (ops[j]?).bind (·.dst) = some d) (hb : σ.ev (.tmp d) = .bool b) (hc : callV σ f args.toList = some (fid, xs)) (hr : RO P fid xs v) (hK : K (σ.put o.dst v)) : HStep P ops blK i K σ := by
  unfold HStep
  rw [ho]
  refine ⟨v, ?_, hK⟩
  unfold DY
  simp only [hg, hd, hb]
  exact ⟨fun _ => .inr ⟨_, f, (fid, xs), 0, [], hop, rfl, hc, .inr (RL_of hr)⟩, fun hh => by cases b <;> cases hh⟩
theorem HStep_skip {P : Program} {ops : Array Oper} {blK : Int → Option Blk} {K : St → Prop} {σ : St} {i j d : Nat} {o : Oper} {b : Bool}
    (ho : ops[i]? = some o) (hg : o.guard = some (j, b)) (hd : (ops[j]?).bind (·.dst) = some d) (hb : σ.ev (.tmp d) = .bool (!b)) (hK : K (σ.put o.dst (.tup []))) : HStep P ops blK i K σ := by
  unfold HStep
  rw [ho]
  refine ⟨.tup [], ?_, hK⟩
  unfold DY
  simp only [hg, hd, hb]
  cases b
  · exact ⟨fun hh => (by cases hh), fun _ => by first | trivial | rfl⟩
  · exact ⟨fun hh => (by cases hh), fun _ => by first | trivial | rfl⟩
/-- As AW_mixedB, with the guarded call i between the lists is1 and is2. -/
theorem AW_mixedC {P : Program} {id : Nat} {ops : Array Oper} {K : Ex → St → Prop} {σ : St} (hm : P.follows .mixedOrders = true) (blK : Int → Option Blk) (hs : Sub blK σ.bl) (is1 : List Nat) (i : Nat) (is2 : List Nat) (fuel : Nat)
    (hn : (ops.size == fuel + (is1 ++ i :: is2).length && (is1 ++ i :: is2).all (fun i => decide (i < ops.size)) && hoistB ops (is1 ++ i :: is2) (Array.replicate ops.size false)) = true)
    (h : HoistF P (ops.toList.map (·.dst)) blK (is1.filterMap fun i => ops[i]?) (HStep P ops blK i (HoistF P (ops.toList.map (·.dst)) blK (is2.filterMap fun i => ops[i]?) (DAny P ops blK (fun _ => false) (K .normal) fuel (setAll (is1 ++ i :: is2) (Array.replicate ops.size false))))) σ) : AW P (.region id ops true) K σ := by
  simp only [Bool.and_eq_true, beq_iff_eq] at hn
  have hall := List.all_eq_true.1 hn.1.2
  have f1 : is1.all (fun i => decide (i < ops.size)) = true := List.all_eq_true.2 fun x hx => hall x (List.mem_append_left _ hx)
  have f2 : is2.all (fun i => decide (i < ops.size)) = true := List.all_eq_true.2 fun x hx => hall x (List.mem_append_right _ (List.mem_cons_of_mem _ hx))
  refine AW_draw_mixed hm (is1 ++ i :: is2) fuel blK hs hn.1.1 hn.2 (tl := fun _ => false) (fun _ _ _ _ h => by cases h) (Hoist_append is1 (i :: is2) σ (Hoist_is _ is1 σ (filter_some is1 f1) ?_))
  refine HoistF_mono (fun σ' h' => ?_) _ _ h
  unfold HStep at h'
  unfold Hoist
  split at h'
  · rename_i o ho
    obtain ⟨v, h1, h2⟩ := h'
    rw [ho]
    exact ⟨v, h1, Hoist_is _ is2 _ (filter_some is2 f2) h2⟩
  · exact h'.elim

/-- AW_mixedB where the last operations may store. -/
theorem AW_mixedBT {P : Program} {id : Nat} {ops : Array Oper} {K : Ex → St → Prop} {σ : St} (hm : P.follows .mixedOrders = true) (blK : Int → Option Blk) (hs : Sub blK σ.bl) (is : List Nat) (fuel n : Nat) (hn : (ops.size == fuel + is.length && is.all (fun i => decide (i < ops.size)) && hoistB ops is (Array.replicate ops.size false) && tailB ops (fun j => decide (n ≤ j)) is) = true)
    (h : HoistF P (ops.toList.map (·.dst)) blK (is.filterMap fun i => ops[i]?) (DAny P ops blK (fun j => decide (n ≤ j)) (K .normal) fuel (setAll is (Array.replicate ops.size false))) σ) : AW P (.region id ops true) K σ := by
  simp only [Bool.and_eq_true, beq_iff_eq] at hn
  exact AW_draw_mixed hm is fuel blK hs hn.1.1.1 hn.1.2 (tl := fun j => decide (n ≤ j)) (tailB_spec hn.2) (Hoist_is _ is σ (filter_some is hn.1.1.2) h)

end Go.Proofs.YtmbcofnnibpbeaaGreat.Vm

namespace Go.Proofs.YtmbcofnnibpbeaaGreat.Vm
open Go Go.Proofs
set_option linter.unusedSimpArgs false
set_option linter.unusedVariables false

def lN (l : List Int) (k : Nat) : Int := l.getD k 0
theorem lN_at {l : List Int} {k : Nat} (h : k < l.length) : lN l k = l[k] := by simp [lN, h]
def fX (s : Str) (l : List Int) (q : List (Option Rat)) (i : Nat) : Option Rat := op2 (· + ·) (pX s q i) (some (lN l (2 * i) : Rat))
def fY (s : Str) (l : List Int) (q : List (Option Rat)) (i : Nat) : Option Rat := op2 (· + ·) (pY s q i) (some (lN l (2 * i + 1) : Rat))
theorem fX_ok (s : Str) (l : List Int) (q : List (Option Rat)) (i : Nat) : okQ (fX s l q i) := okQ_op2 _ _ _
theorem fY_ok (s : Str) (l : List Int) (q : List (Option Rat)) (i : Nat) : okQ (fY s l q i) := okQ_op2 _ _ _
def isZ (x : Option Rat) : Bool := x.isSome && decide (sgq x = 0)
theorem isZero_ro (x : Option Rat) : RO Tryz.prog 70 [fv x] (.bool (isZ x)) := by
  refine ro_of2 Tryz.func70 rfl rfl (by rw [Tryz.ntmps70]; simp) fun bl => ?_
  rw [Tryz.ntmps70, Tryz.results70]
  refine AW_run ?_
  simp
  cases x with
  | none =>
    refine AW_region (Ops_of ?_)
    simp [fv]
    exact retRO0 (by simp [isZ]) rfl rfl
  | some q =>
    refine AW_region (Ops_of ?_)
    simp [fv]
    refine callP_ro (Sign_ro q) ?_
    have hz : isZ (some q) = decide (q.num.sign = 0) := rfl
    generalize q.num.sign = z at hz ⊢
    simp
    exact retRO [.bool (isZ (some q))] 0 (by simp [hz, eq_dec]) (by simp [frz]) (Sub.refl _)
def balJ (s : Str) (l : List Int) (q : List (Option Rat)) (i : Nat) : Bool := isZ (fX s l q i) && isZ (fY s l q i)
/-- All free joints before n are in balance. -/
def isBal (s : Str) (l : List Int) (q : List RT) : Bool := (fitsQ s q && fitsL s.js l) && (frees s.js).all fun j => balJ s l (rdAll q) j.toNat
theorem frees_get (js : List J) (t : Nat) (h : t < (frees js).length) : ∃ i : Nat, (frees js)[t] = i ∧ i < js.length := by
  have hm : (frees js)[t] ∈ frees js := List.getElem_mem h
  generalize (frees js)[t] = x at hm ⊢
  unfold frees freesTo at hm
  obtain ⟨i, hi, rfl⟩ := List.mem_map.1 hm
  have := List.mem_filter.1 hi
  exact ⟨i, rfl, by simpa using this.1⟩
theorem fitsL_lN {js : List J} {l : List Int} (h : fitsL js l = true) : l.length = 2 * js.length ∧ ∀ k, k < l.length → -100 ≤ lN l k ∧ lN l k ≤ 100 := by
  unfold fitsL at h
  rw [Bool.and_eq_true] at h
  refine ⟨by simpa using h.1, fun k hk => ?_⟩
  have := List.all_eq_true.1 h.2 l[k] (List.getElem_mem hk)
  rw [lN_at hk]
  simpa [forceOk] using this
theorem impl_IsBalanced_ro (s : Str) (l : List Int) (q : List RT) (hj : s.js.length ≤ 140737488351232) (hm : s.ms.length ≤ 140737488351232) (hn : ∀ j, j ∈ s.js → j.name.size ≤ 140737488351232) (hl : l.length ≤ 140737488351232) (hq : fitQ q 1048576) : RO Tryz.prog 32 [.agg s.c, .sl (iv l), .sl (rv q)] (.bool (isBal s l q)) := by
  refine ro_of2 Tryz.func32 rfl rfl (by rw [Tryz.ntmps32]; simp) fun bl => ?_
  rw [Tryz.ntmps32, Tryz.results32]
  refine AW_runA ?_
  simp [Str.c]
  intro g hg0 hg
  refine AW_frzAt 1 3 (.ptr s.c) bl (by simp [hg]) (by simp [frz, dropB, hg, Str.c, V.cl]) ?_
  refine AW_run ?_
  simp
  refine callP_ro (densities_ro s q hj hm hn hq) ?_
  simp
  refine AW_way0 [(1, .sl (iv l)), (3, .ptr s.c), (6, .bool false), (7, .sl (fvs (if fitsQ s q = true then rdAll q else []))), (8, .bool (fitsQ s q))] _ bl 24 (.bool (!(fitsQ s q && fitsL s.js l))) ⟨rfl, by simp, Sub.refl _⟩ rfl ?_ ?_
  · cases hf : fitsQ s q
    · simp
    simp
    refine callP_ro (fitsLoad_ro s l hj hl) ?_
    simp
  cases hp : (fitsQ s q && fitsL s.js l)
  · have hz : isBal s l q = false := by unfold isBal; rw [hp]; rfl
    simp
    exact retRO [.bool false] 0 (by simp) (by simp [frz, hz]) (Sub.refl _)
  rw [Bool.and_eq_true] at hp
  obtain ⟨hs, hlen, hall⟩ := fitsQ_of hp.1
  obtain ⟨hll, hlb⟩ := fitsL_lN hp.2
  have hb : isBal s l q = (frees s.js).all fun j => balJ s l (rdAll q) j.toNat := by unfold isBal; rw [hp.1, hp.2]; rfl
  have hnj := hs.nj
  have hfl := freesTo_le s.js s.js.length
  change (frees s.js).length ≤ s.js.length at hfl
  rw [hb, hp.1]
  simp
  refine callP_ro (freeJoints_ro s (by omega)) ?_
  simp
  refine AW_for (fun t : Nat => [(1, .sl (iv l)), (3, .ptr s.c), (7, .sl (fvs (rdAll q))), (25, .sl (iv (frees s.js))), (26, .int .i64 (frees s.js).length), (27, .int .i64 t)]) (fun _ => bl) (fun t => t ≤ (frees s.js).length ∧ ∀ k (h : k < (frees s.js).length), k < t → balJ s l (rdAll q) (frees s.js)[k].toNat = true) (fun t => (frees s.js).length - t) _ 0 ⟨Nat.zero_le _, fun k _ h0 => by omega⟩ ⟨rfl, by simp, Sub.refl _⟩ ?_
  rintro t ⟨ht, hc⟩
  refine AW_run ?_
  simp
  refine ⟨fun h => ?_, fun h => ?_⟩
  · obtain ⟨i, ei, hi⟩ := frees_get s.js t h
    simp [h, ei]
    refine callP_ro (pull_ro s (rdAll q) i hs (rdAll_ok q) (by simpa using hlen)) ?_
    simp
    have b1 := hlb (2 * i) (by omega)
    have b2 := hlb (2 * i + 1) (by omega)
    have w1 : IntKind.i64.wrap (2 * (i : Int)) = 2 * i := i64_in (by omega) (by omega)
    have w2 : IntKind.i64.wrap (2 * (i : Int) + 1) = 2 * i + 1 := i64_in (by omega) (by omega)
    have p1 : 2 * i < l.length := by omega
    have p2 : 2 * i + 1 < l.length := by omega
    have p3 : 2 * (i : Int) < l.length := by omega
    have p4 : 2 * (i : Int) + 1 < l.length := by omega
    have p5 : 0 ≤ 2 * (i : Int) := by omega
    have p6 : 0 ≤ 2 * (i : Int) + 1 := by omega
    have p7 : (2 * (i : Int)).toNat = 2 * i := by omega
    have p8 : (2 * (i : Int) + 1).toNat = 2 * i + 1 := by omega
    have q1 := lN_at p1
    have q2 := lN_at p2
    refine AW_way0 [(1, .sl (iv l)), (3, .ptr s.c), (7, .sl (fvs (rdAll q))), (25, .sl (iv (frees s.js))), (26, .int .i64 (frees s.js).length), (27, .int .i64 t), (10, .int .i64 i), (11, fv (pX s (rdAll q) i)), (12, fv (pY s (rdAll q) i))] _ bl 59 (.bool (!balJ s l (rdAll q) i)) ⟨rfl, by simp, Sub.refl _⟩ rfl ?_ ?_
    · simp [w1, w2, p1, p2, p3, p4, p5, p6, p7, p8]
      rw [← q1]
      refine callP_ro (whole_ro _ (by omega)) ?_
      simp [w1, w2, p1, p2, p3, p4, p5, p6, p7, p8]
      refine callP_ro (add_ro _ _ (pTo_ok _ _ _ _ _) (okQ_int (by omega))) ?_
      simp [w1, w2, p1, p2, p3, p4, p5, p6, p7, p8]
      refine callP_ro (isZero_ro (fX s l (rdAll q) i)) ?_
      simp [w1, w2, p1, p2, p3, p4, p5, p6, p7, p8]
      refine ⟨fun z1 => ?_, fun z1 => ?_⟩
      · simp [balJ, z1]
      rw [← q2]
      refine callP_ro (whole_ro _ (by omega)) ?_
      simp [w1, w2, p1, p2, p3, p4, p5, p6, p7, p8]
      refine callP_ro (add_ro _ _ (pTo_ok _ _ _ _ _) (okQ_int (by omega))) ?_
      simp [w1, w2, p1, p2, p3, p4, p5, p6, p7, p8]
      refine callP_ro (isZero_ro (fY s l (rdAll q) i)) ?_
      simp [balJ, z1]
    cases hbj : balJ s l (rdAll q) i
    · have hno : ((frees s.js).all fun j => balJ s l (rdAll q) j.toNat) = false := by
        rw [List.all_eq_false]
        exact ⟨_, List.getElem_mem h, by rw [ei]; simpa using hbj⟩
      rw [hno]
      simp
      exact retRO [.bool false] 0 (by simp) (by simp [frz]) (Sub.refl _)
    · simp
      simp (disch := omega) [i64_in, loopQ_normal]
      refine ⟨t + 1, ⟨by omega, fun k hk hkt => ?_⟩, by omega, rfl, by simp, Sub.refl _⟩
      rcases Nat.lt_or_ge k t with hlt | hge
      · exact hc k hk hlt
      · obtain rfl : k = t := by omega
        rw [ei]; simpa using hbj
  · have hi2 : t = (frees s.js).length := by omega
    have : (frees s.js).all (fun j => balJ s l (rdAll q) j.toNat) = true := List.all_eq_true.2 fun x hx => by
      obtain ⟨k, hk, rfl⟩ := List.getElem_of_mem hx
      exact hc k hk (by omega)
    rw [this]
    exact retRO [.bool true] 0 (by simp) (by simp [frz]) (Sub.refl _)

/-! ### In the reference -/
def frcL (s : Str) (l : List Int) (q : List RT) (i : Nat) : List RT := if allSome [pX s (rdAll q) i, pY s (rdAll q) i] = true then [ro (fX s l (rdAll q) i), ro (fY s l (rdAll q) i)] else []
def frcB (s : Str) (l : List Int) (q : List RT) (i : Nat) : Bool := allSome [fX s l (rdAll q) i, fY s l (rdAll q) i]
theorem frcB_no {s : Str} {l : List Int} {q : List RT} {i : Nat} (h : allSome [pX s (rdAll q) i, pY s (rdAll q) i] = false) : frcB s l q i = false := by
  unfold frcB fX fY
  generalize pX s (rdAll q) i = x at *
  generalize pY s (rdAll q) i = y at *
  cases x with
  | none => simp [allSome, op2]
  | some a =>
    cases y with
    | none => simp [allSome, op2]
    | some b => simp [allSome] at h
theorem RatFromC_ro (n : Int) (hn : -100 ≤ n ∧ n ≤ 100) : RO Tryz.prog 105 [.int .i64 n] (.agg (ro (some (n : Rat))).c) := RatFromInt_ro n (by omega)
theorem isZ_spec (x : Option Rat) (h : x.isSome = true) : isZ x = decide (sgq x = 0) := by unfold isZ; rw [h]; rfl
theorem rv_two (a b : RT) : rv [a, b] = [a.c, b.c] := rfl
end Go.Proofs.YtmbcofnnibpbeaaGreat.Vm

namespace Go.Proofs.YtmbcofnnibpbeaaGreat.Vm
open Go Go.Proofs
set_option linter.unusedSimpArgs false
set_option linter.unusedVariables false

theorem neg_ro (x : Option Rat) : RO Tryz.prog 114 [fv x] (fv (x.map (- ·))) := by
  cases x with
  | none =>
    refine ro_of2 Tryz.func114 rfl rfl (by rw [Tryz.ntmps114]; simp) fun bl => ?_
    rw [Tryz.ntmps114, Tryz.results114]
    refine AW_run ?_
    simp [fv]
    exact retRO0 (by simp) rfl rfl
  | some q =>
    have hop := opposite_ro q.num
    rw [biC_def, biC_def, Int.natAbs_neg] at hop
    refine ro_of2 Tryz.func114 rfl rfl (by rw [Tryz.ntmps114]; simp) fun bl => ?_
    rw [Tryz.ntmps114, Tryz.results114]
    refine AW_run ?_
    rw [show fv (some q) = .ptr (rq q).c from rfl, rqc_def, show fv ((some q).map (- ·)) = .ptr [.bool (decide (-q.num < 0)), .sl (iv (lim q.num.natAbs)), .sl (iv (lim q.den))] by
      show V.ptr (rq (-q)).c = _
      rw [rqc_def]
      show V.ptr [.bool (decide (-q.num < 0)), .sl (iv (lim (-q.num).natAbs)), .sl (iv (lim q.den))] = _
      rw [Int.natAbs_neg]]
    simp
    refine AW_mixedB mixedO bl (Sub.refl _) [0, 1, 2, 3, 4, 5, 6, 7, 8] 3 (by kernel_rfl) ?_
    simp
    refine hcQ_ro hop ?_
    simp
    refine DAny_one (i := 9) (by kernel_rfl) rfl rfl ?_
    simp
    refine DAny_one (i := 10) (by kernel_rfl) rfl rfl ?_
    simp
    intro g hg0 hg
    refine ⟨by simp [hg], DAny_one (i := 11) (by kernel_rfl) rfl rfl ?_⟩
    simp
    refine ⟨by simp [hg], DAny_done (by kernel_rfl) ?_⟩
    simp
    refine retRO [.loc g 3 0 0] 1 (by simp) ?_ (by simp [hg])
    show frz _ 1 (.loc g 3 0 0) = _
    rw [frz_loc0 (e := [.bool (decide (0 < q.num)), .sl (iv (lim q.num.natAbs)), .sl (iv (lim q.den))]) (by simp [dropB, hg])]
    rfl

def reOk (s : Str) (l : List Int) (q : List RT) (j : Int) : Bool := (fitsQ s q && fitsL s.js l) && ((decide (0 ≤ j) && decide (j < s.js.length)) && (s.js.getD j.toNat default).fixed)
def reQs (s : Str) (l : List Int) (q : List RT) (j : Int) : List (Option Rat) := if reOk s l q j = true then [(fX s l (rdAll q) j.toNat).map (- ·), (fY s l (rdAll q) j.toNat).map (- ·)] else [none]
theorem reQs_ok (s : Str) (l : List Int) (q : List RT) (j : Int) : okL (reQs s l q j) ∧ (reQs s l q j).length ≤ 24 := by
  unfold reQs; split
  · refine ⟨fun x hx => ?_, by simp⟩
    rcases List.mem_cons.1 hx with rfl | hx
    · exact okQ_neg (fX_ok _ _ _ _)
    · obtain rfl : x = _ := by simpa using hx
      exact okQ_neg (fY_ok _ _ _ _)
  · exact ⟨okL_none, by simp⟩
end Go.Proofs.YtmbcofnnibpbeaaGreat.Vm

namespace Go.Proofs.YtmbcofnnibpbeaaGreat.Vm
open Go Go.Proofs
set_option linter.unusedSimpArgs false
set_option linter.unusedVariables false

/-- The number of free joints before joint i. -/
def idx (js : List J) (i : Nat) : Nat := (freesTo js i).length
def fxd (js : List J) (i : Nat) : Bool := (js.getD i default).fixed
theorem idx_get (js : List J) : ∀ n i, i < n → fxd js i = false → (freesTo js n)[idx js i]? = some (i : Int) := by
  intro n
  induction n with
  | zero => intro i h; omega
  | succ n ih =>
    intro i hi hf
    rw [freesTo_succ]
    by_cases h : i < n
    · have h1 := ih i h hf
      have hl : idx js i < (freesTo js n).length := by
        rcases Nat.lt_or_ge (idx js i) (freesTo js n).length with h2 | h2
        · exact h2
        · rw [List.getElem?_eq_none h2] at h1; cases h1
      rw [List.getElem?_append_left hl]; exact h1
    · obtain rfl : i = n := by omega
      unfold fxd at hf
      rw [hf, show idx js i = (freesTo js i).length from rfl, List.getElem?_append_right (Nat.le_refl _)]
      simp
theorem idx_of (js : List J) : ∀ n t, t < (freesTo js n).length → ∃ i, i < n ∧ fxd js i = false ∧ idx js i = t ∧ (freesTo js n)[t]? = some (i : Int) := by
  intro n
  induction n with
  | zero => intro t h; simp [freesTo] at h
  | succ n ih =>
    intro t ht
    by_cases h : t < (freesTo js n).length
    · obtain ⟨i, h1, h2, h3, h4⟩ := ih t h
      exact ⟨i, by omega, h2, h3, by rw [freesTo_succ, List.getElem?_append_left h]; exact h4⟩
    · rw [freesTo_succ] at ht ⊢
      cases hf : (js.getD n default).fixed
      · rw [hf] at ht
        rw [List.length_append] at ht
        simp at ht
        obtain rfl : t = (freesTo js n).length := by omega
        exact ⟨n, by omega, hf, rfl, by rw [List.getElem?_append_right (Nat.le_refl _)]; simp⟩
      · rw [hf] at ht
        simp at ht; omega
theorem idx_inj {js : List J} {i k : Nat} (hi : i < js.length) (hk : k < js.length) (fi : fxd js i = false) (fk : fxd js k = false) (h : idx js i = idx js k) : i = k := by
  have h1 := idx_get js js.length i hi fi
  have h2 := idx_get js js.length k hk fk
  rw [h] at h1
  rw [h1] at h2
  have := Option.some.inj h2
  omega
theorem idx_ltf {js : List J} {i : Nat} (hi : i < js.length) (fi : fxd js i = false) : idx js i < (frees js).length := by
  have h1 := idx_get js js.length i hi fi
  rcases Nat.lt_or_ge (idx js i) (frees js).length with h2 | h2
  · exact h2
  · rw [List.getElem?_eq_none (show (freesTo js js.length).length ≤ _ from h2)] at h1; cases h1
theorem frees_at (js : List J) (t : Nat) (h : t < (frees js).length) : ∃ i : Nat, (frees js)[t] = i ∧ i < js.length ∧ fxd js i = false ∧ idx js i = t := by
  obtain ⟨i, h1, h2, h3, h4⟩ := idx_of js js.length t h
  refine ⟨i, ?_, h1, h2, h3⟩
  have : (frees js)[t]? = some (i : Int) := h4
  rw [List.getElem?_eq_getElem h] at this
  exact Option.some.inj this

/-- The list of displacements after t free joints. -/
def dAt (js : List J) (d : List (Option Rat)) (t p : Nat) : Option Rat := if fxd js (p / 2) = true then some 0 else if idx js (p / 2) < t then d.getD (2 * idx js (p / 2) + p % 2) none else some 0
def dsp (js : List J) (d : List (Option Rat)) (t : Nat) : List (Option Rat) := (List.range (2 * js.length)).map (dAt js d t)
@[simp] theorem dsp_length (js : List J) (d : List (Option Rat)) (t : Nat) : (dsp js d t).length = 2 * js.length := by simp [dsp]
theorem dsp_get (js : List J) (d : List (Option Rat)) (t p : Nat) (h : p < (dsp js d t).length) : (dsp js d t)[p] = dAt js d t p := by simp [dsp]
theorem dAt_zero (js : List J) (d : List (Option Rat)) (p : Nat) : dAt js d 0 p = some 0 := by unfold dAt; split <;> simp
theorem dsp_step (js : List J) (d : List (Option Rat)) (t i : Nat) (hi : i < js.length) (hf : fxd js i = false) (ht : idx js i = t) : ((dsp js d t).set (2 * i) (d.getD (2 * t) none)).set (2 * i + 1) (d.getD (2 * t + 1) none) = dsp js d (t + 1) := by
  apply List.ext_getElem (by simp)
  intro p h1 h2
  have hp : p < 2 * js.length := by simpa using h2
  rw [List.getElem_set, List.getElem_set, dsp_get, dsp_get]
  by_cases e1 : 2 * i + 1 = p
  · subst e1
    rw [if_pos rfl]
    unfold dAt
    rw [show (2 * i + 1) / 2 = i by omega, show (2 * i + 1) % 2 = 1 by omega, hf, ht]
    simp
  rw [if_neg e1]
  by_cases e2 : 2 * i = p
  · subst e2
    rw [if_pos rfl]
    unfold dAt
    rw [show (2 * i) / 2 = i by omega, show (2 * i) % 2 = 0 by omega, hf, ht]
    simp
  rw [if_neg e2]
  unfold dAt
  cases hq : fxd js (p / 2)
  · have hne : idx js (p / 2) ≠ t := fun h => by
      have := idx_inj (i := p / 2) (k := i) (by omega) hi hq hf (by rw [h, ht])
      omega
    by_cases h3 : idx js (p / 2) < t
    · rw [if_pos h3, if_pos (show idx js (p / 2) < t + 1 by omega)]
    · rw [if_neg h3, if_neg (show ¬ idx js (p / 2) < t + 1 by omega)]
  · rfl
def dspF (js : List J) (d : List (Option Rat)) : List (Option Rat) := dsp js d (frees js).length
@[simp] theorem dspF_length (js : List J) (d : List (Option Rat)) : (dspF js d).length = 2 * js.length := dsp_length _ _ _
def dX (js : List J) (d : List (Option Rat)) (i : Nat) : Option Rat := if fxd js i = true then some 0 else d.getD (2 * idx js i) none
def dY (js : List J) (d : List (Option Rat)) (i : Nat) : Option Rat := if fxd js i = true then some 0 else d.getD (2 * idx js i + 1) none
theorem dspF_X (js : List J) (d : List (Option Rat)) (i : Nat) (hi : i < js.length) (h : 2 * i < (dspF js d).length) : (dspF js d)[2 * i] = dX js d i := by
  unfold dspF at h ⊢
  rw [dsp_get]
  unfold dAt dX
  rw [show (2 * i) / 2 = i by omega, show (2 * i) % 2 = 0 by omega]
  cases hf : fxd js i
  · have := idx_ltf hi hf
    simp [this]
  · rfl
theorem dspF_Y (js : List J) (d : List (Option Rat)) (i : Nat) (hi : i < js.length) (h : 2 * i + 1 < (dspF js d).length) : (dspF js d)[2 * i + 1] = dY js d i := by
  unfold dspF at h ⊢
  rw [dsp_get]
  unfold dAt dY
  rw [show (2 * i + 1) / 2 = i by omega, show (2 * i + 1) % 2 = 1 by omega]
  cases hf : fxd js i
  · have := idx_ltf hi hf
    simp [this]
  · rfl
theorem getD_ok {d : List (Option Rat)} (hd : okL d) (i : Nat) : okQ (d.getD i none) := by
  rcases Nat.lt_or_ge i d.length with h | h
  · rw [getD_at _ _ _ h]; exact hd _ (List.getElem_mem h)
  · rw [List.getD_eq_getElem?_getD, List.getElem?_eq_none h]; exact fun _ e => by cases e
theorem okQ_zero : okQ (some 0) := fun x h => by cases h; exact fits_zero
theorem dX_ok (js : List J) {d : List (Option Rat)} (hd : okL d) (i : Nat) : okQ (dX js d i) := by
  unfold dX; split
  · exact okQ_zero
  · exact getD_ok hd _
theorem dY_ok (js : List J) {d : List (Option Rat)} (hd : okL d) (i : Nat) : okQ (dY js d i) := by
  unfold dY; split
  · exact okQ_zero
  · exact getD_ok hd _

theorem two0 (k : Nat) : 0 ≤ 2 * (k : Int) := by omega
theorem two1 (k : Nat) : 0 ≤ 2 * (k : Int) + 1 := by omega
theorem twoN0 (k : Nat) : (2 * (k : Int)).toNat = 2 * k := by omega
theorem twoN1 (k : Nat) : (2 * (k : Int) + 1).toNat = 2 * k + 1 := by omega

/-! ### The program -/
theorem loadsOf_ro (d : List RT) (n : Nat) (hd : fitQ d 1048576) : RO Tryz.prog 130 [.sl (rv d), .int .i64 n] (.tup [.sl (fvs (if (decide (d.length = n) && allOk d) = true then rdAll d else [])), .bool (decide (d.length = n) && allOk d)]) := by
  generalize hz : (decide (d.length = n) && allOk d) = z
  refine ro_of2 Tryz.func130 rfl rfl (by rw [Tryz.ntmps130]; simp) fun bl => ?_
  rw [Tryz.ntmps130, Tryz.results130]
  refine AW_run ?_
  simp
  refine ⟨fun h => ?_, fun h => ?_⟩
  · have e : decide (d.length = n) = false := by simp; omega
    rw [e] at hz
    obtain rfl : z = false := by rw [← hz]; rfl
    exact retRO [.nils, .bool false] 1 (by simp) (by simp [frz, fvs, V.cl]) (Sub.refl _)
  · have e : decide (d.length = n) = true := by simp; omega
    rw [e, Bool.true_and] at hz
    subst hz
    refine callP_ro (loads_ro d hd) ?_
    simp
    exact retRO [.sl (fvs (if allOk d = true then rdAll d else [])), .bool (allOk d)] 1 (by simp) (by simp [frz]) (Sub.refl _)

def movOk (s : Str) (d : List RT) : Bool := (sOk s && decide (d.length = 2 * (frees s.js).length)) && allOk d
theorem displacements_ro (s : Str) (d : List RT) (hj : s.js.length ≤ 140737488351232) (hm : s.ms.length ≤ 140737488351232) (hn : ∀ j, j ∈ s.js → j.name.size ≤ 140737488351232) (hd : fitQ d 1048576) : RO Tryz.prog 73 [.ptr s.c, .sl (rv d)] (.tup [.sl (fvs (if movOk s d = true then dspF s.js (rdAll d) else [])), .bool (movOk s d)]) := by
  have w0 := whole_ro 0 (by omega)
  rw [zero_cast] at w0
  refine ro_of2 Tryz.func73 rfl rfl (by rw [Tryz.ntmps73]; simp) fun bl => ?_
  rw [Tryz.ntmps73, Tryz.results73]
  refine AW_run ?_
  simp [Str.c]
  refine callP_ro (impl_StructureOk_ro s hj hm hn) ?_
  cases hk : sOk s
  · have hz : movOk s d = false := by unfold movOk; rw [hk]; rfl
    rw [hz]
    simp
    exact retRO [.nils, .bool false] 1 (by simp) (by simp [frz, fvs, V.cl]) (Sub.refl _)
  have hs := sOk_of hk
  have hnj := hs.nj
  have hfl := freesTo_le s.js s.js.length
  change (frees s.js).length ≤ s.js.length at hfl
  have hz : movOk s d = (decide (d.length = 2 * (frees s.js).length) && allOk d) := by unfold movOk; rw [hk]; rfl
  have hL := loadsOf_ro d (2 * (frees s.js).length) hd
  rw [← hz] at hL
  have e2 : ((2 * (frees s.js).length : Nat) : Int) = 2 * ((frees s.js).length : Int) := by omega
  rw [e2] at hL
  have w2 : IntKind.i64.wrap (2 * ((frees s.js).length : Int)) = 2 * ((frees s.js).length : Int) := i64_in (by omega) (by omega)
  obtain ⟨n, en⟩ : ∃ n : Nat, n = 2 * s.js.length := ⟨_, rfl⟩
  have wn : IntKind.i64.wrap (2 * (s.js.length : Int)) = (n : Int) := by rw [i64_in (by omega) (by omega)]; omega
  simp
  refine callP_ro (freeJoints_ro s (by omega)) ?_
  simp
  rw [w2]
  refine callP_ro hL ?_
  cases hp : movOk s d
  · simp
    exact retRO [.nils, .bool false] 1 (by simp) (by simp [frz, fvs, V.cl]) (Sub.refl _)
  rw [hp] at hz
  have hlen : d.length = 2 * (frees s.js).length := by have := hz.symm; simp at this; exact this.1
  simp
  rw [wn]
  simp
  refine ⟨by omega, by unfold maxLen; omega, fun g hg0 hg => ?_⟩
  have hdl : (rdAll d).length = 2 * (frees s.js).length := by simpa using hlen
  generalize hD : rdAll d = D at *
  refine AW_for (fun i : Nat => [(6, .sl (iv (frees s.js))), (7, .sl (fvs D)), (9, .lsl g 1 0 n), (38, .int .i64 n), (39, .int .i64 i)]) (fun i => upd bl g (some ⟨1, part (fvs (dsp s.js D 0)) [.nilp] i⟩)) (fun i => i ≤ n) (fun i => n - i) _ 0 (Nat.zero_le _) ⟨rfl, by simp, sub_eq (by simp [en])⟩ ?_
  intro i hi
  refine AW_run ?_
  simp
  refine ⟨fun h => ?_, fun h => ?_⟩
  · have hi' : i < (fvs (dsp s.js D 0)).length := by simp; omega
    have h9 : i < n := by omega
    have hpl : i < (part (fvs (dsp s.js D 0)) [.nilp] i).length := by simp [part]; omega
    have hpi : (part (fvs (dsp s.js D 0)) [.nilp] i)[i]? = some [.nilp] := part_get _ _ _ hi'
    have hpe : (part (fvs (dsp s.js D 0)) [.nilp] i)[i] = [.nilp] := by
      rw [List.getElem?_eq_getElem hpl] at hpi; exact Option.some.inj hpi
    have hset : (part (fvs (dsp s.js D 0)) [.nilp] i).set i [fv (some 0)] = part (fvs (dsp s.js D 0)) [.nilp] (i + 1) := by
      rw [part_set _ _ _ hi']
      simp [dsp_get, dAt_zero]
    simp [h]
    refine callP_ro w0 ?_
    simp [h, h9, hpl, hpe]
    simp (disch := omega) [i64_in, loopQ_normal]
    refine ⟨i + 1, by omega, by omega, rfl, by simp, ?_⟩
    intro z y hz
    simp only [upd_apply, hset] at hz ⊢
    grind
  · have hi2 : n = i := by omega
    subst hi2
    rw [part_all _ _ _ (by simp [en])]
    simp
    refine AW_for (fun t : Nat => [(7, .sl (fvs D)), (9, .lsl g 1 0 n), (47, .sl (iv (frees s.js))), (48, .int .i64 (frees s.js).length), (49, .int .i64 t)]) (fun t => upd bl g (some ⟨1, fvs (dsp s.js D t)⟩)) (fun t => t ≤ (frees s.js).length) (fun t => (frees s.js).length - t) _ 0 (Nat.zero_le _) ⟨rfl, by simp, sub_eq (by simp)⟩ ?_
    intro t ht
    refine AW_run ?_
    simp
    refine ⟨fun h => ?_, fun h => ?_⟩
    · obtain ⟨i, ei, hi, hf, hx⟩ := frees_at s.js t h
      have w1 : IntKind.i64.wrap (2 * (i : Int)) = 2 * i := i64_in (by omega) (by omega)
      have w2 : IntKind.i64.wrap (2 * (i : Int) + 1) = 2 * i + 1 := i64_in (by omega) (by omega)
      have w3 : IntKind.i64.wrap (2 * (t : Int)) = 2 * t := i64_in (by omega) (by omega)
      have w4 : IntKind.i64.wrap (2 * (t : Int) + 1) = 2 * t + 1 := i64_in (by omega) (by omega)
      have p1 : 2 * i < n := by omega
      have p2 : 2 * i + 1 < n := by omega
      have p3 : 2 * t < D.length := by omega
      have p4 : 2 * t + 1 < D.length := by omega
      have p5 : 2 * (i : Int) < n := by omega
      have p6 : 2 * (i : Int) + 1 < n := by omega
      have p7 : 2 * (t : Int) < D.length := by omega
      have p8 : 2 * (t : Int) + 1 < D.length := by omega
      have p9 : 2 * i < 2 * s.js.length := by omega
      have p10 : 2 * i + 1 < 2 * s.js.length := by omega
      have hst := dsp_step s.js D t i hi hf hx
      rw [getD_at _ _ _ p3, getD_at _ _ _ p4] at hst
      have hsv : ((fvs (dsp s.js D t)).set (2 * i) [fv D[2 * t]]).set (2 * i + 1) [fv D[2 * t + 1]] = fvs (dsp s.js D (t + 1)) := by
        rw [← hst]; simp [fvs, List.map_set]
      simp [h, ei]
      refine AW_mixedB mixedO bl (by simp [hg]) [0, 1, 2, 3, 4, 5, 6, 7, 8, 9, 10, 11, 12, 13, 14, 15, 16, 17, 18] 3 (by kernel_rfl) ?_
      simp [w1, w2, w3, w4, p1, p2, p3, p4, p5, p6, p7, p8, p9, p10, two0, two1, twoN0, twoN1]
      refine DAny_one (i := 19) (by kernel_rfl) rfl rfl ?_
      simp [w1, w2, w3, w4, p1, p2, p3, p4, p5, p6, p7, p8, p9, p10, two0, two1, twoN0, twoN1]
      refine ⟨by simp [hg], DAny_one (i := 20) (by kernel_rfl) rfl rfl ?_⟩
      simp [w1, w2, w3, w4, p1, p2, p3, p4, p5, p6, p7, p8, p9, p10, two0, two1, twoN0, twoN1]
      refine ⟨by simp [hg], DAny_one (i := 21) (by kernel_rfl) rfl rfl ?_⟩
      simp [w1, w2, w3, w4, p1, p2, p3, p4, p5, p6, p7, p8, p9, p10, two0, two1, twoN0, twoN1]
      refine ⟨by simp [hg], DAny_done (by kernel_rfl) ?_⟩
      simp (disch := omega) [i64_in, loopQ_normal]
      refine ⟨t + 1, by omega, by omega, rfl, by simp, ?_⟩
      intro z y hz
      simp only [upd_apply, hsv] at hz ⊢
      grind
    · have hi2 : t = (frees s.js).length := by omega
      subst hi2
      refine retRO [.lsl g 1 0 n, .bool true] 2 (by simp) (frz_tup2 (frz_slice (sz := 1) (n := n) hg0 hg (els := fvs (dspF s.js D)) ?_ (by simp [en]) (fvs_cl _))) (by simp [hg])
      simp [dspF]
end Go.Proofs.YtmbcofnnibpbeaaGreat.Vm

namespace Go.Proofs.YtmbcofnnibpbeaaGreat.Vm
open Go Go.Proofs
set_option linter.unusedSimpArgs false
set_option linter.unusedVariables false

theorem vecX_le (s : Str) (k : Int) : -100 ≤ vecX s k ∧ vecX s k ≤ 100 := by
  unfold vecX
  split
  · rename_i h
    simp at h
    have hs := sOk_of h.2
    obtain ⟨⟨a1, a2⟩, ⟨b1, b2⟩⟩ := hs.ix _ (mat_mem h.1.1 h.1.2)
    have ca := hs.at a1 a2
    have cb := hs.at b1 b2
    unfold vx
    omega
  · omega
theorem vecY_le (s : Str) (k : Int) : -100 ≤ vecY s k ∧ vecY s k ≤ 100 := by
  unfold vecY
  split
  · rename_i h
    simp at h
    have hs := sOk_of h.2
    obtain ⟨⟨a1, a2⟩, ⟨b1, b2⟩⟩ := hs.ix _ (mat_mem h.1.1 h.1.2)
    have ca := hs.at a1 a2
    have cb := hs.at b1 b2
    unfold vy
    omega
  · omega
def sqOf (s : Str) (k : Int) : Int := IntKind.i64.wrap (IntKind.i64.wrap (vecX s k * vecX s k) + IntKind.i64.wrap (vecY s k * vecY s k))
end Go.Proofs.YtmbcofnnibpbeaaGreat.Vm

namespace Go.Proofs.YtmbcofnnibpbeaaGreat.Vm
open Go Go.Proofs
set_option linter.unusedSimpArgs false
set_option linter.unusedVariables false

/-- A number of a load. -/
def lat (l : List Int) (i : Nat) : Int := l.getD i 0
theorem iv_at {l : List Int} {i : Nat} (h : i < l.length) : (iv l)[i]? = some [.int .i64 (lat l i)] := by simp [lat, h]
structure LOk (s : Str) (l : List Int) : Prop where
  sok : SOk s
  n : l.length = 2 * s.js.length
  f : ∀ i, i < l.length → -100 ≤ lat l i ∧ lat l i ≤ 100
theorem fitsL_of {js : List J} {l : List Int} (h : fitsL js l = true) : l.length = 2 * js.length ∧ ∀ i, i < l.length → -100 ≤ lat l i ∧ lat l i ≤ 100 := by
  unfold fitsL at h
  simp only [Bool.and_eq_true, decide_eq_true_eq] at h
  refine ⟨h.1, fun i hi => ?_⟩
  have := List.all_eq_true.1 h.2 l[i] (List.getElem_mem hi)
  simp [forceOk] at this
  simpa [lat, hi] using this
theorem lOk_of {s : Str} {l : List Int} (h : lOk s l = true) : LOk s l := by
  unfold lOk at h
  simp only [Bool.and_eq_true] at h
  obtain ⟨h1, h2⟩ := fitsL_of h.2
  exact ⟨sOk_of h.1, h1, h2⟩

def sumX (l : List Int) : Nat → Int
  | 0 => 0
  | n + 1 => sumX l n + lat l (2 * n)
def sumY (l : List Int) : Nat → Int
  | 0 => 0
  | n + 1 => sumY l n + lat l (2 * n + 1)
theorem sumX_le {s : Str} {l : List Int} (h : LOk s l) : ∀ n, n ≤ s.js.length → -(100 * n : Int) ≤ sumX l n ∧ sumX l n ≤ 100 * n
  | 0, _ => by simp [sumX]
  | n + 1, hn => by
    have := sumX_le h n (by omega)
    have := h.f (2 * n) (by have := h.n; omega)
    simp only [sumX]; omega
theorem sumY_le {s : Str} {l : List Int} (h : LOk s l) : ∀ n, n ≤ s.js.length → -(100 * n : Int) ≤ sumY l n ∧ sumY l n ≤ 100 * n
  | 0, _ => by simp [sumY]
  | n + 1, hn => by
    have := sumY_le h n (by omega)
    have := h.f (2 * n + 1) (by have := h.n; omega)
    simp only [sumY]; omega
def totX (s : Str) (l : List Int) : Int := if lOk s l = true then sumX l s.js.length else 0
def totY (s : Str) (l : List Int) : Int := if lOk s l = true then sumY l s.js.length else 0

def momTo (s : Str) (l : List Int) (x y : Int) : Nat → Int
  | 0 => 0
  | n + 1 => momTo s l x y n + ((jat s.js n).x - x) * lat l (2 * n + 1) - ((jat s.js n).y - y) * lat l (2 * n)
theorem mul_le {a b p q : Int} (ha : -p ≤ a ∧ a ≤ p) (hb : -q ≤ b ∧ b ≤ q) : -(p * q) ≤ a * b ∧ a * b ≤ p * q := by
  have hp : 0 ≤ p := by omega
  have hq : 0 ≤ q := by omega
  have h1 : a.natAbs ≤ p.natAbs := by omega
  have h2 : b.natAbs ≤ q.natAbs := by omega
  have h3 : (a * b).natAbs ≤ (p * q).natAbs := by rw [Int.natAbs_mul, Int.natAbs_mul]; exact Nat.mul_le_mul h1 h2
  have h4 : 0 ≤ p * q := Int.mul_nonneg hp hq
  omega
theorem mom_step {s : Str} {l : List Int} {x y : Int} (h : LOk s l) (hx : -1000 ≤ x ∧ x ≤ 1000) (hy : -1000 ≤ y ∧ y ≤ 1000) {n : Nat} (hn : n < s.js.length) :
    (-1050 ≤ (jat s.js n).x - x ∧ (jat s.js n).x - x ≤ 1050) ∧ (-1050 ≤ (jat s.js n).y - y ∧ (jat s.js n).y - y ≤ 1050) ∧
    (-105000 ≤ ((jat s.js n).x - x) * lat l (2 * n + 1) ∧ ((jat s.js n).x - x) * lat l (2 * n + 1) ≤ 105000) ∧ (-105000 ≤ ((jat s.js n).y - y) * lat l (2 * n) ∧ ((jat s.js n).y - y) * lat l (2 * n) ≤ 105000) := by
  have c := h.sok.at (n := n) (by omega) (by omega)
  have f1 := h.f (2 * n) (by have := h.n; omega)
  have f2 := h.f (2 * n + 1) (by have := h.n; omega)
  have a1 : -1050 ≤ (jat s.js n).x - x ∧ (jat s.js n).x - x ≤ 1050 := by omega
  have a2 : -1050 ≤ (jat s.js n).y - y ∧ (jat s.js n).y - y ≤ 1050 := by omega
  have m1 := mul_le a1 f2
  have m2 := mul_le a2 f1
  refine ⟨a1, a2, ?_, ?_⟩ <;> omega
theorem mom_le {s : Str} {l : List Int} {x y : Int} (h : LOk s l) (hx : -1000 ≤ x ∧ x ≤ 1000) (hy : -1000 ≤ y ∧ y ≤ 1000) : ∀ n, n ≤ s.js.length → -(210000 * n : Int) ≤ momTo s l x y n ∧ momTo s l x y n ≤ 210000 * n
  | 0, _ => by simp [momTo]
  | n + 1, hn => by
    have := mom_le h hx hy n (by omega)
    have := mom_step h hx hy (n := n) (by omega)
    simp only [momTo]; omega
def momOk (s : Str) (l : List Int) (x y : Int) : Bool := lOk s l && (decide (-1000 ≤ x) && decide (x ≤ 1000)) && (decide (-1000 ≤ y) && decide (y ≤ 1000))
def momOf (s : Str) (l : List Int) (x y : Int) : Int := if momOk s l x y = true then momTo s l x y s.js.length else 0
theorem jat_nat {js : List J} {i : Nat} (h : i < js.length) : jat js i = js[i] := by simp [jat, h]

end Go.Proofs.YtmbcofnnibpbeaaGreat.Vm

namespace Go.Proofs.YtmbcofnnibpbeaaGreat.Vm
open Go Go.Proofs
set_option linter.unusedSimpArgs false
set_option linter.unusedVariables false

theorem any_eq (l : List Int) (k : Int) : (l.any fun x => decide (k = x)) = decide (k ∈ l) := by
  rw [Bool.eq_iff_iff]; simp

end Go.Proofs.YtmbcofnnibpbeaaGreat.Vm

namespace Go.Proofs.YtmbcofnnibpbeaaGreat.Vm
open Go Go.Proofs
set_option linter.unusedSimpArgs false
set_option linter.unusedVariables false

/-- The members before n whose numbers are not in a list. -/
def keptTo (ms : List Mb) (l : List Int) (n : Nat) : List Mb := ((List.range n).filter fun (i : Nat) => !decide ((i : Int) ∈ l)).map fun (i : Nat) => ms.getD i default
theorem keptTo_succ (ms : List Mb) (l : List Int) (n : Nat) : keptTo ms l (n + 1) = keptTo ms l n ++ if (n : Int) ∈ l then [] else [ms.getD n default] := by
  unfold keptTo
  rw [List.range_succ, List.filter_append, List.map_append]
  congr 1
  by_cases h : (n : Int) ∈ l <;> simp only [List.filter_cons, List.filter_nil, h] <;> simp
theorem keptTo_le (ms : List Mb) (l : List Int) (n : Nat) : (keptTo ms l n).length ≤ n := by
  unfold keptTo
  rw [List.length_map]
  exact Nat.le_trans (List.length_filter_le _ _) (by simp)
theorem mv_append (a b : List Mb) : mv (a ++ b) = mv a ++ mv b := by simp [mv]
theorem mv_takeall (ns : List Mb) : (mv ns).take ns.length = mv ns := by rw [← mv_length ns, List.take_length]
def without (s : Str) (l : List Int) : Str := ⟨s.js, keptTo s.ms l s.ms.length⟩

end Go.Proofs.YtmbcofnnibpbeaaGreat.Vm

namespace Go.Proofs.YtmbcofnnibpbeaaGreat.Vm
open Go Go.Proofs
set_option linter.unusedSimpArgs false
set_option linter.unusedVariables false

end Go.Proofs.YtmbcofnnibpbeaaGreat.Vm

namespace Go.Proofs.YtmbcofnnibpbeaaGreat.Vm
open Go Go.Proofs
set_option linter.unusedSimpArgs false
set_option linter.unusedVariables false





/-! ### Lists of lists of numbers -/
def ivv (ws : List (List Int)) : List (List V) := ws.map fun w => [.sl (iv w)]
def dII (ws : List (List Int)) : D := .s 1 (ws.map fun w => [fl 1 (iv w)])
@[simp] theorem ivv_length (ws : List (List Int)) : (ivv ws).length = ws.length := by simp [ivv]
@[simp] theorem ivv_getE (ws : List (List Int)) (i : Nat) (h : i < (ivv ws).length) : (ivv ws)[i] = [.sl (iv (ws[i]'(by simpa using h)))] := by simp [ivv]
theorem dII_fz (ws : List (List Int)) : (dII ws).fz = .sl (ivv ws) := by
  unfold dII ivv
  rw [D.fz, fzR_map, List.map_map]
  congr 1
  exact List.map_congr_left fun w _ => by simp
theorem dII_dep (ws : List (List Int)) : (dII ws).dep 2 := by
  unfold dII
  rw [D.dep]
  refine ⟨by omega, ?_⟩
  induction ws with
  | nil => simp [D.depR]
  | cons w ws ih => simp [D.depR, D.depL, fl_dep] at ih ⊢; exact ih
theorem frz_ivv {bl : Int → Option Blk} {ws : List (List Int)} {v : V} {gs : List Int} (h : OwnD bl (dII ws) v gs) (n : Nat) : frz bl (n + 2) v = some (.sl (ivv ws)) := by
  have hd : (dII ws).dep (n + 2) := by
    unfold dII
    rw [D.dep]
    refine ⟨by omega, ?_⟩
    clear h
    induction ws with
    | nil => simp [D.depR]
    | cons w ws ih => simp [D.depR, D.depL, fl_dep] at ih ⊢; exact ih
  rw [h.frz hd, dII_fz]


end Go.Proofs.YtmbcofnnibpbeaaGreat.Vm

namespace Go.Proofs.YtmbcofnnibpbeaaGreat.Vm
open Go Go.Proofs
set_option linter.unusedSimpArgs false
set_option linter.unusedVariables false

def rowX (s : Str) (j : Int) : List Int := s.ms.map (eqX s j)
def rowY (s : Str) (j : Int) : List Int := s.ms.map (eqY s j)
def eqRows (s : Str) : List (List Int) := (frees s.js).flatMap fun j => [rowX s j, rowY s j]
def eqTo (s : Str) (n : Nat) : List (List Int) := ((frees s.js).take n).flatMap fun j => [rowX s j, rowY s j]
theorem eqTo_succ (s : Str) (n : Nat) (h : n < (frees s.js).length) : eqTo s (n + 1) = eqTo s n ++ [rowX s (frees s.js)[n], rowY s (frees s.js)[n]] := by
  unfold eqTo
  rw [List.take_add_one, List.getElem?_eq_getElem h, List.flatMap_append]
  simp
theorem eqTo_length (s : Str) : ∀ n, n ≤ (frees s.js).length → (eqTo s n).length = 2 * n
  | 0, _ => by simp [eqTo]
  | n + 1, h => by
    rw [eqTo_succ s n (by omega), List.length_append, eqTo_length s n (by omega)]
    simp; omega
@[simp] theorem rowX_length (s : Str) (j : Int) : (rowX s j).length = s.ms.length := by simp [rowX]
@[simp] theorem rowY_length (s : Str) (j : Int) : (rowY s j).length = s.ms.length := by simp [rowY]
theorem mat_nat {s : Str} {k : Nat} (h : k < s.ms.length) : mat s k = s.ms[k] := by simp [mat, h]
theorem v_le {s : Str} (hs : SOk s) {m : Mb} (hm : m ∈ s.ms) : (-100 ≤ vx s m ∧ vx s m ≤ 100) ∧ (-100 ≤ vy s m ∧ vy s m ≤ 100) := by
  obtain ⟨⟨a1, a2⟩, ⟨b1, b2⟩⟩ := hs.ix _ hm
  have ca := hs.at a1 a2
  have cb := hs.at b1 b2
  unfold vx vy
  omega

structure GrowG where
  i : Nat
  g : Int
  els : List (List V)
  gs : List Int
  b : Int → Option Blk

theorem part_next (xs : List (List V)) (z : List V) (i : Nat) (h : i < xs.length) (hz : xs[i] = z) : part xs z i = part xs z (i + 1) := by
  rw [← part_set xs z i h z hz.symm]
  have := part_get xs z i h
  apply List.ext_getElem?
  intro j
  rw [List.getElem?_set]
  split
  · rename_i e; subst e; rw [if_pos (by rw [part_length]; exact h)]; exact this
  · rfl

def eqInv (bl : Int → Option Blk) (s : Str) (p : GrowG) : Prop :=
  p.i ≤ (frees s.js).length ∧ p.b p.g = some ⟨1, p.els⟩ ∧ p.els.length = 2 * p.i ∧ OwnR p.b 1 ((eqTo s p.i).map fun w => [fl 1 (iv w)]) p.els p.gs ∧ p.g ∉ p.gs ∧ bl p.g = none ∧ (∀ x, x ∈ p.gs → bl x = none) ∧ Sub bl p.b ∧ (p.g < 0 → p.els = [])

theorem eqInv_next {bl : Int → Option Blk} {s : Str} {i : Nat} {g : Int} {els : List (List V)} {gs : List Int} {b : Int → Option Blk} (H : eqInv bl s ⟨i, g, els, gs, b⟩) (h : i < (frees s.js).length)
    {ga gb gp gn : Int} (hga : 0 ≤ ga) (hba : b ga = none) (hgb : 0 ≤ gb) (hab : ¬gb = ga) (hbb : b gb = none) (hpa : ¬gp = ga) (hpb : ¬gp = gb) (hbp : b gp = none) (hgn : 0 ≤ gn)
    (hbn : ¬gn = g → ¬gn = gp ∧ ¬gn = gb ∧ ¬gn = ga ∧ b gn = none) :
    eqInv bl s ⟨i + 1, gn, els ++ [[.lsl ga 1 0 s.ms.length]] ++ [[.lsl gb 1 0 s.ms.length]], gs ++ [ga] ++ [gb],
      upd (rem (upd (upd (upd b ga (some ⟨1, iv (rowX s (frees s.js)[i])⟩)) gb (some ⟨1, iv (rowY s (frees s.js)[i])⟩)) gp (some ⟨1, [[.lsl ga 1 0 s.ms.length], [.lsl gb 1 0 s.ms.length]]⟩)) g) gn
        (some ⟨1, els.take (2 * i) ++ [[.lsl ga 1 0 s.ms.length], [.lsl gb 1 0 s.ms.length]]⟩)⟩ := by
  obtain ⟨hi, hb, hel, ho, hn, hg, hf, hsb, hneg⟩ := H
  simp only at hi hb hel ho hn hg hf hsb hneg
  have nga : ga ≠ g := fun e => by rw [e, hb] at hba; cases hba
  have ngb : gb ≠ g := fun e => by rw [e, hb] at hbb; cases hbb
  have ngp : gp ≠ g := fun e => by rw [e, hb] at hbp; cases hbp
  have fa := fresh_of hsb hba
  have fb := fresh_of hsb hbb
  have fp := fresh_of hsb hbp
  have na : gn ≠ ga := fun e => by
    by_cases c : gn = g
    · exact nga (e.symm.trans c)
    · exact (hbn c).2.2.1 e
  have nb : gn ≠ gb := fun e => by
    by_cases c : gn = g
    · exact ngb (e.symm.trans c)
    · exact (hbn c).2.1 e
  have fn : bl gn = none := by
    by_cases c : gn = g
    · rw [c]; exact hg
    · exact fresh_of hsb (hbn c).2.2.2
  have nn : gn ∉ gs := by
    by_cases c : gn = g
    · rw [c]; exact hn
    · exact ho.not (hbn c).2.2.2
  have key : ∀ (B : Int → Option Blk) (u v w z : Option Blk), B = upd (rem (upd (upd (upd b ga u) gb v) gp w) g) gn z → ∀ x y, x ≠ g → x ≠ gn → b x = some y → B x = some y := by
    intro B u v w z hB x y c1 c2 hx
    have c3 : x ≠ ga := fun e => by rw [e, hba] at hx; cases hx
    have c4 : x ≠ gb := fun e => by rw [e, hbb] at hx; cases hx
    have c5 : x ≠ gp := fun e => by rw [e, hbp] at hx; cases hx
    rw [hB]; simp [c1, c2, c3, c4, c5, hx]
  have vx1 : ∀ xs : List Int, (iv xs).all (fun r => r.all V.cl) = true := fun xs => by simp [iv, V.cl]
  have vx2 : ∀ (xs : List Int) r, r ∈ iv xs → r.length = 1 := fun xs r hr => by
    simp [iv] at hr
    obtain ⟨_, _, rfl⟩ := hr; rfl
  have et : els.take (2 * i) = els := List.take_of_length_le (by omega)
  refine ⟨by simp only; omega, by simp [et], by simp [hel]; omega, ?_, ?_, fn, ?_, ?_, fun e => by simp only at e; omega⟩
  · simp only
    rw [eqTo_succ s i h, List.map_append, show (∀ (A : List (List D)) (x y : List Int), A ++ [x, y].map (fun w => [fl 1 (iv w)]) = A ++ [[fl 1 (iv x)]] ++ [[fl 1 (iv y)]]) from fun A x y => by simp]
    generalize hB : upd (rem (upd (upd (upd b ga (some ⟨1, iv (rowX s (frees s.js)[i])⟩)) gb (some ⟨1, iv (rowY s (frees s.js)[i])⟩)) gp (some ⟨1, [[.lsl ga 1 0 s.ms.length], [.lsl gb 1 0 s.ms.length]]⟩)) g) gn
        (some ⟨1, els.take (2 * i) ++ [[.lsl ga 1 0 s.ms.length], [.lsl gb 1 0 s.ms.length]]⟩) = B
    have o0 := ho.keep fun x hx y hy => key _ _ _ _ _ hB.symm x y (fun e => hn (e ▸ hx)) (fun e => nn (e ▸ hx)) hy
    have oa : OwnD B (fl 1 (iv (rowX s (frees s.js)[i]))) (.lsl ga 1 0 s.ms.length) [ga] := (own_fl (vx1 _) (vx2 _)).2 (.inr ⟨ga, by simp, rfl, by rw [← hB]; simp [Ne.symm na, Ne.symm hpa, Ne.symm hab, nga], by omega⟩)
    have ob : OwnD B (fl 1 (iv (rowY s (frees s.js)[i]))) (.lsl gb 1 0 s.ms.length) [gb] := (own_fl (vx1 _) (vx2 _)).2 (.inr ⟨gb, by simp, rfl, by rw [← hB]; simp [Ne.symm nb, Ne.symm hpb, ngb], by omega⟩)
    refine OwnR.snoc (own_single.2 ob) rfl (by simp) (OwnR.snoc (own_single.2 oa) rfl (by simp) o0 ?_) ?_
    · intro x hx hx2
      rw [List.mem_singleton] at hx2
      exact ho.not hba (hx2 ▸ hx)
    · intro x hx hx2
      rw [List.mem_singleton] at hx2
      subst hx2
      rcases List.mem_append.1 hx with hx | hx
      · exact ho.not hbb hx
      · rw [List.mem_singleton] at hx; exact hab hx
  · simp [nn, na, nb]
  · intro x hx
    simp at hx
    rcases hx with hx | hx | hx
    · exact hf x hx
    · rw [hx]; exact fa
    · rw [hx]; exact fb
  · intro x y hx
    exact key _ _ _ _ _ rfl x y (fun e => by rw [e, hg] at hx; cases hx) (fun e => by rw [e, fn] at hx; cases hx) (hsb x y hx)

set_option maxHeartbeats 2000000 in
theorem equilibrium_nw (s : Str) (hs : SOk s) : NW Tryz.prog 94 [.ptr s.c] (dII (eqRows s)) := by
  have h6 := hs.nj
  have h8 := hs.nm
  have hfr := freesTo_le s.js s.js.length
  change (frees s.js).length ≤ s.js.length at hfr
  refine nw_of Tryz.func94 rfl rfl (by rw [Tryz.ntmps94]; simp) fun bl => ?_
  rw [Tryz.ntmps94, Tryz.results94]
  refine AW_run ?_
  simp
  refine callP_ro (freeJoints_ro s (by omega)) ?_
  simp
  refine AW_ghost 3 1 (by simp) fun g00 hg00 => ?_
  simp at hg00
  refine AW_for (fun p : GrowG => [(0, .ptr s.c), (3, .lsl p.g 1 0 (2 * p.i)), (13, .sl (iv (frees s.js))), (14, .int .i64 (frees s.js).length), (15, .int .i64 p.i)]) (fun p => p.b)
    (eqInv bl s)
    (fun p => (frees s.js).length - p.i) 82 ⟨0, g00, [], [], upd bl g00 (some ⟨1, []⟩)⟩ ⟨Nat.zero_le _, by simp, rfl, by simp [eqTo, OwnR], by simp, hg00, by simp, by simp [hg00], fun _ => rfl⟩ ⟨rfl, by simp, by simp⟩ ?_
  rintro ⟨i, g, els, gs, b⟩ ⟨hi, hb, hel, ho, hn, hg, hf, hsb, hneg⟩
  simp only at hi hb hel ho hn hg hf hsb hneg
  refine AW_run ?_
  simp
  refine ⟨fun h => ?_, fun h => ?_⟩
  · have q := iv_get (frees s.js) i h
    simp [h]
    obtain ⟨j, hj⟩ : ∃ j, (frees s.js)[i] = j := ⟨_, rfl⟩
    rw [hj]
    refine AW_mixed mixedO [0, 1, 2, 3, 4, 6, 7, 8, 9, 10] 4 (by kernel_rfl) ?_
    simp [Str.c]
    refine DAny_two (i := 5) (j := 11) (by kernel_rfl) rfl rfl rfl rfl ?_ ?_
    · simp
      refine ⟨by omega, by unfold maxLen; omega, fun ga hga hba => ⟨by simp [hba], ?_⟩⟩
      refine DAny_two (i := 11) (j := 12) (by kernel_rfl) rfl rfl rfl rfl ?_ ?_
      · simp
        refine ⟨by omega, by unfold maxLen; omega, fun gb hgb hab hbb => ⟨by simp [hba, hbb, hab], ?_⟩⟩
        refine DAny_one (i := 12) (by kernel_rfl) rfl rfl ?_
        simp
        refine ⟨by simp [hba, hbb, hab], DAny_one (i := 13) (by kernel_rfl) rfl rfl ?_⟩
        simp
        refine ⟨by simp [hba, hbb, hab], DAny_done (by kernel_rfl) ?_⟩
        simp [Str.c]
        -- the state behind the region
        have nga : ga ≠ g := fun e => by rw [e, hb] at hba; cases hba
        have ngb : gb ≠ g := fun e => by rw [e, hb] at hbb; cases hbb
        have fa := fresh_of hsb hba
        have fb := fresh_of hsb hbb
        have er : List.replicate s.ms.length [V.int IntKind.i64 0] = part (iv (rowX s j)) [.int .i64 0] 0 := by simp
        have er' : List.replicate s.ms.length [V.int IntKind.i64 0] = part (iv (rowY s j)) [.int .i64 0] 0 := by simp
        refine AW_for (fun k : Nat => [(0, .ptr s.c), (3, .lsl g 1 0 (2 * i)), (5, .int .i64 j), (6, .lsl ga 1 0 s.ms.length), (7, .lsl gb 1 0 s.ms.length), (13, .sl (iv (frees s.js))), (14, .int .i64 (frees s.js).length), (15, .int .i64 i), (34, .sl (mv s.ms)), (35, .int .i64 s.ms.length), (36, .int .i64 k)])
          (fun k => upd (upd b ga (some ⟨1, part (iv (rowX s j)) [.int .i64 0] k⟩)) gb (some ⟨1, part (iv (rowY s j)) [.int .i64 0] k⟩)) (fun k => k ≤ s.ms.length) (fun k => s.ms.length - k) 82 0 (Nat.zero_le _) ⟨rfl, by simp [Str.c], ?_⟩ ?_
        · intro x y hx
          simp only [upd_apply, part_zero, iv_length, rowX_length, rowY_length] at hx ⊢
          grind
        intro k hk
        refine AW_run ?_
        simp
        refine ⟨fun hkl => ?_, fun hkl => ?_⟩
        · have hv := v_le hs (List.getElem_mem hkl)
          have hm : mat s (k : Int) = s.ms[k] := mat_nat hkl
          have hvec := vector_ro s k hs (by omega) (by omega)
          rw [hm] at hvec
          have hx : k < (iv (rowX s j)).length := by simpa using hkl
          have hy : k < (iv (rowY s j)).length := by simpa using hkl
          have w1 : IntKind.i64.wrap ((k : Int) + 1) = k + 1 := i64_in (by omega) (by omega)
          have nx : IntKind.i64.wrap (-vx s s.ms[k]) = -vx s s.ms[k] := i64_in (by omega) (by omega)
          have ny : IntKind.i64.wrap (-vy s s.ms[k]) = -vy s s.ms[k] := i64_in (by omega) (by omega)
          have px := part_get (iv (rowX s j)) [.int .i64 0] k hx
          have py := part_get (iv (rowY s j)) [.int .i64 0] k hy
          simp [hkl, Mb.c]
          intro g9 hg9 h9b h9a hb9
          refine callP_ro hvec ?_
          simp
          refine ⟨fun e1 => ?_, fun e1 => ?_⟩
          · simp [hab, Ne.symm hab, h9a, h9b, Ne.symm h9a, Ne.symm h9b, hkl, px, py, w1, loopQ_normal]
            have sx := part_set (iv (rowX s j)) [.int .i64 0] k hx [.int .i64 (vx s s.ms[k])] (by simp [rowX, eqX, e1])
            have sy := part_set (iv (rowY s j)) [.int .i64 0] k hy [.int .i64 (vy s s.ms[k])] (by simp [rowY, eqY, e1])
            refine ⟨k + 1, by omega, by omega, rfl, by simp, ?_⟩
            intro x y hx'
            rw [← sx, ← sy] at hx'
            simp only [upd_apply] at hx' ⊢
            grind
          · simp [hab, Ne.symm hab, h9a, h9b, Ne.symm h9a, Ne.symm h9b, hkl, px, py, w1, nx, ny, loopQ_normal]
            refine ⟨fun e2 => ?_, fun e2 => ?_⟩
            · have fx : eqX s j s.ms[k] = -vx s s.ms[k] := by rw [eqX, if_neg e1, if_pos e2]
              have fy : eqY s j s.ms[k] = -vy s s.ms[k] := by rw [eqY, if_neg e1, if_pos e2]
              have sx := part_set (iv (rowX s j)) [.int .i64 0] k hx [.int .i64 (-vx s s.ms[k])] (by simp [rowX, fx])
              have sy := part_set (iv (rowY s j)) [.int .i64 0] k hy [.int .i64 (-vy s s.ms[k])] (by simp [rowY, fy])
              refine ⟨k + 1, by omega, by omega, rfl, by simp, ?_⟩
              intro x y hx'
              rw [← sx, ← sy] at hx'
              simp only [upd_apply] at hx' ⊢
              grind
            · have sx := part_next (iv (rowX s j)) [.int .i64 0] k hx (by simp [rowX, eqX, e1, e2])
              have sy := part_next (iv (rowY s j)) [.int .i64 0] k hy (by simp [rowY, eqY, e1, e2])
              refine ⟨k + 1, by omega, by omega, rfl, by simp, ?_⟩
              intro x y hx'
              rw [← sx, ← sy] at hx'
              simp only [upd_apply] at hx' ⊢
              grind
        · have : k = s.ms.length := by omega
          subst this
          rw [part_all _ _ _ (by simp), part_all _ _ _ (by simp)]
          intro gp hgp hpb hpa hbp
          have npg : gp ≠ g := fun e => by rw [e, hb] at hbp; cases hbp
          have er2 : List.range 2 = [0, 1] := rfl
          simp [er2, appV, elsV, Int.not_lt.2 hgp, hpb, hpa, Ne.symm hpb, Ne.symm hpa, nga, ngb, Ne.symm nga, Ne.symm ngb, npg, Ne.symm npg, hb, hel]
          refine ⟨by omega, fun gn hgn hbn => ?_⟩
          have w9 : IntKind.i64.wrap ((i : Int) + 1) = i + 1 := i64_in (by omega) (by omega)
          rw [loopQ_normal]
          subst hj
          have nx := eqInv_next ⟨hi, hb, hel, ho, hn, hg, hf, hsb, hneg⟩ h hga hba hgb hab hbb hpa hpb hbp hgn hbn
          refine ⟨_, nx, by simp only; omega, rfl, ?_, sub_eq rfl⟩
          simp [w9]; exact ⟨rfl, by omega⟩
      · simp
        refine ⟨by simp [hba], DAny_one (i := 11) (by kernel_rfl) rfl rfl ?_⟩
        simp
        refine ⟨by omega, by unfold maxLen; omega, fun gb hgb hab hbb => ⟨by simp [hba, hbb, hab], ?_⟩⟩
        refine DAny_one (i := 13) (by kernel_rfl) rfl rfl ?_
        simp
        refine ⟨by simp [hba, hbb, hab], DAny_done (by kernel_rfl) ?_⟩
        simp [Str.c]
        -- the state behind the region
        have nga : ga ≠ g := fun e => by rw [e, hb] at hba; cases hba
        have ngb : gb ≠ g := fun e => by rw [e, hb] at hbb; cases hbb
        have fa := fresh_of hsb hba
        have fb := fresh_of hsb hbb
        have er : List.replicate s.ms.length [V.int IntKind.i64 0] = part (iv (rowX s j)) [.int .i64 0] 0 := by simp
        have er' : List.replicate s.ms.length [V.int IntKind.i64 0] = part (iv (rowY s j)) [.int .i64 0] 0 := by simp
        refine AW_for (fun k : Nat => [(0, .ptr s.c), (3, .lsl g 1 0 (2 * i)), (5, .int .i64 j), (6, .lsl ga 1 0 s.ms.length), (7, .lsl gb 1 0 s.ms.length), (13, .sl (iv (frees s.js))), (14, .int .i64 (frees s.js).length), (15, .int .i64 i), (34, .sl (mv s.ms)), (35, .int .i64 s.ms.length), (36, .int .i64 k)])
          (fun k => upd (upd b ga (some ⟨1, part (iv (rowX s j)) [.int .i64 0] k⟩)) gb (some ⟨1, part (iv (rowY s j)) [.int .i64 0] k⟩)) (fun k => k ≤ s.ms.length) (fun k => s.ms.length - k) 82 0 (Nat.zero_le _) ⟨rfl, by simp [Str.c], ?_⟩ ?_
        · intro x y hx
          simp only [upd_apply, part_zero, iv_length, rowX_length, rowY_length] at hx ⊢
          grind
        intro k hk
        refine AW_run ?_
        simp
        refine ⟨fun hkl => ?_, fun hkl => ?_⟩
        · have hv := v_le hs (List.getElem_mem hkl)
          have hm : mat s (k : Int) = s.ms[k] := mat_nat hkl
          have hvec := vector_ro s k hs (by omega) (by omega)
          rw [hm] at hvec
          have hx : k < (iv (rowX s j)).length := by simpa using hkl
          have hy : k < (iv (rowY s j)).length := by simpa using hkl
          have w1 : IntKind.i64.wrap ((k : Int) + 1) = k + 1 := i64_in (by omega) (by omega)
          have nx : IntKind.i64.wrap (-vx s s.ms[k]) = -vx s s.ms[k] := i64_in (by omega) (by omega)
          have ny : IntKind.i64.wrap (-vy s s.ms[k]) = -vy s s.ms[k] := i64_in (by omega) (by omega)
          have px := part_get (iv (rowX s j)) [.int .i64 0] k hx
          have py := part_get (iv (rowY s j)) [.int .i64 0] k hy
          simp [hkl, Mb.c]
          intro g9 hg9 h9b h9a hb9
          refine callP_ro hvec ?_
          simp
          refine ⟨fun e1 => ?_, fun e1 => ?_⟩
          · simp [hab, Ne.symm hab, h9a, h9b, Ne.symm h9a, Ne.symm h9b, hkl, px, py, w1, loopQ_normal]
            have sx := part_set (iv (rowX s j)) [.int .i64 0] k hx [.int .i64 (vx s s.ms[k])] (by simp [rowX, eqX, e1])
            have sy := part_set (iv (rowY s j)) [.int .i64 0] k hy [.int .i64 (vy s s.ms[k])] (by simp [rowY, eqY, e1])
            refine ⟨k + 1, by omega, by omega, rfl, by simp, ?_⟩
            intro x y hx'
            rw [← sx, ← sy] at hx'
            simp only [upd_apply] at hx' ⊢
            grind
          · simp [hab, Ne.symm hab, h9a, h9b, Ne.symm h9a, Ne.symm h9b, hkl, px, py, w1, nx, ny, loopQ_normal]
            refine ⟨fun e2 => ?_, fun e2 => ?_⟩
            · have fx : eqX s j s.ms[k] = -vx s s.ms[k] := by rw [eqX, if_neg e1, if_pos e2]
              have fy : eqY s j s.ms[k] = -vy s s.ms[k] := by rw [eqY, if_neg e1, if_pos e2]
              have sx := part_set (iv (rowX s j)) [.int .i64 0] k hx [.int .i64 (-vx s s.ms[k])] (by simp [rowX, fx])
              have sy := part_set (iv (rowY s j)) [.int .i64 0] k hy [.int .i64 (-vy s s.ms[k])] (by simp [rowY, fy])
              refine ⟨k + 1, by omega, by omega, rfl, by simp, ?_⟩
              intro x y hx'
              rw [← sx, ← sy] at hx'
              simp only [upd_apply] at hx' ⊢
              grind
            · have sx := part_next (iv (rowX s j)) [.int .i64 0] k hx (by simp [rowX, eqX, e1, e2])
              have sy := part_next (iv (rowY s j)) [.int .i64 0] k hy (by simp [rowY, eqY, e1, e2])
              refine ⟨k + 1, by omega, by omega, rfl, by simp, ?_⟩
              intro x y hx'
              rw [← sx, ← sy] at hx'
              simp only [upd_apply] at hx' ⊢
              grind
        · have : k = s.ms.length := by omega
          subst this
          rw [part_all _ _ _ (by simp), part_all _ _ _ (by simp)]
          intro gp hgp hpb hpa hbp
          have npg : gp ≠ g := fun e => by rw [e, hb] at hbp; cases hbp
          have er2 : List.range 2 = [0, 1] := rfl
          simp [er2, appV, elsV, Int.not_lt.2 hgp, hpb, hpa, Ne.symm hpb, Ne.symm hpa, nga, ngb, Ne.symm nga, Ne.symm ngb, npg, Ne.symm npg, hb, hel]
          refine ⟨by omega, fun gn hgn hbn => ?_⟩
          have w9 : IntKind.i64.wrap ((i : Int) + 1) = i + 1 := i64_in (by omega) (by omega)
          rw [loopQ_normal]
          subst hj
          have nx := eqInv_next ⟨hi, hb, hel, ho, hn, hg, hf, hsb, hneg⟩ h hga hba hgb hab hbb hpa hpb hbp hgn hbn
          refine ⟨_, nx, by simp only; omega, rfl, ?_, sub_eq rfl⟩
          simp [w9]; exact ⟨rfl, by omega⟩
    · simp
      refine ⟨by omega, by unfold maxLen; omega, fun gb hgb hbb => ⟨by simp [hbb], ?_⟩⟩
      refine DAny_one (i := 5) (by kernel_rfl) rfl rfl ?_
      simp
      refine ⟨by omega, by unfold maxLen; omega, fun ga hga hab hba => ⟨by simp [hba, hbb, hab], ?_⟩⟩
      refine DAny_one (i := 12) (by kernel_rfl) rfl rfl ?_
      simp
      refine ⟨by simp [hba, hbb, hab], DAny_one (i := 13) (by kernel_rfl) rfl rfl ?_⟩
      simp
      refine ⟨by simp [hba, hbb, hab], DAny_done (by kernel_rfl) ?_⟩
      simp [Str.c]
      -- the state behind the region
      have nga : ga ≠ g := fun e => by rw [e, hb] at hba; cases hba
      have ngb : gb ≠ g := fun e => by rw [e, hb] at hbb; cases hbb
      have fa := fresh_of hsb hba
      have fb := fresh_of hsb hbb
      have er : List.replicate s.ms.length [V.int IntKind.i64 0] = part (iv (rowX s j)) [.int .i64 0] 0 := by simp
      have er' : List.replicate s.ms.length [V.int IntKind.i64 0] = part (iv (rowY s j)) [.int .i64 0] 0 := by simp
      refine AW_for (fun k : Nat => [(0, .ptr s.c), (3, .lsl g 1 0 (2 * i)), (5, .int .i64 j), (6, .lsl ga 1 0 s.ms.length), (7, .lsl gb 1 0 s.ms.length), (13, .sl (iv (frees s.js))), (14, .int .i64 (frees s.js).length), (15, .int .i64 i), (34, .sl (mv s.ms)), (35, .int .i64 s.ms.length), (36, .int .i64 k)])
        (fun k => upd (upd b ga (some ⟨1, part (iv (rowX s j)) [.int .i64 0] k⟩)) gb (some ⟨1, part (iv (rowY s j)) [.int .i64 0] k⟩)) (fun k => k ≤ s.ms.length) (fun k => s.ms.length - k) 82 0 (Nat.zero_le _) ⟨rfl, by simp [Str.c], ?_⟩ ?_
      · intro x y hx
        simp only [upd_apply, part_zero, iv_length, rowX_length, rowY_length] at hx ⊢
        grind
      intro k hk
      refine AW_run ?_
      simp
      refine ⟨fun hkl => ?_, fun hkl => ?_⟩
      · have hv := v_le hs (List.getElem_mem hkl)
        have hm : mat s (k : Int) = s.ms[k] := mat_nat hkl
        have hvec := vector_ro s k hs (by omega) (by omega)
        rw [hm] at hvec
        have hx : k < (iv (rowX s j)).length := by simpa using hkl
        have hy : k < (iv (rowY s j)).length := by simpa using hkl
        have w1 : IntKind.i64.wrap ((k : Int) + 1) = k + 1 := i64_in (by omega) (by omega)
        have nx : IntKind.i64.wrap (-vx s s.ms[k]) = -vx s s.ms[k] := i64_in (by omega) (by omega)
        have ny : IntKind.i64.wrap (-vy s s.ms[k]) = -vy s s.ms[k] := i64_in (by omega) (by omega)
        have px := part_get (iv (rowX s j)) [.int .i64 0] k hx
        have py := part_get (iv (rowY s j)) [.int .i64 0] k hy
        simp [hkl, Mb.c]
        intro g9 hg9 h9b h9a hb9
        refine callP_ro hvec ?_
        simp
        refine ⟨fun e1 => ?_, fun e1 => ?_⟩
        · simp [hab, Ne.symm hab, h9a, h9b, Ne.symm h9a, Ne.symm h9b, hkl, px, py, w1, loopQ_normal]
          have sx := part_set (iv (rowX s j)) [.int .i64 0] k hx [.int .i64 (vx s s.ms[k])] (by simp [rowX, eqX, e1])
          have sy := part_set (iv (rowY s j)) [.int .i64 0] k hy [.int .i64 (vy s s.ms[k])] (by simp [rowY, eqY, e1])
          refine ⟨k + 1, by omega, by omega, rfl, by simp, ?_⟩
          intro x y hx'
          rw [← sx, ← sy] at hx'
          simp only [upd_apply] at hx' ⊢
          grind
        · simp [hab, Ne.symm hab, h9a, h9b, Ne.symm h9a, Ne.symm h9b, hkl, px, py, w1, nx, ny, loopQ_normal]
          refine ⟨fun e2 => ?_, fun e2 => ?_⟩
          · have fx : eqX s j s.ms[k] = -vx s s.ms[k] := by rw [eqX, if_neg e1, if_pos e2]
            have fy : eqY s j s.ms[k] = -vy s s.ms[k] := by rw [eqY, if_neg e1, if_pos e2]
            have sx := part_set (iv (rowX s j)) [.int .i64 0] k hx [.int .i64 (-vx s s.ms[k])] (by simp [rowX, fx])
            have sy := part_set (iv (rowY s j)) [.int .i64 0] k hy [.int .i64 (-vy s s.ms[k])] (by simp [rowY, fy])
            refine ⟨k + 1, by omega, by omega, rfl, by simp, ?_⟩
            intro x y hx'
            rw [← sx, ← sy] at hx'
            simp only [upd_apply] at hx' ⊢
            grind
          · have sx := part_next (iv (rowX s j)) [.int .i64 0] k hx (by simp [rowX, eqX, e1, e2])
            have sy := part_next (iv (rowY s j)) [.int .i64 0] k hy (by simp [rowY, eqY, e1, e2])
            refine ⟨k + 1, by omega, by omega, rfl, by simp, ?_⟩
            intro x y hx'
            rw [← sx, ← sy] at hx'
            simp only [upd_apply] at hx' ⊢
            grind
      · have : k = s.ms.length := by omega
        subst this
        rw [part_all _ _ _ (by simp), part_all _ _ _ (by simp)]
        intro gp hgp hpb hpa hbp
        have npg : gp ≠ g := fun e => by rw [e, hb] at hbp; cases hbp
        have er2 : List.range 2 = [0, 1] := rfl
        simp [er2, appV, elsV, Int.not_lt.2 hgp, hpb, hpa, Ne.symm hpb, Ne.symm hpa, nga, ngb, Ne.symm nga, Ne.symm ngb, npg, Ne.symm npg, hb, hel]
        refine ⟨by omega, fun gn hgn hbn => ?_⟩
        have w9 : IntKind.i64.wrap ((i : Int) + 1) = i + 1 := i64_in (by omega) (by omega)
        rw [loopQ_normal]
        subst hj
        have nx := eqInv_next ⟨hi, hb, hel, ho, hn, hg, hf, hsb, hneg⟩ h hga hba hgb (Ne.symm hab) hbb hpa hpb hbp hgn hbn
        refine ⟨_, nx, by simp only; omega, rfl, ?_, sub_eq rfl⟩
        simp [w9]; exact ⟨rfl, by omega⟩
  · have : i = (frees s.js).length := by omega
    subst this
    refine retNW [.lsl g 1 0 (2 * (frees s.js).length)] (g :: gs) (by simp) ?_ ?_ hsb
    · unfold dII
      rw [OwnD]
      have e : eqRows s = eqTo s (frees s.js).length := by simp [eqTo, eqRows]
      refine .inr ⟨g, els, gs, by rw [e, List.length_map, eqTo_length s _ (Nat.le_refl _)]; rfl, rfl, hn, hb, hneg, ?_⟩
      rw [e]; exact ho
    · intro x hx
      rcases List.mem_cons.1 hx with rfl | hx
      · exact hg
      · exact hf x hx

end Go.Proofs.YtmbcofnnibpbeaaGreat.Vm

namespace Go.Proofs.YtmbcofnnibpbeaaGreat.Vm
open Go Go.Proofs
set_option linter.unusedSimpArgs false
set_option linter.unusedVariables false

def colK (m : Mb) (k : Nat) : List (Int × Int) := (if m.kind = 2 then [] else [((k : Int), 1)]) ++ (if m.kind = 1 then [] else [((k : Int), -1)])
def colsTo (ms : List Mb) (n : Nat) : List (Int × Int) := (List.range n).flatMap fun k => colK (ms.getD k default) k
def cols (ms : List Mb) : List (Int × Int) := colsTo ms ms.length
def cv (cs : List (Int × Int)) : List (List V) := cs.map fun p => [.int .i64 p.1, .int .i64 p.2]
theorem colsTo_succ (ms : List Mb) (n : Nat) : colsTo ms (n + 1) = colsTo ms n ++ colK (ms.getD n default) n := by
  unfold colsTo
  rw [List.range_succ, List.flatMap_append]; simp
theorem colK_le (m : Mb) (k : Nat) : (colK m k).length ≤ 2 := by
  unfold colK; split <;> split <;> simp
theorem colsTo_le (ms : List Mb) : ∀ n, (colsTo ms n).length ≤ 2 * n
  | 0 => by simp [colsTo]
  | n + 1 => by
    rw [colsTo_succ, List.length_append]
    have := colsTo_le ms n
    have := colK_le (ms.getD n default) n
    omega
theorem cv_append (a b : List (Int × Int)) : cv (a ++ b) = cv a ++ cv b := by simp [cv]
@[simp] theorem cv_length (a : List (Int × Int)) : (cv a).length = a.length := by simp [cv]
theorem cv_takeall (a : List (Int × Int)) : (cv a).take a.length = cv a := by rw [← cv_length a, List.take_length]
theorem cv_cl (a : List (Int × Int)) : (cv a).all (fun e => e.all V.cl) = true := by simp [cv, V.cl]
theorem cv_clen (a : List (Int × Int)) : ∀ r, r ∈ cv a → r.length = 2 := by
  intro r hr
  obtain ⟨n, _, rfl⟩ := List.mem_map.1 hr
  rfl
theorem own_cv {bl : Int → Option Blk} {ns : List (Int × Int)} {v : V} {gs : List Int} : OwnD bl (fl 2 (cv ns)) v gs ↔ (ns = [] ∧ v = .nils ∧ gs = []) ∨ ∃ g, v = .lsl g 2 0 ns.length ∧ gs = [g] ∧ bl g = some ⟨2, cv ns⟩ ∧ (g < 0 → ns = []) := by
  rw [own_fl (cv_cl ns) (cv_clen ns)]
  simp [cv]

theorem iv_two (a b : Int) : iv [a, b] = [[.int .i64 a], [.int .i64 b]] := rfl
theorem iv_one (a : Int) : iv [a] = [[.int .i64 a]] := rfl

def who (s : Str) : List Int := (cols s.ms).map (·.1)
def sgn (s : Str) : List Int := (cols s.ms).map (·.2)
def dWS (s : Str) : D := .t [fl 1 (iv (who s)), fl 1 (iv (sgn s))]
structure Two where
  i : Nat
  g : Int
  h : Int
  b : Int → Option Blk
def twoInv (bl : Int → Option Blk) (A B : Nat → List Int) (n : Nat) (p : Two) : Prop :=
  p.i ≤ n ∧ p.g ≠ p.h ∧ p.b p.g = some ⟨1, iv (A p.i)⟩ ∧ p.b p.h = some ⟨1, iv (B p.i)⟩ ∧ bl p.g = none ∧ bl p.h = none ∧ Sub bl p.b ∧ (p.g < 0 → A p.i = []) ∧ (p.h < 0 → B p.i = [])

end Go.Proofs.YtmbcofnnibpbeaaGreat.Vm

namespace Go.Proofs.YtmbcofnnibpbeaaGreat.Vm
open Go Go.Proofs
set_option linter.unusedSimpArgs false
set_option linter.unusedVariables false

def vsg (p : Int) (x : Option Rat) : Option Rat := if p < 0 then x.map (- ·) else x
def stI (acc : List (Option Rat)) (p : Int × Int) (x : Option Rat) : List (Option Rat) :=
  acc.set p.1.toNat (if (acc.getD p.1.toNat none).isSome = true then op2 (· + ·) (acc.getD p.1.toNat none) (vsg p.2 x) else vsg p.2 x)
def stS (acc : List (Option Rat)) (p : Int × Int) (x : Option Rat) : List (Option Rat) :=
  acc.set p.1.toNat (if 0 < p.2 then op2 (· + ·) (acc.getD p.1.toNat none) x else op2 (· - ·) (acc.getD p.1.toNat none) x)
def runI (ms : List Mb) (d : List (Option Rat)) (t : Nat) : List (Option Rat) := (List.range t).foldl (fun acc j => stI acc ((cols ms).getD j (0, 0)) (d.getD j none)) (List.replicate ms.length none)
def runS (ms : List Mb) (d : List (Option Rat)) (t : Nat) : List (Option Rat) := (List.range t).foldl (fun acc j => stS acc ((cols ms).getD j (0, 0)) (d.getD j none)) (List.replicate ms.length (some 0))
theorem runI_succ (ms : List Mb) (d : List (Option Rat)) (t : Nat) : runI ms d (t + 1) = stI (runI ms d t) ((cols ms).getD t (0, 0)) (d.getD t none) := by
  unfold runI; rw [List.range_succ, List.foldl_append]; rfl
theorem runS_succ (ms : List Mb) (d : List (Option Rat)) (t : Nat) : runS ms d (t + 1) = stS (runS ms d t) ((cols ms).getD t (0, 0)) (d.getD t none) := by
  unfold runS; rw [List.range_succ, List.foldl_append]; rfl
theorem runI_length (ms : List Mb) (d : List (Option Rat)) : ∀ t, (runI ms d t).length = ms.length
  | 0 => by simp [runI]
  | t + 1 => by rw [runI_succ, stI, List.length_set, runI_length ms d t]
theorem runS_length (ms : List Mb) (d : List (Option Rat)) : ∀ t, (runS ms d t).length = ms.length
  | 0 => by simp [runS]
  | t + 1 => by rw [runS_succ, stS, List.length_set, runS_length ms d t]
theorem okQ_none : okQ none := fun _ e => by cases e
theorem vsg_ok {p : Int} {x : Option Rat} (h : okQ x) : okQ (vsg p x) := by
  unfold vsg; split
  · exact okQ_neg h
  · exact h
theorem okL_set {xs : List (Option Rat)} (h : okL xs) (i : Nat) {x : Option Rat} (hx : okQ x) : okL (xs.set i x) := fun y hy => by
  rcases List.mem_or_eq_of_mem_set hy with h1 | h1
  · exact h y h1
  · rw [h1]; exact hx
theorem runI_ok (ms : List Mb) {d : List (Option Rat)} (hd : okL d) : ∀ t, okL (runI ms d t)
  | 0 => fun y hy => by
    have : y ∈ List.replicate ms.length (none : Option Rat) := hy
    rw [List.mem_replicate] at this
    rw [this.2]; exact okQ_none
  | t + 1 => by
    rw [runI_succ, stI]
    refine okL_set (runI_ok ms hd t) _ ?_
    split
    · exact okQ_op2 _ _ _
    · exact vsg_ok (getD_ok hd _)
theorem runS_ok (ms : List Mb) (d : List (Option Rat)) : ∀ t, okL (runS ms d t)
  | 0 => fun y hy => by
    have : y ∈ List.replicate ms.length (some 0 : Option Rat) := hy
    rw [List.mem_replicate] at this
    rw [this.2]; exact okQ_zero
  | t + 1 => by
    rw [runS_succ, stS]
    refine okL_set (runS_ok ms d t) _ ?_
    split
    · exact okQ_op2 _ _ _
    · exact okQ_op2 _ _ _
theorem cols_in {ms : List Mb} {p : Int × Int} : ∀ n, n ≤ ms.length → p ∈ colsTo ms n → ∃ k : Nat, p.1 = k ∧ k < ms.length ∧ (p.2 = 1 ∨ p.2 = -1) := by
  intro n
  induction n with
  | zero => intro _ h; simp [colsTo] at h
  | succ n ih =>
    intro hn h
    rw [colsTo_succ] at h
    rcases List.mem_append.1 h with h | h
    · exact ih (by omega) h
    · refine ⟨n, ?_⟩
      unfold colK at h
      rcases List.mem_append.1 h with h | h
      · split at h
        · cases h
        · obtain rfl : p = _ := by simpa using h
          exact ⟨rfl, by omega, .inl rfl⟩
      · split at h
        · cases h
        · obtain rfl : p = _ := by simpa using h
          exact ⟨rfl, by omega, .inr rfl⟩
theorem colsTo_get (ms : List Mb) (n : Nat) (j : Nat) (hj : j < (colsTo ms n).length) : ∀ N, n ≤ N → (colsTo ms N).getD j (0, 0) = (colsTo ms n).getD j (0, 0) ∧ (colsTo ms n).length ≤ (colsTo ms N).length := by
  intro N hN
  induction N with
  | zero => obtain rfl : n = 0 := by omega
            exact ⟨rfl, Nat.le_refl _⟩
  | succ N ih =>
    rcases Nat.lt_or_ge n (N + 1) with h | h
    · obtain ⟨h1, h2⟩ := ih (by omega)
      rw [colsTo_succ]
      refine ⟨?_, by rw [List.length_append]; omega⟩
      rw [← h1, List.getD_eq_getElem?_getD, List.getElem?_append_left (by omega)]
      exact (List.getD_eq_getElem?_getD ..).symm
    · obtain rfl : n = N + 1 := by omega
      exact ⟨rfl, Nat.le_refl _⟩
theorem getD_set_eq {xs : List (Option Rat)} {i : Nat} (h : i < xs.length) (x : Option Rat) : (xs.set i x).getD i none = x := by
  rw [List.getD_eq_getElem?_getD, List.getElem?_set_self h]; rfl
theorem getD_set_ne {xs : List (Option Rat)} {i k : Nat} (h : i ≠ k) (x : Option Rat) : (xs.set i x).getD k none = xs.getD k none := by
  rw [List.getD_eq_getElem?_getD, List.getElem?_set_ne h, List.getD_eq_getElem?_getD]
theorem op2_zero_add {x : Option Rat} (h : okQ x) : op2 (· + ·) (some 0) x = x := by
  cases x with
  | none => rfl
  | some q =>
    show fit (0 + q) = some q
    rw [Rat.zero_add]; unfold fit; rw [if_pos (h q rfl)]
theorem op2_zero_sub {x : Option Rat} (h : okQ x) : op2 (· - ·) (some 0) x = x.map (- ·) := by
  have hn := okQ_neg h
  cases x with
  | none => rfl
  | some q =>
    show fit (0 - q) = some (-q)
    rw [Rat.sub_eq_add_neg, Rat.zero_add]; unfold fit; rw [if_pos (hn (-q) rfl)]
theorem op2_add_neg (x y : Option Rat) : op2 (· + ·) x (y.map (- ·)) = op2 (· - ·) x y := by
  cases x with
  | none => rfl
  | some a =>
    cases y with
    | none => rfl
    | some b => show fit (a + -b) = fit (a - b); rw [Rat.sub_eq_add_neg]

def denInv (ms : List Mb) (A B : List (Option Rat)) (n : Nat) : Prop := ∀ k, k < ms.length → (k < n → A.getD k none = B.getD k none) ∧ (n ≤ k → A.getD k none = none ∧ B.getD k none = some 0)
theorem den_step (ms : List Mb) (d : List (Option Rat)) (hd : okL d) (hs : ∀ j, j < (cols ms).length → (d.getD j none).isSome = true) (hk : ∀ m, m ∈ ms → 1 ≤ m.kind ∧ m.kind ≤ 3) : ∀ n, n ≤ ms.length → denInv ms (runI ms d (colsTo ms n).length) (runS ms d (colsTo ms n).length) n := by
  intro n
  induction n with
  | zero =>
    intro _ k hk
    refine ⟨fun h => by omega, fun _ => ?_⟩
    simp [colsTo, runI, runS, hk]
  | succ n ih =>
    intro hn
    have H := ih (by omega)
    have hA := runI_length ms d (colsTo ms n).length
    have hB := runS_length ms d (colsTo ms n).length
    have hmn : ms.getD n default = ms[n] := getD_at _ _ _ (by omega)
    have hkk := hk _ (List.getElem_mem (show n < ms.length by omega))
    have hcs := colsTo_succ ms n
    rw [hmn] at hcs
    have hget : ∀ i, i < (colK ms[n] n).length → (cols ms).getD ((colsTo ms n).length + i) (0, 0) = (colK ms[n] n).getD i (0, 0) ∧ (colsTo ms n).length + i < (cols ms).length := by
      intro i hi
      have h1 := colsTo_get ms (n + 1) ((colsTo ms n).length + i) (by rw [hcs, List.length_append]; omega) ms.length (by omega)
      refine ⟨?_, ?_⟩
      · rw [show cols ms = colsTo ms ms.length from rfl, h1.1, hcs, List.getD_eq_getElem?_getD, List.getD_eq_getElem?_getD, List.getElem?_append_right (by omega)]
        simp
      · have h2 := h1.2
        rw [hcs, List.length_append] at h2
        show _ < (colsTo ms ms.length).length
        omega
    clear ih
    obtain ⟨L, hL⟩ : ∃ L, (colsTo ms n).length = L := ⟨_, rfl⟩
    rw [hL] at hA hB H hget
    have hAn := (H n (by omega)).2 (Nat.le_refl _)
    have one : ∀ A B : List (Option Rat), ∀ x, A.length = ms.length → B.length = ms.length → (∀ k, k < ms.length → k ≠ n → A.getD k none = (runI ms d L).getD k none ∧ B.getD k none = (runS ms d L).getD k none) → A.getD n none = x → B.getD n none = x → denInv ms A B (n + 1) := by
      intro A B x lA lB hne hx hy k hk
      by_cases e : k = n
      · subst e
        exact ⟨fun _ => by rw [hx, hy], fun h => by omega⟩
      · obtain ⟨e1, e2⟩ := hne k hk e
        have := H k hk
        rw [e1, e2]
        exact ⟨fun h => this.1 (by omega), fun h => this.2 (by omega)⟩
    rw [hcs, List.length_append, hL]
    by_cases k1 : ms[n].kind = 1
    · have ec : colK ms[n] n = [((n : Int), 1)] := by unfold colK; rw [k1]; rfl
      have g0 := hget 0 (by rw [ec]; simp)
      rw [ec] at g0 ⊢
      have s0 := hs _ g0.2
      have o0 := getD_ok hd (L + 0)
      simp only [Nat.add_zero] at g0 s0 o0
      show denInv ms (runI ms d (L + 1)) (runS ms d (L + 1)) (n + 1)
      rw [runI_succ, runS_succ, g0.1]
      generalize d.getD L none = x at *
      refine one _ _ x (by simp [stI, hA]) (by simp [stS, hB]) (fun k _ hk => ?_) ?_ ?_
      · unfold stI stS; simp only [List.getD_cons_zero, Int.toNat_natCast]
        rw [getD_set_ne (Ne.symm hk), getD_set_ne (Ne.symm hk)]; exact ⟨rfl, rfl⟩
      · unfold stI; simp only [List.getD_cons_zero, Int.toNat_natCast]
        rw [getD_set_eq (by omega), hAn.1]; rfl
      · unfold stS; simp only [List.getD_cons_zero, Int.toNat_natCast]
        rw [getD_set_eq (by omega), hAn.2, if_pos (by omega)]; exact op2_zero_add o0
    by_cases k2 : ms[n].kind = 2
    · have ec : colK ms[n] n = [((n : Int), -1)] := by unfold colK; rw [k2]; rfl
      have g0 := hget 0 (by rw [ec]; simp)
      rw [ec] at g0 ⊢
      have s0 := hs _ g0.2
      have o0 := getD_ok hd (L + 0)
      simp only [Nat.add_zero] at g0 s0 o0
      show denInv ms (runI ms d (L + 1)) (runS ms d (L + 1)) (n + 1)
      rw [runI_succ, runS_succ, g0.1]
      generalize d.getD L none = x at *
      refine one _ _ (x.map (- ·)) (by simp [stI, hA]) (by simp [stS, hB]) (fun k _ hk => ?_) ?_ ?_
      · unfold stI stS; simp only [List.getD_cons_zero, Int.toNat_natCast]
        rw [getD_set_ne (Ne.symm hk), getD_set_ne (Ne.symm hk)]; exact ⟨rfl, rfl⟩
      · unfold stI; simp only [List.getD_cons_zero, Int.toNat_natCast]
        rw [getD_set_eq (by omega), hAn.1]; rfl
      · unfold stS; simp only [List.getD_cons_zero, Int.toNat_natCast]
        rw [getD_set_eq (by omega), hAn.2, if_neg (by omega)]; exact op2_zero_sub o0
    have ec : colK ms[n] n = [((n : Int), 1), ((n : Int), -1)] := by unfold colK; rw [if_neg k2, if_neg k1]; rfl
    have g0 := hget 0 (by rw [ec]; simp)
    have g1 := hget 1 (by rw [ec]; simp)
    rw [ec] at g0 g1 ⊢
    have s0 := hs _ g0.2
    have s1 := hs _ g1.2
    have o0 := getD_ok hd (L + 0)
    have o1 := getD_ok hd (L + 1)
    simp only [Nat.add_zero] at g0 s0 o0
    show denInv ms (runI ms d (L + 1 + 1)) (runS ms d (L + 1 + 1)) (n + 1)
    rw [runI_succ, runS_succ, runI_succ, runS_succ, g0.1, g1.1]
    generalize d.getD L none = x at *
    generalize d.getD (L + 1) none = y at *
    have eI : (stI (runI ms d L) ((n : Int), 1) x).getD n none = x := by
      unfold stI; simp only [Int.toNat_natCast]
      rw [getD_set_eq (by omega), hAn.1]; rfl
    have eS : (stS (runS ms d L) ((n : Int), 1) x).getD n none = x := by
      unfold stS; simp only [Int.toNat_natCast]
      rw [getD_set_eq (by omega), hAn.2, if_pos (by omega)]; exact op2_zero_add o0
    have lI : (stI (runI ms d L) ((n : Int), 1) x).length = ms.length := by simp [stI, hA]
    have lS : (stS (runS ms d L) ((n : Int), 1) x).length = ms.length := by simp [stS, hB]
    refine one _ _ (op2 (· - ·) x y) (by simp [stI, hA]) (by simp [stS, hB]) (fun k _ hk => ?_) ?_ ?_
    · unfold stI stS; simp only [List.getD_cons_zero, List.getD_cons_succ, Int.toNat_natCast]
      rw [getD_set_ne (Ne.symm hk), getD_set_ne (Ne.symm hk), getD_set_ne (Ne.symm hk), getD_set_ne (Ne.symm hk)]; exact ⟨rfl, rfl⟩
    · show (stI (stI (runI ms d L) ((n : Int), 1) x) ((n : Int), -1) y).getD n none = _
      generalize stI (runI ms d L) ((n : Int), 1) x = A1 at *
      unfold stI; simp only [Int.toNat_natCast]
      rw [getD_set_eq (by omega), eI, if_pos s0, vsg, if_pos (by omega)]; exact op2_add_neg x y
    · show (stS (stS (runS ms d L) ((n : Int), 1) x) ((n : Int), -1) y).getD n none = _
      generalize stS (runS ms d L) ((n : Int), 1) x = B1 at *
      unfold stS; simp only [Int.toNat_natCast]
      rw [getD_set_eq (by omega), eS, if_neg (by omega)]
theorem run_eq (ms : List Mb) (d : List (Option Rat)) (hd : okL d) (hs : ∀ j, j < (cols ms).length → (d.getD j none).isSome = true) (hk : ∀ m, m ∈ ms → 1 ≤ m.kind ∧ m.kind ≤ 3) : runI ms d (cols ms).length = runS ms d (cols ms).length := by
  have H := den_step ms d hd hs hk ms.length (Nat.le_refl _)
  change denInv ms (runI ms d (cols ms).length) (runS ms d (cols ms).length) ms.length at H
  apply List.ext_getElem (by rw [runI_length, runS_length])
  intro k h1 h2
  have h3 := (H k (by rwa [runI_length] at h1)).1 (by rwa [runI_length] at h1)
  rw [getD_at _ _ _ h1, getD_at _ _ _ h2] at h3
  exact h3
end Go.Proofs.YtmbcofnnibpbeaaGreat.Vm

namespace Go.Proofs.YtmbcofnnibpbeaaGreat.Vm
open Go Go.Proofs
set_option linter.unusedSimpArgs false
set_option linter.unusedVariables false

theorem dT_sc (r : RT) (b : Bool) : (dT r b).sc = true := by simp [dT, D.sc, D.scL, dRT_sc, dR_sc, V.ow]
theorem dT_dep (r : RT) (b : Bool) : (dT r b).dep 3 := by
  unfold dT; rw [D.dep]; exact ⟨by omega, by simp [D.depL, D.dep, dR_dep]⟩
theorem dT_fz (r : RT) (b : Bool) : (dT r b).fz = .tup [.agg r.c, .bool b] := by simp [dT, D.fz, D.fzL, dR_fz]
end Go.Proofs.YtmbcofnnibpbeaaGreat.Vm

namespace Go.Proofs.YtmbcofnnibpbeaaGreat.Vm
open Go Go.Proofs
set_option linter.unusedSimpArgs false
set_option linter.unusedVariables false

def apX (s : Str) (d : List (Option Rat)) (m : Mb) : Option Rat := op2 (· - ·) (dX s.js d m.b.toNat) (dX s.js d m.a.toNat)
def apY (s : Str) (d : List (Option Rat)) (m : Mb) : Option Rat := op2 (· - ·) (dY s.js d m.b.toNat) (dY s.js d m.a.toNat)
def strQ (s : Str) (d : List (Option Rat)) (k : Nat) : Option Rat := op2 (· + ·) (op2 (· * ·) (some (vx s (mat s k) : Rat)) (apX s d (mat s k))) (op2 (· * ·) (some (vy s (mat s k) : Rat)) (apY s d (mat s k)))
theorem strQ_ok (s : Str) (d : List (Option Rat)) (k : Nat) : okQ (strQ s d k) := okQ_op2 _ _ _
theorem apart_ro (s : Str) (d : List (Option Rat)) (k : Nat) (hs : SOk s) (hd : okL d) (hk : k < s.ms.length) : RO Tryz.prog 131 [.ptr s.c, .int .i64 k, .sl (fvs (dspF s.js d))] (.tup [fv (apX s d (mat s k)), fv (apY s d (mat s k))]) := by
  have hm := mat_at s k hk
  obtain ⟨⟨a1, a2⟩, ⟨b1, b2⟩⟩ := hs.ix _ (List.getElem_mem hk)
  have hnj := hs.nj
  rw [hm]
  obtain ⟨a, ha⟩ : ∃ a : Nat, s.ms[k].a = a := ⟨s.ms[k].a.toNat, by omega⟩
  obtain ⟨b, hb⟩ : ∃ b : Nat, s.ms[k].b = b := ⟨s.ms[k].b.toNat, by omega⟩
  rw [ha] at a1 a2
  rw [hb] at b1 b2
  have ha' : a < s.js.length := by omega
  have hb' : b < s.js.length := by omega
  have w1 : IntKind.i64.wrap (2 * (a : Int)) = 2 * a := i64_in (by omega) (by omega)
  have w2 : IntKind.i64.wrap (2 * (a : Int) + 1) = 2 * a + 1 := i64_in (by omega) (by omega)
  have w3 : IntKind.i64.wrap (2 * (b : Int)) = 2 * b := i64_in (by omega) (by omega)
  have w4 : IntKind.i64.wrap (2 * (b : Int) + 1) = 2 * b + 1 := i64_in (by omega) (by omega)
  have p1 : 2 * a < 2 * s.js.length := by omega
  have p2 : 2 * a + 1 < 2 * s.js.length := by omega
  have p3 : 2 * b < 2 * s.js.length := by omega
  have p4 : 2 * b + 1 < 2 * s.js.length := by omega
  have p5 : 2 * (a : Int) < 2 * (s.js.length : Int) := by omega
  have p6 : 2 * (a : Int) + 1 < 2 * (s.js.length : Int) := by omega
  have p7 : 2 * (b : Int) < 2 * (s.js.length : Int) := by omega
  have p8 : 2 * (b : Int) + 1 < 2 * (s.js.length : Int) := by omega
  have x1 := dspF_X s.js d a ha' (by simpa using p1)
  have x2 := dspF_Y s.js d a ha' (by simpa using p2)
  have x3 := dspF_X s.js d b hb' (by simpa using p3)
  have x4 := dspF_Y s.js d b hb' (by simpa using p4)
  have hX := sub_ro _ _ (dX_ok s.js hd b) (dX_ok s.js hd a)
  have hY := sub_ro _ _ (dY_ok s.js hd b) (dY_ok s.js hd a)
  have eX : op2 (· - ·) (dX s.js d b) (dX s.js d a) = apX s d s.ms[k] := by unfold apX; rw [ha, hb]; rfl
  have eY : op2 (· - ·) (dY s.js d b) (dY s.js d a) = apY s d s.ms[k] := by unfold apY; rw [ha, hb]; rfl
  rw [eX] at hX
  rw [eY] at hY
  refine ro_of2 Tryz.func131 rfl rfl (by rw [Tryz.ntmps131]; simp) fun bl => ?_
  rw [Tryz.ntmps131, Tryz.results131]
  refine AW_runA ?_
  simp
  refine AW_runA ?_
  simp [Str.c, hk, Mb.c]
  intro g hg0 hg
  refine AW_run ?_
  refine AW_quiet mixedO (by kernel_rfl) ?_
  simp [ha, hb, w1, w2, w3, w4, p1, p2, p3, p4, p5, p6, p7, p8, x1, x2, x3, x4, two0, two1, twoN0, twoN1]
  refine hcQ_ro hX ?_
  simp [ha, hb, w1, w2, w3, w4, p1, p2, p3, p4, p5, p6, p7, p8, x1, x2, x3, x4, two0, two1, twoN0, twoN1]
  refine hcQ_ro hY ?_
  simp
  exact retRO [fv (apX s d s.ms[k]), fv (apY s d s.ms[k])] 1 (by simp) (by simp [frz, frzL]) (by simp [hg])
theorem stretch_ro (s : Str) (d : List (Option Rat)) (k : Nat) (hs : SOk s) (hd : okL d) (hk : k < s.ms.length) : RO Tryz.prog 75 [.ptr s.c, .int .i64 k, .sl (fvs (dspF s.js d))] (fv (strQ s d k)) := by
  have hm := mat_at s k hk
  have hnm := hs.nm
  have hle := vxy_le hs (List.getElem_mem hk)
  rw [← hm] at hle
  obtain ⟨⟨l1, l2⟩, ⟨l3, l4⟩⟩ := hle
  refine ro_of2 Tryz.func75 rfl rfl (by rw [Tryz.ntmps75]; simp) fun bl => ?_
  rw [Tryz.ntmps75, Tryz.results75]
  refine AW_run ?_
  simp
  refine callP_ro (vector_ro s k hs (by omega) (by omega)) ?_
  simp
  refine callP_ro (apart_ro s d k hs hd hk) ?_
  simp
  refine callP_ro (whole_ro (vx s (mat s k)) (by omega)) ?_
  simp
  refine callP_ro (mul_ro _ _ (okQ_int (by omega)) (okQ_op2 _ _ _)) ?_
  simp
  refine callP_ro (whole_ro (vy s (mat s k)) (by omega)) ?_
  simp
  refine callP_ro (mul_ro _ _ (okQ_int (by omega)) (okQ_op2 _ _ _)) ?_
  simp
  refine callP_ro (add_ro _ _ (okQ_op2 _ _ _) (okQ_op2 _ _ _)) ?_
  simp
  exact retRO [fv (strQ s d k)] 0 (by simp [strQ]) (frz_cl (fv_cl _)) (Sub.refl _)

/-- The stretch of member k, if there is one. -/
def strOk (s : Str) (k : Int) (d : List RT) : Bool := movOk s d && (decide (0 ≤ k) && decide (k < s.ms.length))
def strW (s : Str) (k : Int) (d : List RT) : Option Rat := if strOk s k d = true then strQ s (rdAll d) k.toNat else none
theorem strW_ok (s : Str) (k : Int) (d : List RT) : okQ (strW s k d) := by
  unfold strW; split
  · exact strQ_ok _ _ _
  · exact fun _ e => by cases e
theorem movOk_of {s : Str} {d : List RT} (h : movOk s d = true) : SOk s ∧ d.length = 2 * (frees s.js).length ∧ allOk d = true := by
  unfold movOk at h
  simp only [Bool.and_eq_true, decide_eq_true_eq] at h
  exact ⟨sOk_of h.1.1, h.1.2, h.2⟩
theorem impl_StretchOf_nw (s : Str) (k : Int) (d : List RT) (hj : s.js.length ≤ 140737488351232) (hm : s.ms.length ≤ 140737488351232) (hn : ∀ j, j ∈ s.js → j.name.size ≤ 140737488351232) (hd : fitQ d 1048576) : NW Tryz.prog 34 [.agg s.c, .int .i64 k, .sl (rv d)] (dT (ro (strW s k d)) (strW s k d).isSome) := by
  refine nw_of Tryz.func34 rfl rfl (by rw [Tryz.ntmps34]; simp) fun bl => ?_
  rw [Tryz.ntmps34, Tryz.results34]
  refine AW_runA ?_
  simp [Str.c]
  intro g hg0 hg g6 hg6 h6g hb6
  refine AW_frzAt 1 3 (.ptr s.c) (upd bl g6 (some ⟨3, [[.bool false, .nils, .nils]]⟩)) (by intro z b hz; simp only [upd_apply] at hz ⊢; grind) (by simp [frz, dropB, hg, h6g, Ne.symm h6g, Str.c, V.cl]) ?_
  refine AW_run ?_
  simp
  refine callP_ro (displacements_ro s d hj hm hn hd) ?_
  simp
  refine AW_way0 [(1, .int .i64 k), (2, .sl (rv d)), (3, .ptr s.c), (6, .loc g6 3 0 0), (7, .bool false), (8, .sl (fvs (if movOk s d = true then dspF s.js (rdAll d) else []))), (9, .bool (movOk s d))] _ (upd bl g6 (some ⟨3, [[.bool false, .nils, .nils]]⟩)) 27 (.bool (!strOk s k d)) ⟨rfl, by simp, Sub.refl _⟩ rfl ?_ ?_
  · cases hp : movOk s d
    · simp [strOk, hp]
    simp [strOk, hp, Str.c]
    by_cases h0 : 0 ≤ k
    · have h1 : ¬ k < 0 := by omega
      simp [h0, h1, Str.c]
      rw [Bool.eq_iff_iff]
      simp
    · have h1 : k < 0 := by omega
      simp [h0, h1]
  cases hw : strOk s k d
  · have hz : strW s k d = none := by unfold strW; rw [hw]; rfl
    rw [hz]
    simp
    refine retNW [.agg [.bool false, .nils, .nils], .bool false] [] (by simp) ?_ (by simp) (by simp [hb6])
    exact own_dT.2 ⟨_, rfl, own_rtL.2 ⟨.nils, .nils, [], [], rfl, rfl, by simp, own_iv.2 (.inl ⟨rfl, rfl, rfl⟩), own_iv.2 (.inl ⟨rfl, rfl, rfl⟩)⟩⟩
  have hz : strW s k d = strQ s (rdAll d) k.toNat := by unfold strW; rw [hw]; rfl
  unfold strOk at hw
  simp only [Bool.and_eq_true, decide_eq_true_eq] at hw
  obtain ⟨hmv, h0, h1⟩ := hw
  obtain ⟨hs, hlen, hall⟩ := movOk_of hmv
  obtain ⟨i, rfl⟩ : ∃ i : Nat, k = i := ⟨k.toNat, by omega⟩
  have hS := stretch_ro s (rdAll d) i hs (rdAll_ok d) (by omega)
  rw [show ((i : Int).toNat) = i from rfl] at hz
  rw [← hz] at hS
  have ho := strW_ok s i d
  rw [hmv]
  generalize strW s i d = x at *
  simp
  refine callP_ro hS ?_
  simp
  refine callP_new (told_nw x ho) fun v gs b' o f fr => ?_
  obtain ⟨vs, rfl, ol⟩ := own_dT.1 o
  obtain ⟨vm, vd, ga, gb, rfl, rfl, hd', om, od⟩ := own_rtL.1 ol
  obtain ⟨c1, c2⟩ := om.one
  obtain ⟨d1, d2⟩ := od.one
  have e1 : ∀ x, x ∈ ga ++ gb → x ≠ g6 ∧ bl x = none := fun x hx => by have := f x hx; simp only [upd_apply] at this; split at this <;> simp_all
  have n2 : b' g6 = some ⟨3, [[.bool false, .nils, .nils]]⟩ := new_keep f fr (by simp)
  have hsb : Sub bl b' := fun x y hy => by
    have z2 : x ≠ g6 := fun h => by rw [h, hb6] at hy; cases hy
    exact new_keep f fr (by simp [upd_apply, z2, hy])
  simp [n2, c1, d1]
  refine retNW [.agg [.bool (ro x).neg, vm, vd], .bool x.isSome] (ga ++ gb) (by simp [c1, d1]) ?_ (fun x hx => (e1 x hx).2) (hsb.upd hb6 _)
  refine own_dT.2 ⟨_, rfl, (own_rtL.2 ⟨vm, vd, ga, gb, rfl, rfl, hd', om, od⟩).frame fun x hx => by simp [upd_apply, (e1 x hx).1]⟩
theorem impl_StretchOf_ro (s : Str) (k : Int) (d : List RT) (hj : s.js.length ≤ 140737488351232) (hm : s.ms.length ≤ 140737488351232) (hn : ∀ j, j ∈ s.js → j.name.size ≤ 140737488351232) (hd : fitQ d 1048576) : RO Tryz.prog 34 [.agg s.c, .int .i64 k, .sl (rv d)] (.tup [.agg (ro (strW s k d)).c, .bool (strW s k d).isSome]) := by
  have := ro_of_nw 3 (impl_StretchOf_nw s k d hj hm hn hd) (dT_dep _ _)
  rwa [dT_fz] at this
end Go.Proofs.YtmbcofnnibpbeaaGreat.Vm

namespace Go.Proofs.YtmbcofnnibpbeaaGreat.Vm
open Go Go.Proofs
set_option linter.unusedSimpArgs false
set_option linter.unusedVariables false

theorem l05Bad_ro (r : RT) : RO Tryz.prog 184 [.agg r.c] (.bool (decide (r.d = []))) := by
  refine ro_of2 Tryz.func184 rfl rfl (by rw [Tryz.ntmps184]; simp) fun bl => ?_
  rw [Tryz.ntmps184, Tryz.results184]
  refine AW_run ?_
  simp [RT.c]
  intro g hg0 hg
  exact retRO [.bool (decide (r.d = []))] 0 (by simp [len_dec]) (by simp [frz]) (by simp [hg])
def fineQ (rs : List RT) : Bool := rs.all fun r => !decide (r.d = [])
theorem l05Fine_ro (rs : List RT) (hw : rs.length ≤ 1048576) : RO Tryz.prog 150 [.sl (rv rs)] (.bool (fineQ rs)) := by
  refine ro_of2 Tryz.func150 rfl rfl (by rw [Tryz.ntmps150]; simp) fun bl => ?_
  rw [Tryz.ntmps150, Tryz.results150]
  refine AW_run ?_
  simp
  refine AW_for (fun i : Nat => [(5, .sl (rv rs)), (6, .int .i64 rs.length), (7, .int .i64 i)]) (fun _ => bl) (fun i => i ≤ rs.length ∧ ∀ r, r ∈ rs.take i → r.d ≠ []) (fun i => rs.length - i) _ 0 ⟨Nat.zero_le _, by simp⟩ ⟨rfl, by simp, Sub.refl _⟩ ?_
  rintro i ⟨hi, hall⟩
  refine AW_run ?_
  simp
  refine ⟨fun h => ?_, fun h => ?_⟩
  · simp [h, RT.c]
    intro g2 hg2 hb2
    refine callP_ro (l05Bad_ro rs[i]) ?_
    simp
    refine ⟨fun hok => ?_, fun hok => ?_⟩
    · have hno : fineQ rs = false := by
        rw [Bool.eq_false_iff]
        intro hh
        have := List.all_eq_true.1 hh rs[i] (List.getElem_mem h)
        simp [hok] at this
      exact retRO [.bool false] 0 (by simp) (by simp [frz, hno]) (by simp [hb2])
    · simp (disch := omega) [i64_in, loopQ_normal]
      refine ⟨i + 1, ⟨by omega, fun r hr => ?_⟩, by omega, rfl, by simp, by simp [hb2]⟩
      rw [List.take_add_one, List.getElem?_eq_getElem h] at hr
      rcases List.mem_append.1 hr with hr | hr
      · exact hall r hr
      · obtain rfl : r = rs[i] := by simpa using hr
        exact hok
  · have hi2 : i = rs.length := by omega
    have hyes : fineQ rs = true := List.all_eq_true.2 fun r hr => by
      have := hall r (by rw [hi2, List.take_length]; exact hr)
      simp [this]
    exact retRO0 (by simp [hyes]) rfl rfl
theorem fine_ro (zs : List (Option Rat)) : fineQ (roAll zs) = allSome zs := by
  unfold fineQ roAll allSome
  rw [List.all_map]
  congr 1
  funext x
  cases x with
  | none => simp [ro, rz]
  | some q => simp [ro, rq, lim_nil, q.den_nz]
def pairOk (a b : List RT) : Bool := (vecOk a && vecOk b) && decide (a.length = b.length)
/-! ### Results -/
def addQs (a b : List RT) : List (Option Rat) := if pairOk a b = true then List.zipWith (op2 (· + ·)) (rdAll a) (rdAll b) else [none]
theorem pairOk_len {a b : List RT} (h : pairOk a b = true) : a.length = b.length ∧ a.length ≤ 24 ∧ allOk a = true ∧ allOk b = true := by
  unfold pairOk vecOk at h
  simp at h
  exact ⟨h.2, h.1.1.1, h.1.1.2, h.1.2.2⟩
theorem zip_ok (f : Rat → Rat → Rat) (xs ys : List (Option Rat)) : okL (List.zipWith (op2 f) xs ys) := by
  intro x hx
  obtain ⟨i, hi, rfl⟩ := List.getElem_of_mem hx
  rw [List.getElem_zipWith]
  exact okQ_op2 _ _ _
theorem addQs_ok (a b : List RT) : okL (addQs a b) ∧ (addQs a b).length ≤ 24 := by
  unfold addQs; split
  · rename_i h; exact ⟨zip_ok _ _ _, by have := pairOk_len h; simp; omega⟩
  · exact ⟨okL_none, by simp⟩
theorem ro_of_ok {rs : List RT} (h : allOk rs = true) (i : Nat) (hi : i < rs.length) : ∃ q, rd rs[i] = some q ∧ rs[i] = ro (some q) ∧ okQ (some q) := by
  have := List.all_eq_true.1 h rs[i] (List.getElem_mem hi)
  obtain ⟨q, hq⟩ := Option.isSome_iff_exists.1 this
  obtain ⟨h1, h2⟩ := rd_some hq
  exact ⟨q, hq, h1, fun x hx => by cases hx; exact h2⟩
def sclQs (r : RT) (q : List RT) : List (Option Rat) := if (r.ok ∧ vecOk q = true) then (rdAll q).map (op2 (· * ·) (rd r)) else [none]
theorem vecOk_len {q : List RT} (h : vecOk q = true) : q.length ≤ 24 ∧ allOk q = true := by
  unfold vecOk at h; simp at h; exact h
theorem sclQs_ok (r : RT) (q : List RT) : okL (sclQs r q) ∧ (sclQs r q).length ≤ 24 := by
  unfold sclQs; split
  · rename_i h
    refine ⟨fun x hx => ?_, by have := vecOk_len h.2; simp; omega⟩
    obtain ⟨y, _, rfl⟩ := List.mem_map.1 hx
    exact okQ_op2 _ _ _
  · exact ⟨okL_none, by simp⟩
end Go.Proofs.YtmbcofnnibpbeaaGreat.Vm

namespace Go.Proofs.YtmbcofnnibpbeaaGreat.Vm
open Go Go.Proofs
set_option linter.unusedSimpArgs false
set_option linter.unusedVariables false

theorem idx_succ (js : List J) (k : Nat) : idx js (k + 1) = idx js k + (if fxd js k = true then 0 else 1) := by
  unfold idx fxd
  rw [freesTo_succ]
  split <;> simp
theorem idx_le (js : List J) (k : Nat) : idx js k ≤ k := freesTo_le js k
def atW (s : Str) (i : Nat) : Int := if fxd s.js i = true then -1 else (idx s.js i : Int)
theorem ro_rd {rs : List RT} (h : allOk rs = true) (i : Nat) (hi : i < rs.length) : ro (rd rs[i]) = rs[i] := by
  obtain ⟨q, e1, e2, _⟩ := ro_of_ok h i hi
  rw [e1]; exact e2.symm
end Go.Proofs.YtmbcofnnibpbeaaGreat.Vm

namespace Go.Proofs.YtmbcofnnibpbeaaGreat.Vm
open Go Go.Proofs
set_option linter.unusedSimpArgs false
set_option linter.unusedVariables false

/-- Two new cells of three. -/
def twoNew (bl : Int → Option Blk) (g6 : Int) (p : Int × Int) : Prop := 0 ≤ p.1 ∧ 0 ≤ p.2 ∧ ¬ p.1 = p.2 ∧ ¬ p.1 = g6 ∧ ¬ p.2 = g6 ∧ bl p.1 = none ∧ bl p.2 = none
end Go.Proofs.YtmbcofnnibpbeaaGreat.Vm

namespace Go.Proofs.YtmbcofnnibpbeaaGreat.Vm
open Go Go.Proofs
set_option linter.unusedSimpArgs false
set_option linter.unusedVariables false

def refBad (m : Mb) (x : Option Rat) : Bool := (!x.isSome || (decide (m.kind ≠ 2) && decide (0 < sgq x))) || (decide (m.kind ≠ 1) && decide (sgq x < 0))
def memsOk (s : Str) (d : List (Option Rat)) : Bool := (List.range s.ms.length).all fun k => !refBad (mat s k) (strQ s d k)
def memsTo (s : Str) (d : List (Option Rat)) (n : Nat) : Prop := ∀ k : Nat, k < n → refBad (mat s k) (strQ s d k) = false
theorem memsOk_yes {s : Str} {d : List (Option Rat)} (h : memsTo s d s.ms.length) : memsOk s d = true := by
  unfold memsOk
  rw [List.all_eq_true]
  intro k hk
  rw [h k (by simpa using hk)]; rfl
theorem memsOk_no {s : Str} {d : List (Option Rat)} (k : Nat) (hk : k < s.ms.length) (h : refBad (mat s k) (strQ s d k) = true) : memsOk s d = false := by
  unfold memsOk
  rw [List.all_eq_false]
  exact ⟨k, by simpa using hk, by rw [h]; simp⟩
/-- The work of the load before free joint t. -/
def wkTo (s : Str) (l : List Int) (d : List (Option Rat)) : Nat → Option Rat
  | 0 => some 0
  | t + 1 => op2 (· + ·) (op2 (· + ·) (wkTo s l d t) (op2 (· * ·) (some (lN l (2 * ((frees s.js).getD t 0).toNat) : Rat)) (d.getD (2 * t) none))) (op2 (· * ·) (some (lN l (2 * ((frees s.js).getD t 0).toNat + 1) : Rat)) (d.getD (2 * t + 1) none))
theorem wkTo_ok (s : Str) (l : List Int) (d : List (Option Rat)) : ∀ t, okQ (wkTo s l d t)
  | 0 => okQ_zero
  | t + 1 => okQ_op2 _ _ _
def wkW (s : Str) (l : List Int) (d : List (Option Rat)) : Option Rat := wkTo s l d (frees s.js).length
def refW (s : Str) (l : List Int) (d : List RT) : Bool := (movOk s d && fitsL s.js l) && (memsOk s (rdAll d) && decide (0 < sgq (wkW s l (rdAll d))))

end Go.Proofs.YtmbcofnnibpbeaaGreat.Vm

namespace Go.Proofs.YtmbcofnnibpbeaaGreat.Vm
open Go Go.Proofs
set_option linter.unusedSimpArgs false
set_option linter.unusedVariables false

theorem cv_getE (cs : List (Int × Int)) (i : Nat) (h : i < (cv cs).length) : (cv cs)[i] = [.int .i64 (cs[i]'(by simpa using h)).1, .int .i64 (cs[i]'(by simpa using h)).2] := by simp [cv]
theorem fvs_set (xs : List (Option Rat)) (i : Nat) (x : Option Rat) : (fvs xs).set i [fv x] = fvs (xs.set i x) := by simp [fvs, List.map_set]
/-! ### Densities from columns -/
def denOk (s : Str) (d : List RT) : Bool := sOk s && (decide (d.length = (cols s.ms).length) && allOk d)
def denQ (s : Str) (d : List RT) : List (Option Rat) := if denOk s d = true then runI s.ms (rdAll d) (cols s.ms).length else [none]
theorem denOk_of {s : Str} {d : List RT} (h : denOk s d = true) : SOk s ∧ d.length = (cols s.ms).length ∧ allOk d = true := by
  unfold denOk at h
  simp only [Bool.and_eq_true, decide_eq_true_eq] at h
  exact ⟨sOk_of h.1, h.2.1, h.2.2⟩
theorem denQ_ok (s : Str) (d : List RT) : okL (denQ s d) ∧ (denQ s d).length ≤ 24 := by
  unfold denQ; split
  · rename_i h
    obtain ⟨hs, _, _⟩ := denOk_of h
    have := hs.nm
    exact ⟨runI_ok s.ms (rdAll_ok d) _, by rw [runI_length]; omega⟩
  · exact ⟨okL_none, by simp⟩
/-! ### The reference -/
theorem l05Zero_ro : RO Tryz.prog 151 [] (.agg (ro (some 0)).c) := by
  have w0 := RatFromInt_ro 0 (by omega)
  rw [zero_cast] at w0
  refine ro_of2 Tryz.func151 rfl rfl (by rw [Tryz.ntmps151]; simp) fun bl => ?_
  rw [Tryz.ntmps151, Tryz.results151]
  refine AW_run ?_
  generalize ro (some 0) = z at *
  simp
  intro g hg0 hg
  refine callP_ro w0 ?_
  simp [RT.c]
  exact retRO [.agg z.c] 1 (by simp [RT.c]) (by simp [frz, RT.c, V.cl]) (by simp [hg])
theorem rv_takeall (rs : List RT) : (rv rs).take rs.length = rv rs := by rw [← rv_length rs, List.take_length]
theorem rv_len3 (rs : List RT) : ∀ r, r ∈ rv rs → r.length = 3 := fun r hr => by
  obtain ⟨x, _, rfl⟩ := List.mem_map.1 hr; rfl
theorem own_rvF {bl : Int → Option Blk} {rs : List RT} {v : V} {gs : List Int} : OwnD bl (fl 3 (rv rs)) v gs ↔ (rs = [] ∧ v = .nils ∧ gs = []) ∨ ∃ g, v = .lsl g 3 0 rs.length ∧ gs = [g] ∧ bl g = some ⟨3, rv rs⟩ ∧ (g < 0 → rs = []) := by
  rw [own_fl (rv_cl rs) (rv_len3 rs)]
  simp [rv]
def zeros (n : Nat) : List RT := List.replicate n (ro (some 0))
theorem zeros_succ (n : Nat) : zeros (n + 1) = zeros n ++ [ro (some 0)] := by unfold zeros; rw [List.replicate_succ']
@[simp] theorem zeros_length (n : Nat) : (zeros n).length = n := by simp [zeros]
theorem l05Zeros_nw (n : Nat) (hn : n ≤ 1000) : NW Tryz.prog 104 [.int .i64 n] (fl 3 (rv (zeros n))) := by
  refine nw_of Tryz.func104 rfl rfl (by rw [Tryz.ntmps104]; simp) fun bl => ?_
  rw [Tryz.ntmps104, Tryz.results104]
  refine AW_run ?_
  simp
  intro g00 hg00 hb00
  refine AW_for (fun p : Nat × Int => [(0, .int .i64 n), (3, .lsl p.2 3 0 p.1)]) (fun p => upd bl p.2 (some ⟨3, rv (zeros p.1)⟩)) (fun p => p.1 ≤ n ∧ bl p.2 = none ∧ (p.2 < 0 → p.1 = 0)) (fun p => n - p.1) _ (0, g00) ⟨Nat.zero_le _, hb00, fun _ => rfl⟩ ⟨rfl, by simp, sub_eq (by simp [zeros, rv])⟩ ?_
  rintro ⟨i, g⟩ ⟨hi, hg, h0⟩
  simp only at hi hg h0
  refine AW_run ?_
  simp
  refine ⟨fun h => ?_, fun h => ?_⟩
  · refine callP_ro l05Zero_ro ?_
    have hz := zeros_succ i
    generalize ro (some 0) = z at *
    simp [RT.c]
    intro g2 hg2 h2g hb2
    simp [h2g, Ne.symm h2g, appV, elsV, Int.not_lt.2 hg2]
    refine ⟨by omega, fun g3 hg3 hb3 => ?_⟩
    have hb3' : bl g3 = none := by grind
    simp [loopQ_normal]
    refine ⟨i + 1, g3, ⟨by omega, hb3', by omega⟩, by omega, rfl, by simp, ?_⟩
    rw [hz, rv_append]
    exact sub_put (by rw [show (rv (zeros i)).take i = rv (zeros i) by have := rv_takeall (zeros i); rwa [zeros_length] at this]; simp [rv, RT.c]) (by simp [hg, hb2, h2g])
  · have hi2 : i = n := by omega
    subst hi2
    refine retNW [.lsl g 3 0 i] [g] (by simp) ?_ (by simpa using hg) (by simp [hg])
    exact own_rvF.2 (.inr ⟨g, by simp, rfl, by simp, fun h => by rw [h0 h]; rfl⟩)
end Go.Proofs.YtmbcofnnibpbeaaGreat.Vm

namespace Go.Proofs.YtmbcofnnibpbeaaGreat.Vm
open Go Go.Proofs
set_option linter.unusedSimpArgs false
set_option linter.unusedVariables false

theorem allOk_roAll {zs : List (Option Rat)} (h : okL zs) : allOk (roAll zs) = allSome zs := by
  unfold allOk roAll allSome
  rw [List.all_map, Bool.eq_iff_iff, List.all_eq_true, List.all_eq_true]
  constructor
  · intro H x hx
    have := H x hx
    rwa [Function.comp, rd_ro (h x hx)] at this
  · intro H x hx
    rw [Function.comp, rd_ro (h x hx)]; exact H x hx
theorem roAll_fit {zs : List (Option Rat)} (h : okL zs) (hl : zs.length ≤ 1048576) : fitQ (roAll zs) 1048576 := by
  refine ⟨by simpa using hl, fun r hr => ?_⟩
  obtain ⟨x, hx, rfl⟩ := List.mem_map.1 hr
  have := ro_le (h x hx)
  exact ⟨by omega, by omega⟩
theorem rv_set (xs : List (Option Rat)) (i : Nat) (x : Option Rat) : (rv (roAll xs)).set i (ro x).c = rv (roAll (xs.set i x)) := by simp [rv, roAll, List.map_set]
theorem roAll_getE (xs : List (Option Rat)) (i : Nat) (h : i < (roAll xs).length) : (roAll xs)[i] = ro (xs[i]'(by simpa using h)) := by simp [roAll]
theorem zeros_roAll (n : Nat) : zeros n = roAll (List.replicate n (some 0)) := by simp [zeros, roAll]
end Go.Proofs.YtmbcofnnibpbeaaGreat.Vm

namespace Go.Proofs.YtmbcofnnibpbeaaGreat.Vm
open Go Go.Proofs
set_option linter.unusedSimpArgs false
set_option linter.unusedVariables false

def gv (cells : List (List (Option Rat))) : List (List V) := cells.map fun r => [.sl (fvs r)]
@[simp] theorem gv_length (cells : List (List (Option Rat))) : (gv cells).length = cells.length := by simp [gv]
@[simp] theorem gv_getE (cells : List (List (Option Rat))) (i : Nat) (h : i < (gv cells).length) : (gv cells)[i] = [.sl (fvs (cells[i]'(by simpa using h)))] := by simp [gv]
def dGr (cells : List (List (Option Rat))) : D := .s 1 (cells.map fun r => [fl 1 (fvs r)])
theorem dGr_fz (cells : List (List (Option Rat))) : (dGr cells).fz = .sl (gv cells) := by
  unfold dGr gv
  rw [D.fz, fzR_map, List.map_map]
  congr 1
  exact List.map_congr_left fun w _ => by simp
theorem dGr_dep (cells : List (List (Option Rat))) (n : Nat) : (dGr cells).dep (n + 2) := by
  unfold dGr
  rw [D.dep]
  refine ⟨by omega, ?_⟩
  induction cells with
  | nil => simp [D.depR]
  | cons w ws ih => simp [D.depR, D.depL, fl_dep] at ih ⊢; exact ih
def dG (r c : Nat) (cells : List (List (Option Rat))) : D := .a [.c (.int .i64 r), .c (.int .i64 c), dGr cells]
theorem dG_fz (r c : Nat) (cells : List (List (Option Rat))) : (dG r c cells).fz = .agg [.int .i64 r, .int .i64 c, .sl (gv cells)] := by simp [dG, D.fz, D.fzL, dGr_fz]
theorem dG_dep (r c : Nat) (cells : List (List (Option Rat))) : (dG r c cells).dep 3 := by
  unfold dG; rw [D.dep]; exact ⟨by omega, by simp [D.depL, D.dep, dGr_dep]⟩
theorem own_int' {bl : Int → Option Blk} (n : Int) : OwnD bl (.c (.int .i64 n)) (.int .i64 n) [] := by rw [OwnD]; exact ⟨rfl, rfl, rfl⟩
theorem own_g {bl : Int → Option Blk} {r c : Nat} {cells : List (List (Option Rat))} {v : V} {gs : List Int} : OwnD bl (dG r c cells) v gs ↔ ∃ w, v = .agg [.int .i64 r, .int .i64 c, w] ∧ OwnD bl (dGr cells) w gs := by
  unfold dG
  rw [OwnD]
  constructor
  · rintro ⟨vs, rfl, h⟩
    rw [OwnL] at h
    obtain ⟨v1, vs1, g1, r1, rfl, rfl, _, h1, h⟩ := h
    rw [OwnD] at h1
    obtain ⟨rfl, _, rfl⟩ := h1
    rw [OwnL] at h
    obtain ⟨v2, vs2, g2, r2, rfl, rfl, _, h2, h⟩ := h
    rw [OwnD] at h2
    obtain ⟨rfl, _, rfl⟩ := h2
    obtain ⟨w, rfl⟩ : ∃ w, vs2 = [w] := by
      have := h.length
      match vs2, this with
      | [w], _ => exact ⟨w, rfl⟩
    exact ⟨w, rfl, by simpa using own_single.1 h⟩
  · rintro ⟨w, rfl, h⟩
    exact ⟨_, rfl, own_cons (g1 := []) (g2 := gs) (own_int' _) (own_cons (g1 := []) (g2 := gs) (own_int' _) (own_single.2 h) (fun x hx => by cases hx)) (fun x hx => by cases hx)⟩

def rowOf (c : Nat) (m : Nat → Nat → Option Rat) (i : Nat) : List (Option Rat) := (List.range c).map (m i)
def gridOf (r c : Nat) (m : Nat → Nat → Option Rat) : List (List (Option Rat)) := (List.range r).map (rowOf c m)
@[simp] theorem rowOf_length (c : Nat) (m : Nat → Nat → Option Rat) (i : Nat) : (rowOf c m i).length = c := by simp [rowOf]
@[simp] theorem rowOf_getE (c : Nat) (m : Nat → Nat → Option Rat) (i k : Nat) (h : k < (rowOf c m i).length) : (rowOf c m i)[k] = m i k := by simp [rowOf]
@[simp] theorem gridOf_length (r c : Nat) (m : Nat → Nat → Option Rat) : (gridOf r c m).length = r := by simp [gridOf]
@[simp] theorem gridOf_getE (r c : Nat) (m : Nat → Nat → Option Rat) (i : Nat) (h : i < (gridOf r c m).length) : (gridOf r c m)[i] = rowOf c m i := by simp [gridOf]

theorem sub_remS (b : Int → Option Blk) (g : Int) : Sub (rem b g) b := fun z y hz => by
  rw [rem_apply] at hz
  split at hz
  · cases hz
  · exact hz
theorem newGrid_nw (r c : Nat) (hr : r ≤ 1048576) (hc : c ≤ 1048576) (f : FuncId) (cap : List V) (m : Nat → Nat → Option Rat) (hf : ∀ i k, i < r → k < c → RO Tryz.prog f (.int .i64 i :: .int .i64 k :: cap) (fv (m i k))) :
    NW Tryz.prog 85 [.int .i64 r, .int .i64 c, .fn f cap] (dG r c (gridOf r c m)) := by
  refine nw_of Tryz.func85 rfl rfl (by rw [Tryz.ntmps85]; simp) fun bl => ?_
  rw [Tryz.ntmps85, Tryz.results85]
  refine AW_run ?_
  simp
  intro g6 hg6 hb6
  refine ⟨by omega, by unfold maxLen; omega, fun gc hgc hc6 hbc g7 hg7 => ?_⟩
  intros
  have h7c : ¬ g7 = gc := by assumption
  have h76 : ¬ g7 = g6 := by assumption
  have hb7 : bl g7 = none := by assumption
  try simp [hc6, Ne.symm hc6, h7c, Ne.symm h7c, h76, Ne.symm h76]
  refine AW_for (fun p : Grow => [(1, .int .i64 c), (2, .fn f cap), (6, .loc g6 3 0 0), (7, .loc g7 3 0 0), (16, .lsl gc 1 0 r), (17, .int .i64 r), (18, .int .i64 p.els.length)]) (fun p => p.b)
    (fun p => p.els.length ≤ r ∧ p.b g7 = some ⟨3, [[.int .i64 r, .int .i64 c, .lsl gc 1 0 r]]⟩ ∧ p.b g6 = some ⟨3, [[.int .i64 0, .int .i64 0, .nils]]⟩ ∧ p.b gc = some ⟨1, p.els ++ List.replicate (r - p.els.length) [.nils]⟩ ∧ OwnR p.b 1 (((gridOf r c m).map fun w => [fl 1 (fvs w)]).take p.els.length) p.els p.gs ∧ (gc ∉ p.gs ∧ g6 ∉ p.gs ∧ g7 ∉ p.gs) ∧ (∀ x, x ∈ p.gs → bl x = none) ∧ Sub bl p.b)
    (fun p => r - p.els.length) 50 ⟨[], [], upd (upd (upd bl g6 (some ⟨3, [[.int .i64 0, .int .i64 0, .nils]]⟩)) gc (some ⟨1, List.replicate r [.nils]⟩)) g7 (some ⟨3, [[.int .i64 r, .int .i64 c, .lsl gc 1 0 r]]⟩)⟩
    ⟨Nat.zero_le _, by simp, by simp [hc6, Ne.symm hc6, h76, Ne.symm h76], by simp [h7c, Ne.symm h7c], by simp [OwnR], by simp, by simp, by intro z b hz; simp only [upd_apply] at hz ⊢; grind⟩ ⟨rfl, by simp, by simp⟩ ?_
  rintro ⟨els, gs, b⟩ ⟨hi, hb7', hb6', hbc', ho, ⟨n1, n2, n3⟩, hfr, hs⟩
  simp only at hi hb7' hb6' hbc' ho n1 n2 n3 hfr hs
  refine AW_run ?_
  simp
  refine ⟨fun h => ?_, fun h => ?_⟩
  · refine AW_mixedB mixedO (rem b gc) (sub_remS b gc) [0, 1, 2, 3] 3 (by kernel_rfl) ?_
    simp [Ne.symm h7c, h7c, hb7']
    refine DAny_one (i := 4) (by kernel_rfl) rfl rfl ?_
    simp
    refine ⟨by omega, by unfold maxLen; omega, fun gi hgi hbi => ?_⟩
    have hic : gi ≠ gc := fun e => by rw [e, hbc'] at hbi; cases hbi
    have hi7 : gi ≠ g7 := fun e => by rw [e, hb7'] at hbi; cases hbi
    have hi6 : gi ≠ g6 := fun e => by rw [e, hb6'] at hbi; cases hbi
    have hbi0 : bl gi = none := fresh_of hs hbi
    have hin : gi ∉ gs := ho.not hbi
    have hsi : ∀ X, Sub (rem b gc) (upd b gi X) := fun X z y hz => by rw [rem_apply] at hz; rw [upd_apply]; grind
    have hsi2 : ∀ X Y, Sub (rem b gc) (upd (upd b gi X) gc Y) := fun X Y z y hz => by rw [rem_apply] at hz; rw [upd_apply, upd_apply]; grind
    refine ⟨hsi _, DAny_one (i := 5) (by kernel_rfl) rfl rfl ?_⟩
    simp [h]
    refine ⟨hsi _, DAny_one (i := 6) (by kernel_rfl) rfl rfl ?_⟩
    have gg := grow_set' els [.nils] [.lsl gi 1 0 c] r h
    simp [h, hic, Ne.symm hic, hbc', grow_get els [.nils] r h]
    refine ⟨hsi _, DAny_done (by kernel_rfl) ?_⟩
    rw [gg]
    have q7 : upd (upd b gi (some ⟨1, List.replicate c [.nilp]⟩)) gc (some ⟨1, els ++ [[.lsl gi 1 0 c]] ++ List.replicate (r - (els ++ [[V.lsl gi 1 0 c]]).length) [.nils]⟩) g7 = some ⟨3, [[.int .i64 r, .int .i64 c, .lsl gc 1 0 r]]⟩ := by simp [h7c, Ne.symm hi7, hb7']
    have q6 : upd (upd b gi (some ⟨1, List.replicate c [.nilp]⟩)) gc (some ⟨1, els ++ [[.lsl gi 1 0 c]] ++ List.replicate (r - (els ++ [[V.lsl gi 1 0 c]]).length) [.nils]⟩) g6 = some ⟨3, [[.int .i64 0, .int .i64 0, .nils]]⟩ := by simp [Ne.symm hc6, Ne.symm hi6, hb6']
    have qc : upd (upd b gi (some ⟨1, List.replicate c [.nilp]⟩)) gc (some ⟨1, els ++ [[.lsl gi 1 0 c]] ++ List.replicate (r - (els ++ [[V.lsl gi 1 0 c]]).length) [.nils]⟩) gc = some ⟨1, els ++ [[.lsl gi 1 0 c]] ++ List.replicate (r - (els ++ [[V.lsl gi 1 0 c]]).length) [.nils]⟩ := by simp
    have qi : upd (upd b gi (some ⟨1, List.replicate c [.nilp]⟩)) gc (some ⟨1, els ++ [[.lsl gi 1 0 c]] ++ List.replicate (r - (els ++ [[V.lsl gi 1 0 c]]).length) [.nils]⟩) gi = some ⟨1, List.replicate c [.nilp]⟩ := by simp [hic]
    have qo : ∀ x, x ≠ gi → x ≠ gc → upd (upd b gi (some ⟨1, List.replicate c [.nilp]⟩)) gc (some ⟨1, els ++ [[.lsl gi 1 0 c]] ++ List.replicate (r - (els ++ [[V.lsl gi 1 0 c]]).length) [.nils]⟩) x = b x := fun x e1 e2 => by simp [e1, e2]
    generalize upd (upd b gi (some ⟨1, List.replicate c [.nilp]⟩)) gc (some ⟨1, els ++ [[.lsl gi 1 0 c]] ++ List.replicate (r - (els ++ [[V.lsl gi 1 0 c]]).length) [.nils]⟩) = b1 at *
    have hrow : (els ++ [[V.lsl gi 1 0 c]] ++ List.replicate (r - (els ++ [[V.lsl gi 1 0 c]]).length) [V.nils])[els.length]? = some [.lsl gi 1 0 c] := by simp
    have hrl : els.length < (els ++ [[V.lsl gi 1 0 c]] ++ List.replicate (r - (els ++ [[V.lsl gi 1 0 c]]).length) [V.nils]).length := by simp
    have hre : (els ++ [[V.lsl gi 1 0 c]] ++ List.replicate (r - (els ++ [[V.lsl gi 1 0 c]]).length) [V.nils])[els.length] = [.lsl gi 1 0 c] := by
      rw [List.getElem?_eq_getElem hrl] at hrow; exact Option.some.inj hrow
    generalize hE1 : els ++ [[V.lsl gi 1 0 c]] ++ List.replicate (r - (els ++ [[V.lsl gi 1 0 c]]).length) [V.nils] = E1 at *
    simp [q7, qc, h, hrow, hrl, hre]
    refine AW_for (fun k : Nat => [(1, .int .i64 c), (2, .fn f cap), (6, .loc g6 3 0 0), (7, .loc g7 3 0 0), (8, .int .i64 els.length), (16, .lsl gc 1 0 r), (17, .int .i64 r), (18, .int .i64 els.length), (31, .lsl gi 1 0 c), (32, .int .i64 c), (33, .int .i64 k)]) (fun k => upd b1 gi (some ⟨1, part (fvs (rowOf c m els.length)) [.nilp] k⟩)) (fun k => k ≤ c) (fun k => c - k) 50 0 (Nat.zero_le _) ⟨rfl, by simp, sub_eq ?_⟩ ?_
    · funext x
      simp only [upd_apply]
      split
      · rename_i hx; subst hx; simp [qi]
      · rfl
    intro k hk
    refine AW_run ?_
    simp
    refine ⟨fun hkc => ?_, fun hkc => ?_⟩
    · have hf1 := hf els.length k h hkc
      have hsr : ∀ X, Sub (rem b1 gi) (upd b1 gi X) := fun X z y hz => by rw [rem_apply] at hz; rw [upd_apply]; grind
      refine AW_mixedB mixedO (rem b1 gi) (hsr _) [0, 1, 2, 3, 4, 5, 6, 7, 8, 9, 10] 1 (by kernel_rfl) ?_
      simp [Ne.symm hi7, Ne.symm hic, q7, qc, h, hrow, hrl, hre, callV, hkc]
      refine hcQ_ro hf1 ?_
      simp [hkc]
      have hi' : k < (fvs (rowOf c m els.length)).length := by simpa using hkc
      have hpl : k < (part (fvs (rowOf c m els.length)) [.nilp] k).length := by rw [part_length]; exact hi'
      have hpe : (part (fvs (rowOf c m els.length)) [.nilp] k)[k] = [.nilp] := by
        have := part_get (fvs (rowOf c m els.length)) [.nilp] k hi'
        rw [List.getElem?_eq_getElem hpl] at this; exact Option.some.inj this
      refine DAny_one (i := 11) (by kernel_rfl) rfl rfl ?_
      simp [hkc, hpl, hpe]
      refine ⟨sub_remS _ _, DAny_done (by kernel_rfl) ?_⟩
      simp (disch := omega) [i64_in, loopQ_normal]
      refine ⟨k + 1, by omega, by omega, rfl, by simp, sub_eq ?_⟩
      simp only [upd_idem]
      rw [part_set _ _ _ hi' _ (by simp)]
    · have hkc2 : k = c := by omega
      subst hkc2
      rw [part_all _ _ _ (by simp)]
      simp (disch := omega) [i64_in, loopQ_normal]
      have hgl : els.length < (gridOf r k m).length := by simpa using h
      refine ⟨⟨els ++ [[.lsl gi 1 0 k]], gs ++ [gi], upd b1 gi (some ⟨1, fvs (rowOf k m els.length)⟩)⟩, ⟨by simp; omega, ?_, ?_, ?_, ?_, ?_, ?_, ?_⟩, by simp; omega, rfl, by simp, Sub.refl _⟩
      · simp only [upd_apply]; rw [if_neg (Ne.symm hi7)]; exact q7
      · simp only [upd_apply]; rw [if_neg (Ne.symm hi6)]; exact q6
      · simp only [upd_apply]; rw [if_neg (Ne.symm hic), hE1]; exact qc
      · have ht : ((gridOf r k m).map fun w => [fl 1 (fvs w)]).take (els ++ [[V.lsl gi 1 0 k]]).length = ((gridOf r k m).map fun w => [fl 1 (fvs w)]).take els.length ++ [[fl 1 (fvs (rowOf k m els.length))]] := by
          rw [List.length_append, List.length_singleton, List.take_add_one, List.getElem?_map, List.getElem?_eq_getElem hgl]; simp
        simp only
        rw [ht]
        refine OwnR.snoc (own_single.2 (own_fvs.2 (.inr ⟨gi, by simp, rfl, by simp, by omega⟩))) rfl rfl (ho.keep fun x hx y hy => ?_) fun x hx hx2 => ?_
        · have e1 : x ≠ gi := fun e => hin (e ▸ hx)
          have e2 : x ≠ gc := fun e => n1 (e ▸ hx)
          rw [upd_apply, if_neg e1, qo x e1 e2]; exact hy
        · obtain rfl : x = gi := by simpa using hx2
          exact hin hx
      · simp only [List.mem_append, List.mem_singleton]
        exact ⟨fun h => h.elim n1 (Ne.symm hic), fun h => h.elim n2 (Ne.symm hi6), fun h => h.elim n3 (Ne.symm hi7)⟩
      · intro x hx
        rcases List.mem_append.1 hx with hx | hx
        · exact hfr x hx
        · obtain rfl : x = gi := by simpa using hx
          exact hbi0
      · intro x y hx
        have e1 : x ≠ gi := fun e => by rw [e, hbi0] at hx; cases hx
        have e2 : x ≠ gc := fun e => by rw [e, hbc] at hx; cases hx
        simp only [upd_apply]
        rw [if_neg e1, qo x e1 e2]; exact hs x y hx
  · have hl : els.length = r := by omega
    simp [hb7', hb6']
    refine retNW [.agg [.int .i64 r, .int .i64 c, .lsl gc 1 0 r]] (gc :: gs) (by simp) ?_ (fun x hx => ?_) (hs.upd hb6 _)
    · refine own_g.2 ⟨_, rfl, ?_⟩
      unfold dGr
      rw [OwnD]
      refine .inr ⟨gc, els, gs, by simp, rfl, n1, ?_, by omega, ?_⟩
      · simp only [upd_apply]; rw [if_neg hc6, hbc', hl]; simp
      · rw [hl] at ho
        rw [List.take_of_length_le (by simp)] at ho
        exact ho.frame fun x hx => by simp only [upd_apply]; rw [if_neg (fun e : x = g6 => n2 (e ▸ hx))]
    · rcases List.mem_cons.1 hx with rfl | hx
      · exact hbc
      · exact hfr x hx

end Go.Proofs.YtmbcofnnibpbeaaGreat.Vm
