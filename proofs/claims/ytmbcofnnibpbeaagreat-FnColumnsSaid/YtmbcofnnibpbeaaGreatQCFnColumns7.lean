/- Marks of structures. -/

import Derived.Test.YtmbcofnnibpbeaaGreatQCFnColumns6

namespace Go.Proofs.YtmbcofnnibpbeaaGreat.Vm
open Go Go.Proofs
set_option linter.unusedSimpArgs false
set_option linter.unusedVariables false

/-! ### Copies that are the call's own -/

theorem jv_clen (ns : List J) : ∀ r, r ∈ jv ns → r.length = 4 := by
  intro r hr
  obtain ⟨n, _, rfl⟩ := List.mem_map.1 hr
  rfl
theorem mv_clen (ns : List Mb) : ∀ r, r ∈ mv ns → r.length = 3 := by
  intro r hr
  obtain ⟨n, _, rfl⟩ := List.mem_map.1 hr
  rfl
theorem jv_ow (ns : List J) : (jv ns).all (fun r => r.all V.ow) = true := by simp [jv, J.c, V.ow]
theorem mv_ow (ns : List Mb) : (mv ns).all (fun r => r.all V.ow) = true := by simp [mv, Mb.c, V.ow]
theorem own_jv {bl : Int → Option Blk} {ns : List J} {v : V} {gs : List Int} : OwnD bl (fl 4 (jv ns)) v gs ↔ (ns = [] ∧ v = .nils ∧ gs = []) ∨ ∃ g, v = .lsl g 4 0 ns.length ∧ gs = [g] ∧ bl g = some ⟨4, jv ns⟩ ∧ (g < 0 → ns = []) := by
  rw [own_fl (jv_cl ns) (jv_clen ns)]
  simp [jv]
theorem own_mv {bl : Int → Option Blk} {ns : List Mb} {v : V} {gs : List Int} : OwnD bl (fl 3 (mv ns)) v gs ↔ (ns = [] ∧ v = .nils ∧ gs = []) ∨ ∃ g, v = .lsl g 3 0 ns.length ∧ gs = [g] ∧ bl g = some ⟨3, mv ns⟩ ∧ (g < 0 → ns = []) := by
  rw [own_fl (mv_cl ns) (mv_clen ns)]
  simp [mv]

theorem toJointS_nw (a : List J) (ha : a.length ≤ 1048576) : NW Tryz.prog 56 [.sl (jv a)] (fl 4 (jv a)) := by
  refine nw_of Tryz.func56 rfl rfl (by rw [Tryz.ntmps56]; simp) fun bl => ?_
  rw [Tryz.ntmps56, Tryz.results56]
  refine AW_run ?_
  simp
  refine ⟨by omega, by unfold maxLen; omega, fun g hg0 hg => ?_⟩
  refine AW_for (fun i : Nat => [(0, .sl (jv a)), (3, .lsl g 4 0 a.length), (4, .int .i64 i)]) (fun i => upd bl g (some ⟨4, part (jv a) [.str { data := #[] }, .int .i64 0, .int .i64 0, .bool false] i⟩)) (fun i => i ≤ a.length) (fun i => a.length - i) _ 0 (Nat.zero_le _) ⟨rfl, by simp, sub_eq (by simp)⟩ ?_
  intro i hi
  refine AW_run ?_
  simp
  refine ⟨fun h => ?_, fun h => ?_⟩
  · have hi' : i < (jv a).length := by simpa using h
    simp [h]
    refine callP_ro (toJoint_ro a[i]) ?_
    simp (disch := omega) [h, part_get _ _ _ hi', i64_in, loopQ_normal, J.c]
    refine ⟨i + 1, by omega, by omega, rfl, by simp, sub_eq ?_⟩
    simp only [upd_idem]
    rw [part_set _ _ _ hi']
    simp [J.c]
  · refine retNW [.lsl g 4 0 a.length] [g] (by simp) ?_ (by simpa using hg) (by simp [hg])
    rw [part_all _ _ _ (by simpa using h)]
    exact own_jv.2 (.inr ⟨g, rfl, rfl, by simp, by omega⟩)

theorem toMemberS_nw (a : List Mb) (ha : a.length ≤ 1048576) : NW Tryz.prog 57 [.sl (mv a)] (fl 3 (mv a)) := by
  refine nw_of Tryz.func57 rfl rfl (by rw [Tryz.ntmps57]; simp) fun bl => ?_
  rw [Tryz.ntmps57, Tryz.results57]
  refine AW_run ?_
  simp
  refine ⟨by omega, by unfold maxLen; omega, fun g hg0 hg => ?_⟩
  refine AW_for (fun i : Nat => [(0, .sl (mv a)), (3, .lsl g 3 0 a.length), (4, .int .i64 i)]) (fun i => upd bl g (some ⟨3, part (mv a) [.int .i64 0, .int .i64 0, .int .i64 0] i⟩)) (fun i => i ≤ a.length) (fun i => a.length - i) _ 0 (Nat.zero_le _) ⟨rfl, by simp, sub_eq (by simp)⟩ ?_
  intro i hi
  refine AW_run ?_
  simp
  refine ⟨fun h => ?_, fun h => ?_⟩
  · have hi' : i < (mv a).length := by simpa using h
    simp [h]
    refine callP_ro (toMember_ro a[i]) ?_
    simp (disch := omega) [h, part_get _ _ _ hi', i64_in, loopQ_normal, Mb.c]
    refine ⟨i + 1, by omega, by omega, rfl, by simp, sub_eq ?_⟩
    simp only [upd_idem]
    rw [part_set _ _ _ hi']
    simp [Mb.c]
  · refine retNW [.lsl g 3 0 a.length] [g] (by simp) ?_ (by simpa using hg) (by simp [hg])
    rw [part_all _ _ _ (by simpa using h)]
    exact own_mv.2 (.inr ⟨g, rfl, rfl, by simp, by omega⟩)

/-- A structure of the call's own. -/
def dStr (s : Str) : List D := [fl 4 (jv s.js), fl 3 (mv s.ms)]

theorem toStructure_nw (s : Str) (hj : s.js.length ≤ 1048576) (hm : s.ms.length ≤ 1048576) : NW Tryz.prog 18 [.agg s.c] (.a (dStr s)) := by
  refine nw_of Tryz.func18 rfl rfl (by rw [Tryz.ntmps18]; simp) fun bl => ?_
  rw [Tryz.ntmps18, Tryz.results18]
  refine AW_run ?_
  simp [Str.c]
  intro g1 hg1 hb1 g2 hg2 h21 hb2
  intro g3 hg3 h32 h31 hb3
  simp [h21, h31, h32, Ne.symm h21, Ne.symm h31, Ne.symm h32]
  refine callP_new (toJointS_nw _ hj) fun v1 gs1 b1 o1 f1 fr1 => ?_
  obtain ⟨c1, c2⟩ := o1.one
  have e1 : ∀ g, g ∈ gs1 → g ≠ g1 ∧ g ≠ g2 ∧ g ≠ g3 ∧ bl g = none := fun g hg => by have := f1 g hg; simp [upd_apply] at this; grind
  have n1 : b1 g1 = _ := fr1 g1 fun h => (e1 g1 h).1 rfl
  have n2 : b1 g2 = _ := fr1 g2 fun h => (e1 g2 h).2.1 rfl
  have n3 : b1 g3 = _ := fr1 g3 fun h => (e1 g3 h).2.2.1 rfl
  simp [h21, h31, h32, Ne.symm h21, Ne.symm h31, Ne.symm h32] at n1 n2 n3
  simp [h21, h31, h32, Ne.symm h21, Ne.symm h31, Ne.symm h32, n1, n2, n3, c1, c2]
  refine callP_new (toMemberS_nw _ hm) fun v2 gs2 b2 o2 f2 fr2 => ?_
  obtain ⟨d1, d2⟩ := o2.one
  have e2 : ∀ g, g ∈ gs2 → g ≠ g3 ∧ b1 g = none := fun g hg => by have := f2 g hg; simp [upd_apply] at this; exact this
  have e3 : ∀ g, g ∈ gs2 → g ∉ gs1 := fun g hg hg1 => by
    obtain ⟨b, hb⟩ := o1.has g hg1
    rw [(e2 g hg).2] at hb; cases hb
  have e4 : ∀ g, g ∈ gs2 → g ≠ g2 := fun g hg h => by have := (e2 g hg).2; rw [h, n2] at this; cases this
  have m1 : b2 g1 = _ := fr2 g1 fun h => by have := (e2 g1 h).2; rw [n1] at this; cases this
  have m2 : b2 g2 = _ := fr2 g2 fun h => by have := (e2 g2 h).2; rw [n2] at this; cases this
  have m3 : b2 g3 = _ := fr2 g3 fun h => (e2 g3 h).1 rfl
  simp [h21, h31, h32, Ne.symm h21, Ne.symm h31, Ne.symm h32, n1, n2] at m1 m2 m3
  simp [h21, h31, h32, Ne.symm h21, Ne.symm h31, Ne.symm h32, m1, m2, m3, d1, d2, c1]
  have k1 : OwnD b2 (fl 4 (jv s.js)) v1 gs1 := o1.frame fun g hg => by
    rw [fr2 g (fun h => e3 g h hg)]
    simp [upd_apply, (e1 g hg).2.2.1]
  have hsub : Sub bl b2 := fun g b hb => by
    have z1 : g ≠ g1 := fun h => by rw [h, hb1] at hb; cases hb
    have z2 : g ≠ g2 := fun h => by rw [h, hb2] at hb; cases hb
    have z3 : g ≠ g3 := fun h => by rw [h, hb3] at hb; cases hb
    have hn1 : g ∉ gs1 := fun h => by rw [(e1 g h).2.2.2] at hb; cases hb
    have hb1 : b1 g = some b := by rw [fr1 g hn1]; simp [upd_apply, z1, z2, z3, hb]
    have hn2 : g ∉ gs2 := fun h => by rw [(e2 g h).2] at hb1; cases hb1
    rw [fr2 g hn2]
    simp [upd_apply, z3, hb1]
  refine retNW [.agg [v1, v2]] (gs1 ++ gs2) ?_ ?_ ?_ ?_
  · simp [h21, h31, h32, Ne.symm h21, Ne.symm h31, Ne.symm h32, m1, m2, m3]
  · show OwnD _ (.a (dStr s)) (.agg [v1, v2]) (gs1 ++ gs2)
    rw [OwnD]
    refine ⟨_, rfl, own_pair.2 ⟨v1, v2, gs1, gs2, rfl, rfl, fun g h1 h2 => e3 g h2 h1, ?_, ?_⟩⟩
    · exact k1.frame fun g hg => by simp [upd_apply, (e1 g hg).2.1, (e1 g hg).2.2.1]
    · exact o2.frame fun g hg => by simp [upd_apply, (e2 g hg).1, e4 g hg]
  · intro g hg
    rcases List.mem_append.1 hg with hg | hg
    · exact (e1 g hg).2.2.2
    · have h2 := (e2 g hg).2
      rw [fr1 g (e3 g hg)] at h2
      simp [upd_apply] at h2
      grind
  · simp [hb2, hb3]; exact hsub

/-- The names and sizes of a structure fit. -/
structure Str.sz (s : Str) : Prop where
  js : s.js.length ≤ 140737488351232
  ms : s.ms.length ≤ 140737488351232
  nm : ∀ j, j ∈ s.js → j.name.size ≤ 140737488351232
theorem frz_str {bl : Int → Option Blk} {s : Str} {vs : List V} {gs : List Int} (h : OwnL bl (dStr s) vs gs) (n : Nat) : frz bl (n + 2) (.agg vs) = some (.agg s.c) := by
  have h1 : OwnD bl (.a (dStr s)) (.agg vs) gs := by rw [OwnD]; exact ⟨vs, rfl, h⟩
  rw [h1.frz (n := n + 2) (by rw [D.dep]; refine ⟨by omega, ?_⟩; simp [dStr, D.depL, fl_dep])]
  simp [D.fz, dStr, D.fzL, Str.c]
theorem dStr_fz (s : Str) : (D.a (dStr s)).fz = .agg s.c := by simp [D.fz, dStr, D.fzL, Str.c]
theorem dStr_dep (s : Str) : (D.a (dStr s)).dep 2 := by
  rw [D.dep]; refine ⟨by omega, ?_⟩; simp [dStr, D.depL, fl_dep]
theorem dStr_sc (s : Str) : (D.a (dStr s)).sc = true := by
  simp [D.sc, dStr, D.scL, fl_sc (jv_ow _), fl_sc (mv_ow _)]
theorem own_agg {bl : Int → Option Blk} {s : Str} {v : V} {gs : List Int} (h : OwnD bl (.a (dStr s)) v gs) : ∃ v1 v2, v = .agg [v1, v2] ∧ OwnL bl (dStr s) [v1, v2] gs ∧ v1.one = true ∧ v1.cells = [v1] ∧ v2.one = true ∧ v2.cells = [v2] := by
  rw [OwnD] at h
  obtain ⟨vs, rfl, o⟩ := h
  obtain ⟨v1, v2, ga, gb, rfl, rfl, hd, o1, o2⟩ := own_pair.1 o
  exact ⟨v1, v2, rfl, o, o1.one.1, o1.one.2, o2.one.1, o2.one.2⟩

end Go.Proofs.YtmbcofnnibpbeaaGreat.Vm

namespace Go.Proofs.YtmbcofnnibpbeaaGreat.Vm
open Go Go.Proofs
set_option linter.unusedSimpArgs false
set_option linter.unusedVariables false

/-! ### Texts of marks -/
def digs (k : Nat) (out : ByteArray) : ByteArray := if h : k = 0 then out else digs (k / 10) (toBytes [IntKind.u8.wrap (IntKind.i64.wrap (48 + (k : Int).tmod 10))] ++ out)
termination_by k
decreasing_by omega
def mtext (k : Nat) : ByteArray := if k = 0 then { data := #[109, 48] } else ({ data := #[109] } : ByteArray) ++ digs k { data := #[] }
theorem digs_step {k : Nat} (h : k ≠ 0) (out : ByteArray) : digs k out = digs (k / 10) (toBytes [IntKind.u8.wrap (IntKind.i64.wrap (48 + (k : Int).tmod 10))] ++ out) := by
  rw [digs, dif_neg h]
theorem digs_zero (out : ByteArray) : digs 0 out = out := by rw [digs, dif_pos rfl]

theorem markText_ro (k : Nat) (hk : k ≤ 4611686018427387904) : RO Tryz.prog 118 [.int .i64 k] (.str (mtext k)) := by
  refine ro_of2 Tryz.func118 rfl rfl (by rw [Tryz.ntmps118]; simp) fun bl => ?_
  rw [Tryz.ntmps118, Tryz.results118]
  refine AW_run ?_
  simp
  refine ⟨fun h => ?_, fun h => ?_⟩
  · exact retRO0 (by simp [mtext, h]) rfl rfl
  refine AW_for (fun p : Nat × ByteArray => [(0, .int .i64 p.1), (3, .str p.2)]) (fun _ => bl) (fun p => p.1 + p.2.size ≤ k ∧ digs p.1 p.2 = digs k { data := #[] }) (fun p => p.1) _ (k, { data := #[] }) ⟨by simp [ByteArray.size], rfl⟩ ⟨rfl, by simp, Sub.refl _⟩ ?_
  rintro ⟨n, out⟩ ⟨hn, hd⟩
  simp only at hn hd
  refine AW_run ?_
  simp
  refine ⟨fun h1 => ?_, fun h1 => ?_⟩
  · intro g hg0 hg
    have hsz : ∀ x, (toBytes [x]).size = 1 := fun x => rfl
    simp [cvtV, cvtS, elsV, Int.not_lt.2 hg0, bytesOf]
    have h2 := hsz (IntKind.u8.wrap (IntKind.i64.wrap (48 + (n : Int).tmod 10)))
    refine ⟨by omega, ?_⟩
    simp [loopQ_normal]
    refine ⟨n / 10, toBytes [IntKind.u8.wrap (IntKind.i64.wrap (48 + (n : Int).tmod 10))] ++ out, ⟨?_, ?_⟩, by omega, rfl, ?_, ?_⟩
    · rw [ByteArray.size_append, h2]; omega
    · rw [← hd]; exact (digs_step (by omega) out).symm
    · simp
      exact i64_in (by omega) (by omega)
    · simp [hg]
  · have : n = 0 := by omega
    subst this
    rw [digs_zero] at hd
    subst hd
    have h2 : ({ data := #[109] } : ByteArray).size = 1 := rfl
    simp only [h2]
    refine ⟨by omega, ?_⟩
    exact retRO0 (by simp [mtext, h]) rfl rfl

/-! ### Joints and members -/
def mkJ (k n : Nat) : List J := (List.range n).map fun i => ⟨mtext (k + 4 * i), (k + 4 * i + 1 : Nat), (k + 4 * i + 2 : Nat), ((k + 4 * i + 3 : Nat) : Int).tmod 3 == 0⟩
@[simp] theorem mkJ_length (k n : Nat) : (mkJ k n).length = n := by simp [mkJ]
@[simp] theorem mkJ_getE (k n i : Nat) (h : i < (mkJ k n).length) : (mkJ k n)[i] = ⟨mtext (k + 4 * i), (k + 4 * i + 1 : Nat), (k + 4 * i + 2 : Nat), ((k + 4 * i + 3 : Nat) : Int).tmod 3 == 0⟩ := by simp [mkJ]
def mkM (k n : Nat) : List Mb := (List.range n).map fun i => ⟨(k + 3 * i : Nat), (k + 3 * i + 1 : Nat), (k + 3 * i + 2 : Nat)⟩
@[simp] theorem mkM_length (k n : Nat) : (mkM k n).length = n := by simp [mkM]
@[simp] theorem mkM_getE (k n i : Nat) (h : i < (mkM k n).length) : (mkM k n)[i] = ⟨(k + 3 * i : Nat), (k + 3 * i + 1 : Nat), (k + 3 * i + 2 : Nat)⟩ := by simp [mkM]

theorem upd_self {α β : Type} [DecidableEq α] (f : α → β) (a : α) (b : β) (h : f a = b) : upd f a b = f := by
  funext x
  simp only [upd_apply]
  split
  · rename_i hx; subst hx; exact h.symm
  · rfl

theorem markJointS_cp {bl : Int → Option Blk} {K : V → (Int → Option Blk) → Prop} (xs : List J) (k : Nat) (v : V) (gs : List Int) (h : OwnD bl (fl 4 (jv xs)) v gs) (hk : k + 4 * xs.length ≤ 4611686018427387000)
    (hK : ∀ bl', OwnD bl' (fl 4 (jv (mkJ k xs.length))) v gs → (∀ g, g ∉ gs → bl' g = bl g) → K (.int .i64 (k + 4 * xs.length : Nat)) bl') : CallP Tryz.prog 63 [v, .int .i64 k] bl K := by
  refine callP_of Tryz.func63 rfl rfl (by rw [Tryz.ntmps63]; simp) ?_
  rw [Tryz.ntmps63, Tryz.results63]
  refine AW_run ?_
  rcases own_jv.1 h with ⟨rfl, rfl, rfl⟩ | ⟨g, rfl, rfl, hb, hg0⟩
  · simp
    refine AW_for (fun _ : Unit => [(0, .nils), (1, .int .i64 k), (5, .int .i64 0)]) (fun _ => bl) (fun _ => True) (fun _ => 0) _ () trivial ⟨rfl, by simp, Sub.refl _⟩ ?_
    intro _ _
    refine AW_run ?_
    simp
    rw [retK_ret]
    refine ⟨[.int .i64 k], by simp, ?_⟩
    have := hK bl (own_jv.2 (.inl ⟨rfl, rfl, rfl⟩)) (fun _ _ => rfl)
    simpa using this
  · simp
    refine AW_for (fun i : Nat => [(0, .lsl g 4 0 xs.length), (1, .int .i64 (k + 4 * i : Nat)), (5, .int .i64 i)]) (fun i => upd bl g (some ⟨4, over (jv (mkJ k xs.length)) (jv xs) i⟩)) (fun i => i ≤ xs.length) (fun i => xs.length - i) _ 0 (Nat.zero_le _) ⟨rfl, by simp, sub_eq ?_⟩ ?_
    · exact (upd_self _ _ _ (by simpa using hb)).symm
    intro i hi
    refine AW_run ?_
    simp
    refine ⟨fun h1 => ?_, fun h1 => ?_⟩
    · have h2 : i < (jv xs).length := by simpa using h1
      have hge : 0 ≤ g := by
        rcases Int.lt_or_le g 0 with hlt | hge
        · have := hg0 hlt; subst this; simp at h1
        · exact hge
      have hgi := over_get (jv (mkJ k xs.length)) (jv xs) i (by simp) h2
      have hgE := over_getE (jv (mkJ k xs.length)) (jv xs) i (by simp) h2
      have hol : i < (over (jv (mkJ k xs.length)) (jv xs) i).length := by rw [over_length _ _ _ (by simp)]; exact h2
      have hm := markText_ro (k + 4 * i) (by omega)
      simp at hm
      simp [h1]
      refine callP_ro hm ?_
      simp (disch := omega) [h1, hgi, i64_in, J.c, hol, List.getElem?_set_self, List.set_set]
      simp only [loopQ_normal]
      refine ⟨i + 1, by omega, by omega, rfl, by simp; omega, sub_eq ?_⟩
      simp only [upd_idem]
      rw [over_set _ _ _ (by simp) (by simpa using h1) _ (by simp [hgE, J.c, Int.add_assoc])]
    · have hi' : i = xs.length := by omega
      subst hi'
      rw [retK_ret]
      refine ⟨[.int .i64 (k + 4 * xs.length : Nat)], by simp, ?_⟩
      refine hK _ (own_jv.2 (.inr ⟨g, by simp, rfl, ?_, fun h => by have := hg0 h; subst this; rfl⟩)) (fun g' hg' => ?_)
      · simp; rw [over_all _ _ _ (by simp) (by simp)]
      · simp at hg'; simp [hg']

theorem markMemberS_cp {bl : Int → Option Blk} {K : V → (Int → Option Blk) → Prop} (xs : List Mb) (k : Nat) (v : V) (gs : List Int) (h : OwnD bl (fl 3 (mv xs)) v gs) (hk : k + 3 * xs.length ≤ 4611686018427387000)
    (hK : ∀ bl', OwnD bl' (fl 3 (mv (mkM k xs.length))) v gs → (∀ g, g ∉ gs → bl' g = bl g) → K (.int .i64 (k + 3 * xs.length : Nat)) bl') : CallP Tryz.prog 64 [v, .int .i64 k] bl K := by
  refine callP_of Tryz.func64 rfl rfl (by rw [Tryz.ntmps64]; simp) ?_
  rw [Tryz.ntmps64, Tryz.results64]
  refine AW_run ?_
  rcases own_mv.1 h with ⟨rfl, rfl, rfl⟩ | ⟨g, rfl, rfl, hb, hg0⟩
  · simp
    refine AW_for (fun _ : Unit => [(0, .nils), (1, .int .i64 k), (5, .int .i64 0)]) (fun _ => bl) (fun _ => True) (fun _ => 0) _ () trivial ⟨rfl, by simp, Sub.refl _⟩ ?_
    intro _ _
    refine AW_run ?_
    simp
    rw [retK_ret]
    refine ⟨[.int .i64 k], by simp, ?_⟩
    have := hK bl (own_mv.2 (.inl ⟨rfl, rfl, rfl⟩)) (fun _ _ => rfl)
    simpa using this
  · simp
    refine AW_for (fun i : Nat => [(0, .lsl g 3 0 xs.length), (1, .int .i64 (k + 3 * i : Nat)), (5, .int .i64 i)]) (fun i => upd bl g (some ⟨3, over (mv (mkM k xs.length)) (mv xs) i⟩)) (fun i => i ≤ xs.length) (fun i => xs.length - i) _ 0 (Nat.zero_le _) ⟨rfl, by simp, sub_eq ?_⟩ ?_
    · exact (upd_self _ _ _ (by simpa using hb)).symm
    intro i hi
    refine AW_run ?_
    simp
    refine ⟨fun h1 => ?_, fun h1 => ?_⟩
    · have h2 : i < (mv xs).length := by simpa using h1
      have hge : 0 ≤ g := by
        rcases Int.lt_or_le g 0 with hlt | hge
        · have := hg0 hlt; subst this; simp at h1
        · exact hge
      have hgi := over_get (mv (mkM k xs.length)) (mv xs) i (by simp) h2
      have hgE := over_getE (mv (mkM k xs.length)) (mv xs) i (by simp) h2
      have hol : i < (over (mv (mkM k xs.length)) (mv xs) i).length := by rw [over_length _ _ _ (by simp)]; exact h2
      simp (disch := omega) [h1, hgi, i64_in, Mb.c, hol, List.getElem?_set_self, List.set_set]
      simp only [loopQ_normal]
      refine ⟨i + 1, by omega, by omega, rfl, by simp; omega, sub_eq ?_⟩
      simp only [upd_idem]
      rw [over_set _ _ _ (by simp) (by simpa using h1) _ (by simp [hgE, Mb.c, Int.add_assoc])]
    · have hi' : i = xs.length := by omega
      subst hi'
      rw [retK_ret]
      refine ⟨[.int .i64 (k + 3 * xs.length : Nat)], by simp, ?_⟩
      refine hK _ (own_mv.2 (.inr ⟨g, by simp, rfl, ?_, fun h => by have := hg0 h; subst this; rfl⟩)) (fun g' hg' => ?_)
      · simp; rw [over_all _ _ _ (by simp) (by simp)]
      · simp at hg'; simp [hg']

/-- The marks of a structure from k on. -/
def mkS (k : Nat) (s : Str) : Str := ⟨mkJ k s.js.length, mkM (k + 4 * s.js.length) s.ms.length⟩
def mkN (k : Nat) (s : Str) : Nat := k + 4 * s.js.length + 3 * s.ms.length

theorem markStructure_cp {bl : Int → Option Blk} {K : V → (Int → Option Blk) → Prop} (s : Str) (k : Nat) (vs : List V) (gs : List Int) (h : OwnL bl (dStr s) vs gs) (hk : mkN k s ≤ 4611686018427387000)
    (hK : ∀ bl', OwnL bl' (dStr (mkS k s)) vs gs → (∀ g, g ∉ gs → ∀ b, bl g = some b → bl' g = some b) → K (.int .i64 (mkN k s : Nat)) bl') : CallP Tryz.prog 22 [.agg vs, .int .i64 k] bl K := by
  obtain ⟨v, w, g1, g2, rfl, rfl, hd, o1, o2⟩ := own_pair.1 h
  obtain ⟨c1, c2⟩ := o1.one
  obtain ⟨d1, d2⟩ := o2.one
  unfold mkN at hk
  refine callP_of Tryz.func22 rfl rfl (by rw [Tryz.ntmps22]; simp) ?_
  rw [Tryz.ntmps22, Tryz.results22]
  refine AW_run ?_
  simp [c1, d1]
  intro g hg0 hg
  have f1 : ∀ x, x ∈ g1 → x ≠ g := fun x hx h => by obtain ⟨b, hb⟩ := o1.has x hx; rw [h, hg] at hb; cases hb
  have f2 : ∀ x, x ∈ g2 → x ≠ g := fun x hx h => by obtain ⟨b, hb⟩ := o2.has x hx; rw [h, hg] at hb; cases hb
  refine markJointS_cp s.js k v g1 (o1.frame fun x hx => by simp [f1 x hx]) (by omega) fun b1 p1 q1 => ?_
  have n1 : b1 g = some ⟨2, [[v, w]]⟩ := by rw [q1 g (fun h => f1 g h rfl)]; simp
  have p2 : OwnD b1 (fl 3 (mv s.ms)) w g2 := o2.frame fun x hx => by rw [q1 x (fun h => hd x h hx)]; simp [f2 x hx]
  simp [n1]
  have := markMemberS_cp (bl := b1) (K := K) s.ms (k + 4 * s.js.length) w g2 p2 (by omega)
  refine markMemberS_cp s.ms (k + 4 * s.js.length) w g2 p2 (by omega) fun b2 p3 q3 => ?_
  simp
  rw [retK_ret]
  refine ⟨[_], by simp; rfl, ?_⟩
  have := hK b2 (own_pair.2 ⟨v, w, g1, g2, rfl, rfl, hd, p1.frame fun x hx => q3 x (hd x hx), p3⟩) (fun x hx b hb => ?_)
  · simpa [mkN] using this
  · simp at hx
    rw [q3 x hx.2, q1 x hx.1]
    simp only [upd_apply]
    rw [if_neg (fun e => by subst e; rw [hg] at hb; cases hb)]; exact hb

end Go.Proofs.YtmbcofnnibpbeaaGreat.Vm

namespace Go.Proofs.YtmbcofnnibpbeaaGreat.Vm
open Go Go.Proofs
set_option linter.unusedSimpArgs false
set_option linter.unusedVariables false

end Go.Proofs.YtmbcofnnibpbeaaGreat.Vm

namespace Go.Proofs.YtmbcofnnibpbeaaGreat.Vm
open Go Go.Proofs
set_option linter.unusedSimpArgs false
set_option linter.unusedVariables false


def noLoad (s : Str) : List Int := if sOk s = true then List.replicate (2 * s.js.length) 0 else []

theorem impl_NoLoad_nw (s : Str) (h : s.sz) : NW Tryz.prog 33 [.agg s.c] (fl 1 (iv (noLoad s))) := by
  have hj := h.js
  refine nw_of Tryz.func33 rfl rfl (by rw [Tryz.ntmps33]; simp) fun bl => ?_
  rw [Tryz.ntmps33, Tryz.results33]
  refine AW_run ?_
  simp [Str.c]
  intro g hg0 hg
  refine callP_ro (impl_StructureOk_ro s h.js h.ms h.nm) ?_
  simp
  refine ⟨fun h => ?_, fun h => ?_⟩
  · refine retNW [.nils] [] rfl ?_ (by simp) (by simp [hg])
    exact own_iv.2 (.inl ⟨by simp [noLoad, h], rfl, rfl⟩)
  · have h6 := (sOk_of h).nj
    simp (disch := omega) [i64_in]
    refine ⟨2 * s.js.length, by simp, by simp, by omega, by unfold maxLen; omega, fun g1 hg1 hb1 => ?_⟩
    simp at hb1
    obtain ⟨h1g, hb1⟩ := hb1
    simp
    refine retNW [.lsl g1 1 0 (2 * s.js.length)] [g1] (by simp) ?_ (by simpa using hb1) (by simp [hg, hb1])
    refine own_iv.2 (.inr ⟨g1, by simp [noLoad, h], rfl, ?_, by omega⟩)
    simp [noLoad, h, iv]

theorem impl_NoLoad_ro (s : Str) (h : s.sz) : RO Tryz.prog 33 [.agg s.c] (.sl (iv (noLoad s))) := by
  have := ro_of_nw 1 (impl_NoLoad_nw s h) (fl_dep _ _ 0)
  simpa using this


theorem noLoad_le (s : Str) : (noLoad s).length ≤ 12 := by
  unfold noLoad
  split
  · rename_i h; have := (sOk_of h).nj; simp; omega
  · simp

end Go.Proofs.YtmbcofnnibpbeaaGreat.Vm

namespace Go.Proofs.YtmbcofnnibpbeaaGreat.Vm
open Go Go.Proofs
set_option linter.unusedSimpArgs false
set_option linter.unusedVariables false

def freeL (s : Str) : List Int := if sOk s = true then frees s.js else []
theorem freeL_le (s : Str) : (freeL s).length ≤ 12 := by
  unfold freeL
  split
  · rename_i h; have := (sOk_of h).nj; have := freesTo_le s.js s.js.length; unfold frees; omega
  · simp

theorem freeJoints_ro (s : Str) (hj : s.js.length ≤ 1048576) : RO Tryz.prog 47 [.ptr s.c] (.sl (iv (frees s.js))) := by
  have := ro_of_nw 1 (freeJoints_nw s hj) (fl_dep _ _ 0)
  simpa using this

theorem l12Free_nw (s : Str) (hj : s.js.length ≤ 1048576) : NW Tryz.prog 109 [.agg s.c] (fl 1 (iv (frees s.js))) := by
  refine nw_of Tryz.func109 rfl rfl (by rw [Tryz.ntmps109]; simp) fun bl => ?_
  rw [Tryz.ntmps109, Tryz.results109]
  refine AW_run ?_
  simp [Str.c]
  intro gs hgs0 hgs g00 hg00 hgs1 hb00
  simp [hgs1, Ne.symm hgs1]
  refine AW_for (fun p : Nat × Int => [(3, .lsl p.2 1 0 (freesTo s.js p.1).length), (8, .sl (jv s.js)), (9, .int .i64 s.js.length), (10, .int .i64 p.1)]) (fun p => upd bl p.2 (some ⟨1, iv (freesTo s.js p.1)⟩)) (fun p => p.1 ≤ s.js.length ∧ bl p.2 = none ∧ (p.2 < 0 → freesTo s.js p.1 = [])) (fun p => s.js.length - p.1) _ (0, g00) ⟨Nat.zero_le _, hb00, fun _ => rfl⟩ (by refine ⟨rfl, by simp [freesTo], ?_⟩; exact sub_put (by simp [freesTo, iv]) (by simp [hgs])) ?_
  rintro ⟨i, g⟩ ⟨hi, hg, h0⟩
  simp only at hi hg h0
  have hl := freesTo_le s.js i
  refine AW_run ?_
  simp
  refine ⟨fun h => ?_, fun h => ?_⟩
  · simp [h, J.c]
    intro g1 hg1 h1g hb1
    refine ⟨fun hf => ?_, fun hf => ?_⟩
    · intro g2 hg2 h21 h2g hb2
      simp [h1g, h21, h2g, Ne.symm h1g, Ne.symm h21, Ne.symm h2g, appV, elsV, Int.not_lt.2 hg2]
      refine ⟨by omega, fun g3 hg3 hb3 => ?_⟩
      have hb3' : bl g3 = none := by grind
      simp (disch := omega) [i64_in, loopQ_normal]
      have hjf : (s.js.getD i default).fixed = false := by simpa [h] using hf
      have hs1 : freesTo s.js (i + 1) = freesTo s.js i ++ [(i : Int)] := by rw [freesTo_succ, hjf]; rfl
      refine ⟨i + 1, g3, ⟨by omega, hb3', by omega⟩, by omega, rfl, by simp [hs1], ?_⟩
      rw [hs1, iv_append]
      exact sub_put (by rw [iv_takeall]; rfl) (by simp [hg, hb1, hb2, h1g, h21, h2g])
    · simp (disch := omega) [i64_in, loopQ_normal]
      have hjf : (s.js.getD i default).fixed = true := by simpa [h] using hf
      have hs1 : freesTo s.js (i + 1) = freesTo s.js i := by rw [freesTo_succ, hjf]; simp
      refine ⟨i + 1, g, ⟨by omega, hg, by rw [hs1]; exact h0⟩, by omega, rfl, by simp [hs1], ?_⟩
      rw [hs1]
      simp [hb1, h1g]
  · have hi : i = s.js.length := by omega
    subst hi
    refine retNW [.lsl g 1 0 (freesTo s.js s.js.length).length] [g] (by simp) ?_ (by simpa using hg) (by simp [hg])
    refine own_iv.2 (.inr ⟨g, rfl, rfl, by simp [frees], h0⟩)
theorem l12Free_ro (s : Str) (hj : s.js.length ≤ 1048576) : RO Tryz.prog 109 [.agg s.c] (.sl (iv (frees s.js))) := by
  have := ro_of_nw 1 (l12Free_nw s hj) (fl_dep _ _ 0)
  simpa using this

theorem impl_FreeJoints_nw (s : Str) (h : s.sz) : NW Tryz.prog 13 [.agg s.c] (fl 1 (iv (freeL s))) := by
  refine nw_of Tryz.func13 rfl rfl (by rw [Tryz.ntmps13]; simp) fun bl => ?_
  rw [Tryz.ntmps13, Tryz.results13]
  refine AW_run ?_
  simp [Str.c]
  intro g hg0 hg
  refine callP_ro (impl_StructureOk_ro s h.js h.ms h.nm) ?_
  simp
  refine ⟨fun h => ?_, fun h => ?_⟩
  · refine retNW [.nils] [] rfl ?_ (by simp) (by simp [hg])
    exact own_iv.2 (.inl ⟨by simp [freeL, h], rfl, rfl⟩)
  · have h6 := (sOk_of h).nj
    refine callP_lend 2 (ys := [.ptr s.c]) (by simp [frz, V.cl, Str.c]) (freeJoints_nw s (by omega)) (sc_iv _) fun v gs b o f fr => ?_
    simp
    refine retNW [v] gs rfl ?_ (fun x hx => ?_) (fun x b hx => ?_)
    · simp [freeL, h]; exact o
    · have := f x hx; simp [upd_apply] at this; exact this.2
    · exact new_keep f fr (by rw [upd_apply, if_neg (fun e => by rw [e, hg] at hx; cases hx)]; exact hx)

theorem impl_FreeJoints_ro (s : Str) (h : s.sz) : RO Tryz.prog 13 [.agg s.c] (.sl (iv (freeL s))) := by
  have := ro_of_nw 1 (impl_FreeJoints_nw s h) (fl_dep _ _ 0)
  simpa using this

def degOf (s : Str) : Int := if sOk s = true then s.ms.length - 2 * (frees s.js).length else 0

theorem impl_DegreeOf_ro (s : Str) (h : s.sz) : RO Tryz.prog 31 [.agg s.c] (.int .i64 (degOf s)) := by
  refine ro_of2 Tryz.func31 rfl rfl (by rw [Tryz.ntmps31]; simp) fun bl => ?_
  rw [Tryz.ntmps31, Tryz.results31]
  refine AW_run ?_
  simp [Str.c]
  intro g hg0 hg
  refine callP_ro (impl_StructureOk_ro s h.js h.ms h.nm) ?_
  simp
  refine ⟨fun h => ?_, fun h => ?_⟩
  · exact retRO [_] 0 rfl (by simp [degOf, h, frz]) (by simp [hg])
  · have h6 := (sOk_of h).nj
    have h7 := (sOk_of h).nm
    have h8 := freesTo_le s.js s.js.length
    refine AW_frzAt 2 1 (.ptr s.c) bl (by simp [hg]) (by simp [frz, dropB, V.cl, Str.c, hg]) ?_
    refine AW_quiet mixedO (by kernel_rfl) ?_
    simp [Str.c]
    refine hcQ_ro (freeJoints_ro s (by omega)) ?_
    simp
    simp (disch := (unfold frees; omega)) [i64_in]
    exact retRO [_] 0 rfl (by simp [degOf, h, frz]) (Sub.refl _)

end Go.Proofs.YtmbcofnnibpbeaaGreat.Vm

namespace Go.Proofs.YtmbcofnnibpbeaaGreat.Vm
open Go Go.Proofs
set_option linter.unusedSimpArgs false
set_option linter.unusedVariables false

theorem vecX_le (s : Str) (k : Int) : -100 ≤ vecX s k ∧ vecX s k ≤ 100 := by
  unfold vecX
  split
  · rename_i h
    simp at h
    have hs := sOk_of h.2
    obtain ⟨⟨a1, a2⟩, ⟨b1, b2⟩⟩ := hs.ix _ (mat_mem h.1.1 h.1.2)
    have ca := hs.at a1 a2
    have cb := hs.at b1 b2
    unfold vx
    omega
  · omega
theorem vecY_le (s : Str) (k : Int) : -100 ≤ vecY s k ∧ vecY s k ≤ 100 := by
  unfold vecY
  split
  · rename_i h
    simp at h
    have hs := sOk_of h.2
    obtain ⟨⟨a1, a2⟩, ⟨b1, b2⟩⟩ := hs.ix _ (mat_mem h.1.1 h.1.2)
    have ca := hs.at a1 a2
    have cb := hs.at b1 b2
    unfold vy
    omega
  · omega
def sqOf (s : Str) (k : Int) : Int := IntKind.i64.wrap (IntKind.i64.wrap (vecX s k * vecX s k) + IntKind.i64.wrap (vecY s k * vecY s k))
end Go.Proofs.YtmbcofnnibpbeaaGreat.Vm

namespace Go.Proofs.YtmbcofnnibpbeaaGreat.Vm
open Go Go.Proofs
set_option linter.unusedSimpArgs false
set_option linter.unusedVariables false

/-- A number of a load. -/
def lat (l : List Int) (i : Nat) : Int := l.getD i 0
theorem iv_at {l : List Int} {i : Nat} (h : i < l.length) : (iv l)[i]? = some [.int .i64 (lat l i)] := by simp [lat, h]
structure LOk (s : Str) (l : List Int) : Prop where
  sok : SOk s
  n : l.length = 2 * s.js.length
  f : ∀ i, i < l.length → -100 ≤ lat l i ∧ lat l i ≤ 100
theorem fitsL_of {js : List J} {l : List Int} (h : fitsL js l = true) : l.length = 2 * js.length ∧ ∀ i, i < l.length → -100 ≤ lat l i ∧ lat l i ≤ 100 := by
  unfold fitsL at h
  simp only [Bool.and_eq_true, decide_eq_true_eq] at h
  refine ⟨h.1, fun i hi => ?_⟩
  have := List.all_eq_true.1 h.2 l[i] (List.getElem_mem hi)
  simp [forceOk] at this
  simpa [lat, hi] using this
theorem lOk_of {s : Str} {l : List Int} (h : lOk s l = true) : LOk s l := by
  unfold lOk at h
  simp only [Bool.and_eq_true] at h
  obtain ⟨h1, h2⟩ := fitsL_of h.2
  exact ⟨sOk_of h.1, h1, h2⟩

def sumX (l : List Int) : Nat → Int
  | 0 => 0
  | n + 1 => sumX l n + lat l (2 * n)
def sumY (l : List Int) : Nat → Int
  | 0 => 0
  | n + 1 => sumY l n + lat l (2 * n + 1)
theorem sumX_le {s : Str} {l : List Int} (h : LOk s l) : ∀ n, n ≤ s.js.length → -(100 * n : Int) ≤ sumX l n ∧ sumX l n ≤ 100 * n
  | 0, _ => by simp [sumX]
  | n + 1, hn => by
    have := sumX_le h n (by omega)
    have := h.f (2 * n) (by have := h.n; omega)
    simp only [sumX]; omega
theorem sumY_le {s : Str} {l : List Int} (h : LOk s l) : ∀ n, n ≤ s.js.length → -(100 * n : Int) ≤ sumY l n ∧ sumY l n ≤ 100 * n
  | 0, _ => by simp [sumY]
  | n + 1, hn => by
    have := sumY_le h n (by omega)
    have := h.f (2 * n + 1) (by have := h.n; omega)
    simp only [sumY]; omega
def totX (s : Str) (l : List Int) : Int := if lOk s l = true then sumX l s.js.length else 0
def totY (s : Str) (l : List Int) : Int := if lOk s l = true then sumY l s.js.length else 0

def momTo (s : Str) (l : List Int) (x y : Int) : Nat → Int
  | 0 => 0
  | n + 1 => momTo s l x y n + ((jat s.js n).x - x) * lat l (2 * n + 1) - ((jat s.js n).y - y) * lat l (2 * n)
theorem mul_le {a b p q : Int} (ha : -p ≤ a ∧ a ≤ p) (hb : -q ≤ b ∧ b ≤ q) : -(p * q) ≤ a * b ∧ a * b ≤ p * q := by
  have hp : 0 ≤ p := by omega
  have hq : 0 ≤ q := by omega
  have h1 : a.natAbs ≤ p.natAbs := by omega
  have h2 : b.natAbs ≤ q.natAbs := by omega
  have h3 : (a * b).natAbs ≤ (p * q).natAbs := by rw [Int.natAbs_mul, Int.natAbs_mul]; exact Nat.mul_le_mul h1 h2
  have h4 : 0 ≤ p * q := Int.mul_nonneg hp hq
  omega
theorem mom_step {s : Str} {l : List Int} {x y : Int} (h : LOk s l) (hx : -1000 ≤ x ∧ x ≤ 1000) (hy : -1000 ≤ y ∧ y ≤ 1000) {n : Nat} (hn : n < s.js.length) :
    (-1050 ≤ (jat s.js n).x - x ∧ (jat s.js n).x - x ≤ 1050) ∧ (-1050 ≤ (jat s.js n).y - y ∧ (jat s.js n).y - y ≤ 1050) ∧
    (-105000 ≤ ((jat s.js n).x - x) * lat l (2 * n + 1) ∧ ((jat s.js n).x - x) * lat l (2 * n + 1) ≤ 105000) ∧ (-105000 ≤ ((jat s.js n).y - y) * lat l (2 * n) ∧ ((jat s.js n).y - y) * lat l (2 * n) ≤ 105000) := by
  have c := h.sok.at (n := n) (by omega) (by omega)
  have f1 := h.f (2 * n) (by have := h.n; omega)
  have f2 := h.f (2 * n + 1) (by have := h.n; omega)
  have a1 : -1050 ≤ (jat s.js n).x - x ∧ (jat s.js n).x - x ≤ 1050 := by omega
  have a2 : -1050 ≤ (jat s.js n).y - y ∧ (jat s.js n).y - y ≤ 1050 := by omega
  have m1 := mul_le a1 f2
  have m2 := mul_le a2 f1
  refine ⟨a1, a2, ?_, ?_⟩ <;> omega
theorem mom_le {s : Str} {l : List Int} {x y : Int} (h : LOk s l) (hx : -1000 ≤ x ∧ x ≤ 1000) (hy : -1000 ≤ y ∧ y ≤ 1000) : ∀ n, n ≤ s.js.length → -(210000 * n : Int) ≤ momTo s l x y n ∧ momTo s l x y n ≤ 210000 * n
  | 0, _ => by simp [momTo]
  | n + 1, hn => by
    have := mom_le h hx hy n (by omega)
    have := mom_step h hx hy (n := n) (by omega)
    simp only [momTo]; omega
def momOk (s : Str) (l : List Int) (x y : Int) : Bool := lOk s l && (decide (-1000 ≤ x) && decide (x ≤ 1000)) && (decide (-1000 ≤ y) && decide (y ≤ 1000))
def momOf (s : Str) (l : List Int) (x y : Int) : Int := if momOk s l x y = true then momTo s l x y s.js.length else 0
theorem jat_nat {js : List J} {i : Nat} (h : i < js.length) : jat js i = js[i] := by simp [jat, h]

end Go.Proofs.YtmbcofnnibpbeaaGreat.Vm

namespace Go.Proofs.YtmbcofnnibpbeaaGreat.Vm
open Go Go.Proofs
set_option linter.unusedSimpArgs false
set_option linter.unusedVariables false

theorem any_eq (l : List Int) (k : Int) : (l.any fun x => decide (k = x)) = decide (k ∈ l) := by
  rw [Bool.eq_iff_iff]; simp

end Go.Proofs.YtmbcofnnibpbeaaGreat.Vm

namespace Go.Proofs.YtmbcofnnibpbeaaGreat.Vm
open Go Go.Proofs
set_option linter.unusedSimpArgs false
set_option linter.unusedVariables false

/-- The members before n whose numbers are not in a list. -/
def keptTo (ms : List Mb) (l : List Int) (n : Nat) : List Mb := ((List.range n).filter fun (i : Nat) => !decide ((i : Int) ∈ l)).map fun (i : Nat) => ms.getD i default
theorem keptTo_succ (ms : List Mb) (l : List Int) (n : Nat) : keptTo ms l (n + 1) = keptTo ms l n ++ if (n : Int) ∈ l then [] else [ms.getD n default] := by
  unfold keptTo
  rw [List.range_succ, List.filter_append, List.map_append]
  congr 1
  by_cases h : (n : Int) ∈ l <;> simp only [List.filter_cons, List.filter_nil, h] <;> simp
theorem keptTo_le (ms : List Mb) (l : List Int) (n : Nat) : (keptTo ms l n).length ≤ n := by
  unfold keptTo
  rw [List.length_map]
  exact Nat.le_trans (List.length_filter_le _ _) (by simp)
theorem mv_append (a b : List Mb) : mv (a ++ b) = mv a ++ mv b := by simp [mv]
theorem mv_takeall (ns : List Mb) : (mv ns).take ns.length = mv ns := by rw [← mv_length ns, List.take_length]
def without (s : Str) (l : List Int) : Str := ⟨s.js, keptTo s.ms l s.ms.length⟩

end Go.Proofs.YtmbcofnnibpbeaaGreat.Vm

namespace Go.Proofs.YtmbcofnnibpbeaaGreat.Vm
open Go Go.Proofs
set_option linter.unusedSimpArgs false
set_option linter.unusedVariables false

end Go.Proofs.YtmbcofnnibpbeaaGreat.Vm

namespace Go.Proofs.YtmbcofnnibpbeaaGreat.Vm
open Go Go.Proofs
set_option linter.unusedSimpArgs false
set_option linter.unusedVariables false





/-! ### Lists of lists of numbers -/
def ivv (ws : List (List Int)) : List (List V) := ws.map fun w => [.sl (iv w)]
def dII (ws : List (List Int)) : D := .s 1 (ws.map fun w => [fl 1 (iv w)])
@[simp] theorem ivv_length (ws : List (List Int)) : (ivv ws).length = ws.length := by simp [ivv]
@[simp] theorem ivv_getE (ws : List (List Int)) (i : Nat) (h : i < (ivv ws).length) : (ivv ws)[i] = [.sl (iv (ws[i]'(by simpa using h)))] := by simp [ivv]
theorem dII_fz (ws : List (List Int)) : (dII ws).fz = .sl (ivv ws) := by
  unfold dII ivv
  rw [D.fz, fzR_map, List.map_map]
  congr 1
  exact List.map_congr_left fun w _ => by simp
theorem dII_dep (ws : List (List Int)) : (dII ws).dep 2 := by
  unfold dII
  rw [D.dep]
  refine ⟨by omega, ?_⟩
  induction ws with
  | nil => simp [D.depR]
  | cons w ws ih => simp [D.depR, D.depL, fl_dep] at ih ⊢; exact ih
theorem frz_ivv {bl : Int → Option Blk} {ws : List (List Int)} {v : V} {gs : List Int} (h : OwnD bl (dII ws) v gs) (n : Nat) : frz bl (n + 2) v = some (.sl (ivv ws)) := by
  have hd : (dII ws).dep (n + 2) := by
    unfold dII
    rw [D.dep]
    refine ⟨by omega, ?_⟩
    clear h
    induction ws with
    | nil => simp [D.depR]
    | cons w ws ih => simp [D.depR, D.depL, fl_dep] at ih ⊢; exact ih
  rw [h.frz hd, dII_fz]


end Go.Proofs.YtmbcofnnibpbeaaGreat.Vm

namespace Go.Proofs.YtmbcofnnibpbeaaGreat.Vm
open Go Go.Proofs
set_option linter.unusedSimpArgs false
set_option linter.unusedVariables false

def rowX (s : Str) (j : Int) : List Int := s.ms.map (eqX s j)
def rowY (s : Str) (j : Int) : List Int := s.ms.map (eqY s j)
def eqRows (s : Str) : List (List Int) := (frees s.js).flatMap fun j => [rowX s j, rowY s j]
def eqTo (s : Str) (n : Nat) : List (List Int) := ((frees s.js).take n).flatMap fun j => [rowX s j, rowY s j]
theorem eqTo_succ (s : Str) (n : Nat) (h : n < (frees s.js).length) : eqTo s (n + 1) = eqTo s n ++ [rowX s (frees s.js)[n], rowY s (frees s.js)[n]] := by
  unfold eqTo
  rw [List.take_add_one, List.getElem?_eq_getElem h, List.flatMap_append]
  simp
theorem eqTo_length (s : Str) : ∀ n, n ≤ (frees s.js).length → (eqTo s n).length = 2 * n
  | 0, _ => by simp [eqTo]
  | n + 1, h => by
    rw [eqTo_succ s n (by omega), List.length_append, eqTo_length s n (by omega)]
    simp; omega
@[simp] theorem rowX_length (s : Str) (j : Int) : (rowX s j).length = s.ms.length := by simp [rowX]
@[simp] theorem rowY_length (s : Str) (j : Int) : (rowY s j).length = s.ms.length := by simp [rowY]
theorem mat_nat {s : Str} {k : Nat} (h : k < s.ms.length) : mat s k = s.ms[k] := by simp [mat, h]
theorem v_le {s : Str} (hs : SOk s) {m : Mb} (hm : m ∈ s.ms) : (-100 ≤ vx s m ∧ vx s m ≤ 100) ∧ (-100 ≤ vy s m ∧ vy s m ≤ 100) := by
  obtain ⟨⟨a1, a2⟩, ⟨b1, b2⟩⟩ := hs.ix _ hm
  have ca := hs.at a1 a2
  have cb := hs.at b1 b2
  unfold vx vy
  omega

structure GrowG where
  i : Nat
  g : Int
  els : List (List V)
  gs : List Int
  b : Int → Option Blk

theorem part_next (xs : List (List V)) (z : List V) (i : Nat) (h : i < xs.length) (hz : xs[i] = z) : part xs z i = part xs z (i + 1) := by
  rw [← part_set xs z i h z hz.symm]
  have := part_get xs z i h
  apply List.ext_getElem?
  intro j
  rw [List.getElem?_set]
  split
  · rename_i e; subst e; rw [if_pos (by rw [part_length]; exact h)]; exact this
  · rfl

def eqInv (bl : Int → Option Blk) (s : Str) (p : GrowG) : Prop :=
  p.i ≤ (frees s.js).length ∧ p.b p.g = some ⟨1, p.els⟩ ∧ p.els.length = 2 * p.i ∧ OwnR p.b 1 ((eqTo s p.i).map fun w => [fl 1 (iv w)]) p.els p.gs ∧ p.g ∉ p.gs ∧ bl p.g = none ∧ (∀ x, x ∈ p.gs → bl x = none) ∧ Sub bl p.b ∧ (p.g < 0 → p.els = [])

theorem eqInv_next {bl : Int → Option Blk} {s : Str} {i : Nat} {g : Int} {els : List (List V)} {gs : List Int} {b : Int → Option Blk} (H : eqInv bl s ⟨i, g, els, gs, b⟩) (h : i < (frees s.js).length)
    {ga gb gp gn : Int} (hga : 0 ≤ ga) (hba : b ga = none) (hgb : 0 ≤ gb) (hab : ¬gb = ga) (hbb : b gb = none) (hpa : ¬gp = ga) (hpb : ¬gp = gb) (hbp : b gp = none) (hgn : 0 ≤ gn)
    (hbn : ¬gn = g → ¬gn = gp ∧ ¬gn = gb ∧ ¬gn = ga ∧ b gn = none) :
    eqInv bl s ⟨i + 1, gn, els ++ [[.lsl ga 1 0 s.ms.length]] ++ [[.lsl gb 1 0 s.ms.length]], gs ++ [ga] ++ [gb],
      upd (rem (upd (upd (upd b ga (some ⟨1, iv (rowX s (frees s.js)[i])⟩)) gb (some ⟨1, iv (rowY s (frees s.js)[i])⟩)) gp (some ⟨1, [[.lsl ga 1 0 s.ms.length], [.lsl gb 1 0 s.ms.length]]⟩)) g) gn
        (some ⟨1, els.take (2 * i) ++ [[.lsl ga 1 0 s.ms.length], [.lsl gb 1 0 s.ms.length]]⟩)⟩ := by
  obtain ⟨hi, hb, hel, ho, hn, hg, hf, hsb, hneg⟩ := H
  simp only at hi hb hel ho hn hg hf hsb hneg
  have nga : ga ≠ g := fun e => by rw [e, hb] at hba; cases hba
  have ngb : gb ≠ g := fun e => by rw [e, hb] at hbb; cases hbb
  have ngp : gp ≠ g := fun e => by rw [e, hb] at hbp; cases hbp
  have fa := fresh_of hsb hba
  have fb := fresh_of hsb hbb
  have fp := fresh_of hsb hbp
  have na : gn ≠ ga := fun e => by
    by_cases c : gn = g
    · exact nga (e.symm.trans c)
    · exact (hbn c).2.2.1 e
  have nb : gn ≠ gb := fun e => by
    by_cases c : gn = g
    · exact ngb (e.symm.trans c)
    · exact (hbn c).2.1 e
  have fn : bl gn = none := by
    by_cases c : gn = g
    · rw [c]; exact hg
    · exact fresh_of hsb (hbn c).2.2.2
  have nn : gn ∉ gs := by
    by_cases c : gn = g
    · rw [c]; exact hn
    · exact ho.not (hbn c).2.2.2
  have key : ∀ (B : Int → Option Blk) (u v w z : Option Blk), B = upd (rem (upd (upd (upd b ga u) gb v) gp w) g) gn z → ∀ x y, x ≠ g → x ≠ gn → b x = some y → B x = some y := by
    intro B u v w z hB x y c1 c2 hx
    have c3 : x ≠ ga := fun e => by rw [e, hba] at hx; cases hx
    have c4 : x ≠ gb := fun e => by rw [e, hbb] at hx; cases hx
    have c5 : x ≠ gp := fun e => by rw [e, hbp] at hx; cases hx
    rw [hB]; simp [c1, c2, c3, c4, c5, hx]
  have vx1 : ∀ xs : List Int, (iv xs).all (fun r => r.all V.cl) = true := fun xs => by simp [iv, V.cl]
  have vx2 : ∀ (xs : List Int) r, r ∈ iv xs → r.length = 1 := fun xs r hr => by
    simp [iv] at hr
    obtain ⟨_, _, rfl⟩ := hr; rfl
  have et : els.take (2 * i) = els := List.take_of_length_le (by omega)
  refine ⟨by simp only; omega, by simp [et], by simp [hel]; omega, ?_, ?_, fn, ?_, ?_, fun e => by simp only at e; omega⟩
  · simp only
    rw [eqTo_succ s i h, List.map_append, show (∀ (A : List (List D)) (x y : List Int), A ++ [x, y].map (fun w => [fl 1 (iv w)]) = A ++ [[fl 1 (iv x)]] ++ [[fl 1 (iv y)]]) from fun A x y => by simp]
    generalize hB : upd (rem (upd (upd (upd b ga (some ⟨1, iv (rowX s (frees s.js)[i])⟩)) gb (some ⟨1, iv (rowY s (frees s.js)[i])⟩)) gp (some ⟨1, [[.lsl ga 1 0 s.ms.length], [.lsl gb 1 0 s.ms.length]]⟩)) g) gn
        (some ⟨1, els.take (2 * i) ++ [[.lsl ga 1 0 s.ms.length], [.lsl gb 1 0 s.ms.length]]⟩) = B
    have o0 := ho.keep fun x hx y hy => key _ _ _ _ _ hB.symm x y (fun e => hn (e ▸ hx)) (fun e => nn (e ▸ hx)) hy
    have oa : OwnD B (fl 1 (iv (rowX s (frees s.js)[i]))) (.lsl ga 1 0 s.ms.length) [ga] := (own_fl (vx1 _) (vx2 _)).2 (.inr ⟨ga, by simp, rfl, by rw [← hB]; simp [Ne.symm na, Ne.symm hpa, Ne.symm hab, nga], by omega⟩)
    have ob : OwnD B (fl 1 (iv (rowY s (frees s.js)[i]))) (.lsl gb 1 0 s.ms.length) [gb] := (own_fl (vx1 _) (vx2 _)).2 (.inr ⟨gb, by simp, rfl, by rw [← hB]; simp [Ne.symm nb, Ne.symm hpb, ngb], by omega⟩)
    refine OwnR.snoc (own_single.2 ob) rfl (by simp) (OwnR.snoc (own_single.2 oa) rfl (by simp) o0 ?_) ?_
    · intro x hx hx2
      rw [List.mem_singleton] at hx2
      exact ho.not hba (hx2 ▸ hx)
    · intro x hx hx2
      rw [List.mem_singleton] at hx2
      subst hx2
      rcases List.mem_append.1 hx with hx | hx
      · exact ho.not hbb hx
      · rw [List.mem_singleton] at hx; exact hab hx
  · simp [nn, na, nb]
  · intro x hx
    simp at hx
    rcases hx with hx | hx | hx
    · exact hf x hx
    · rw [hx]; exact fa
    · rw [hx]; exact fb
  · intro x y hx
    exact key _ _ _ _ _ rfl x y (fun e => by rw [e, hg] at hx; cases hx) (fun e => by rw [e, fn] at hx; cases hx) (hsb x y hx)

set_option maxHeartbeats 2000000 in
theorem equilibrium_nw (s : Str) (hs : SOk s) : NW Tryz.prog 94 [.ptr s.c] (dII (eqRows s)) := by
  have h6 := hs.nj
  have h8 := hs.nm
  have hfr := freesTo_le s.js s.js.length
  change (frees s.js).length ≤ s.js.length at hfr
  refine nw_of Tryz.func94 rfl rfl (by rw [Tryz.ntmps94]; simp) fun bl => ?_
  rw [Tryz.ntmps94, Tryz.results94]
  refine AW_run ?_
  simp
  refine callP_ro (freeJoints_ro s (by omega)) ?_
  simp
  refine AW_ghost 3 1 (by simp) fun g00 hg00 => ?_
  simp at hg00
  refine AW_for (fun p : GrowG => [(0, .ptr s.c), (3, .lsl p.g 1 0 (2 * p.i)), (13, .sl (iv (frees s.js))), (14, .int .i64 (frees s.js).length), (15, .int .i64 p.i)]) (fun p => p.b)
    (eqInv bl s)
    (fun p => (frees s.js).length - p.i) 82 ⟨0, g00, [], [], upd bl g00 (some ⟨1, []⟩)⟩ ⟨Nat.zero_le _, by simp, rfl, by simp [eqTo, OwnR], by simp, hg00, by simp, by simp [hg00], fun _ => rfl⟩ ⟨rfl, by simp, by simp⟩ ?_
  rintro ⟨i, g, els, gs, b⟩ ⟨hi, hb, hel, ho, hn, hg, hf, hsb, hneg⟩
  simp only at hi hb hel ho hn hg hf hsb hneg
  refine AW_run ?_
  simp
  refine ⟨fun h => ?_, fun h => ?_⟩
  · have q := iv_get (frees s.js) i h
    simp [h]
    obtain ⟨j, hj⟩ : ∃ j, (frees s.js)[i] = j := ⟨_, rfl⟩
    rw [hj]
    refine AW_mixed mixedO [0, 1, 2, 3, 4, 6, 7, 8, 9, 10] 4 (by kernel_rfl) ?_
    simp [Str.c]
    refine DAny_two (i := 5) (j := 11) (by kernel_rfl) rfl rfl rfl rfl ?_ ?_
    · simp
      refine ⟨by omega, by unfold maxLen; omega, fun ga hga hba => ⟨by simp [hba], ?_⟩⟩
      refine DAny_two (i := 11) (j := 12) (by kernel_rfl) rfl rfl rfl rfl ?_ ?_
      · simp
        refine ⟨by omega, by unfold maxLen; omega, fun gb hgb hab hbb => ⟨by simp [hba, hbb, hab], ?_⟩⟩
        refine DAny_one (i := 12) (by kernel_rfl) rfl rfl ?_
        simp
        refine ⟨by simp [hba, hbb, hab], DAny_one (i := 13) (by kernel_rfl) rfl rfl ?_⟩
        simp
        refine ⟨by simp [hba, hbb, hab], DAny_done (by kernel_rfl) ?_⟩
        simp [Str.c]
        -- the state behind the region
        have nga : ga ≠ g := fun e => by rw [e, hb] at hba; cases hba
        have ngb : gb ≠ g := fun e => by rw [e, hb] at hbb; cases hbb
        have fa := fresh_of hsb hba
        have fb := fresh_of hsb hbb
        have er : List.replicate s.ms.length [V.int IntKind.i64 0] = part (iv (rowX s j)) [.int .i64 0] 0 := by simp
        have er' : List.replicate s.ms.length [V.int IntKind.i64 0] = part (iv (rowY s j)) [.int .i64 0] 0 := by simp
        refine AW_for (fun k : Nat => [(0, .ptr s.c), (3, .lsl g 1 0 (2 * i)), (5, .int .i64 j), (6, .lsl ga 1 0 s.ms.length), (7, .lsl gb 1 0 s.ms.length), (13, .sl (iv (frees s.js))), (14, .int .i64 (frees s.js).length), (15, .int .i64 i), (34, .sl (mv s.ms)), (35, .int .i64 s.ms.length), (36, .int .i64 k)])
          (fun k => upd (upd b ga (some ⟨1, part (iv (rowX s j)) [.int .i64 0] k⟩)) gb (some ⟨1, part (iv (rowY s j)) [.int .i64 0] k⟩)) (fun k => k ≤ s.ms.length) (fun k => s.ms.length - k) 82 0 (Nat.zero_le _) ⟨rfl, by simp [Str.c], ?_⟩ ?_
        · intro x y hx
          simp only [upd_apply, part_zero, iv_length, rowX_length, rowY_length] at hx ⊢
          grind
        intro k hk
        refine AW_run ?_
        simp
        refine ⟨fun hkl => ?_, fun hkl => ?_⟩
        · have hv := v_le hs (List.getElem_mem hkl)
          have hm : mat s (k : Int) = s.ms[k] := mat_nat hkl
          have hvec := vector_ro s k hs (by omega) (by omega)
          rw [hm] at hvec
          have hx : k < (iv (rowX s j)).length := by simpa using hkl
          have hy : k < (iv (rowY s j)).length := by simpa using hkl
          have w1 : IntKind.i64.wrap ((k : Int) + 1) = k + 1 := i64_in (by omega) (by omega)
          have nx : IntKind.i64.wrap (-vx s s.ms[k]) = -vx s s.ms[k] := i64_in (by omega) (by omega)
          have ny : IntKind.i64.wrap (-vy s s.ms[k]) = -vy s s.ms[k] := i64_in (by omega) (by omega)
          have px := part_get (iv (rowX s j)) [.int .i64 0] k hx
          have py := part_get (iv (rowY s j)) [.int .i64 0] k hy
          simp [hkl, Mb.c]
          intro g9 hg9 h9b h9a hb9
          refine callP_ro hvec ?_
          simp
          refine ⟨fun e1 => ?_, fun e1 => ?_⟩
          · simp [hab, Ne.symm hab, h9a, h9b, Ne.symm h9a, Ne.symm h9b, hkl, px, py, w1, loopQ_normal]
            have sx := part_set (iv (rowX s j)) [.int .i64 0] k hx [.int .i64 (vx s s.ms[k])] (by simp [rowX, eqX, e1])
            have sy := part_set (iv (rowY s j)) [.int .i64 0] k hy [.int .i64 (vy s s.ms[k])] (by simp [rowY, eqY, e1])
            refine ⟨k + 1, by omega, by omega, rfl, by simp, ?_⟩
            intro x y hx'
            rw [← sx, ← sy] at hx'
            simp only [upd_apply] at hx' ⊢
            grind
          · simp [hab, Ne.symm hab, h9a, h9b, Ne.symm h9a, Ne.symm h9b, hkl, px, py, w1, nx, ny, loopQ_normal]
            refine ⟨fun e2 => ?_, fun e2 => ?_⟩
            · have fx : eqX s j s.ms[k] = -vx s s.ms[k] := by rw [eqX, if_neg e1, if_pos e2]
              have fy : eqY s j s.ms[k] = -vy s s.ms[k] := by rw [eqY, if_neg e1, if_pos e2]
              have sx := part_set (iv (rowX s j)) [.int .i64 0] k hx [.int .i64 (-vx s s.ms[k])] (by simp [rowX, fx])
              have sy := part_set (iv (rowY s j)) [.int .i64 0] k hy [.int .i64 (-vy s s.ms[k])] (by simp [rowY, fy])
              refine ⟨k + 1, by omega, by omega, rfl, by simp, ?_⟩
              intro x y hx'
              rw [← sx, ← sy] at hx'
              simp only [upd_apply] at hx' ⊢
              grind
            · have sx := part_next (iv (rowX s j)) [.int .i64 0] k hx (by simp [rowX, eqX, e1, e2])
              have sy := part_next (iv (rowY s j)) [.int .i64 0] k hy (by simp [rowY, eqY, e1, e2])
              refine ⟨k + 1, by omega, by omega, rfl, by simp, ?_⟩
              intro x y hx'
              rw [← sx, ← sy] at hx'
              simp only [upd_apply] at hx' ⊢
              grind
        · have : k = s.ms.length := by omega
          subst this
          rw [part_all _ _ _ (by simp), part_all _ _ _ (by simp)]
          intro gp hgp hpb hpa hbp
          have npg : gp ≠ g := fun e => by rw [e, hb] at hbp; cases hbp
          have er2 : List.range 2 = [0, 1] := rfl
          simp [er2, appV, elsV, Int.not_lt.2 hgp, hpb, hpa, Ne.symm hpb, Ne.symm hpa, nga, ngb, Ne.symm nga, Ne.symm ngb, npg, Ne.symm npg, hb, hel]
          refine ⟨by omega, fun gn hgn hbn => ?_⟩
          have w9 : IntKind.i64.wrap ((i : Int) + 1) = i + 1 := i64_in (by omega) (by omega)
          rw [loopQ_normal]
          subst hj
          have nx := eqInv_next ⟨hi, hb, hel, ho, hn, hg, hf, hsb, hneg⟩ h hga hba hgb hab hbb hpa hpb hbp hgn hbn
          refine ⟨_, nx, by simp only; omega, rfl, ?_, sub_eq rfl⟩
          simp [w9]; exact ⟨rfl, by omega⟩
      · simp
        refine ⟨by simp [hba], DAny_one (i := 11) (by kernel_rfl) rfl rfl ?_⟩
        simp
        refine ⟨by omega, by unfold maxLen; omega, fun gb hgb hab hbb => ⟨by simp [hba, hbb, hab], ?_⟩⟩
        refine DAny_one (i := 13) (by kernel_rfl) rfl rfl ?_
        simp
        refine ⟨by simp [hba, hbb, hab], DAny_done (by kernel_rfl) ?_⟩
        simp [Str.c]
        -- the state behind the region
        have nga : ga ≠ g := fun e => by rw [e, hb] at hba; cases hba
        have ngb : gb ≠ g := fun e => by rw [e, hb] at hbb; cases hbb
        have fa := fresh_of hsb hba
        have fb := fresh_of hsb hbb
        have er : List.replicate s.ms.length [V.int IntKind.i64 0] = part (iv (rowX s j)) [.int .i64 0] 0 := by simp
        have er' : List.replicate s.ms.length [V.int IntKind.i64 0] = part (iv (rowY s j)) [.int .i64 0] 0 := by simp
        refine AW_for (fun k : Nat => [(0, .ptr s.c), (3, .lsl g 1 0 (2 * i)), (5, .int .i64 j), (6, .lsl ga 1 0 s.ms.length), (7, .lsl gb 1 0 s.ms.length), (13, .sl (iv (frees s.js))), (14, .int .i64 (frees s.js).length), (15, .int .i64 i), (34, .sl (mv s.ms)), (35, .int .i64 s.ms.length), (36, .int .i64 k)])
          (fun k => upd (upd b ga (some ⟨1, part (iv (rowX s j)) [.int .i64 0] k⟩)) gb (some ⟨1, part (iv (rowY s j)) [.int .i64 0] k⟩)) (fun k => k ≤ s.ms.length) (fun k => s.ms.length - k) 82 0 (Nat.zero_le _) ⟨rfl, by simp [Str.c], ?_⟩ ?_
        · intro x y hx
          simp only [upd_apply, part_zero, iv_length, rowX_length, rowY_length] at hx ⊢
          grind
        intro k hk
        refine AW_run ?_
        simp
        refine ⟨fun hkl => ?_, fun hkl => ?_⟩
        · have hv := v_le hs (List.getElem_mem hkl)
          have hm : mat s (k : Int) = s.ms[k] := mat_nat hkl
          have hvec := vector_ro s k hs (by omega) (by omega)
          rw [hm] at hvec
          have hx : k < (iv (rowX s j)).length := by simpa using hkl
          have hy : k < (iv (rowY s j)).length := by simpa using hkl
          have w1 : IntKind.i64.wrap ((k : Int) + 1) = k + 1 := i64_in (by omega) (by omega)
          have nx : IntKind.i64.wrap (-vx s s.ms[k]) = -vx s s.ms[k] := i64_in (by omega) (by omega)
          have ny : IntKind.i64.wrap (-vy s s.ms[k]) = -vy s s.ms[k] := i64_in (by omega) (by omega)
          have px := part_get (iv (rowX s j)) [.int .i64 0] k hx
          have py := part_get (iv (rowY s j)) [.int .i64 0] k hy
          simp [hkl, Mb.c]
          intro g9 hg9 h9b h9a hb9
          refine callP_ro hvec ?_
          simp
          refine ⟨fun e1 => ?_, fun e1 => ?_⟩
          · simp [hab, Ne.symm hab, h9a, h9b, Ne.symm h9a, Ne.symm h9b, hkl, px, py, w1, loopQ_normal]
            have sx := part_set (iv (rowX s j)) [.int .i64 0] k hx [.int .i64 (vx s s.ms[k])] (by simp [rowX, eqX, e1])
            have sy := part_set (iv (rowY s j)) [.int .i64 0] k hy [.int .i64 (vy s s.ms[k])] (by simp [rowY, eqY, e1])
            refine ⟨k + 1, by omega, by omega, rfl, by simp, ?_⟩
            intro x y hx'
            rw [← sx, ← sy] at hx'
            simp only [upd_apply] at hx' ⊢
            grind
          · simp [hab, Ne.symm hab, h9a, h9b, Ne.symm h9a, Ne.symm h9b, hkl, px, py, w1, nx, ny, loopQ_normal]
            refine ⟨fun e2 => ?_, fun e2 => ?_⟩
            · have fx : eqX s j s.ms[k] = -vx s s.ms[k] := by rw [eqX, if_neg e1, if_pos e2]
              have fy : eqY s j s.ms[k] = -vy s s.ms[k] := by rw [eqY, if_neg e1, if_pos e2]
              have sx := part_set (iv (rowX s j)) [.int .i64 0] k hx [.int .i64 (-vx s s.ms[k])] (by simp [rowX, fx])
              have sy := part_set (iv (rowY s j)) [.int .i64 0] k hy [.int .i64 (-vy s s.ms[k])] (by simp [rowY, fy])
              refine ⟨k + 1, by omega, by omega, rfl, by simp, ?_⟩
              intro x y hx'
              rw [← sx, ← sy] at hx'
              simp only [upd_apply] at hx' ⊢
              grind
            · have sx := part_next (iv (rowX s j)) [.int .i64 0] k hx (by simp [rowX, eqX, e1, e2])
              have sy := part_next (iv (rowY s j)) [.int .i64 0] k hy (by simp [rowY, eqY, e1, e2])
              refine ⟨k + 1, by omega, by omega, rfl, by simp, ?_⟩
              intro x y hx'
              rw [← sx, ← sy] at hx'
              simp only [upd_apply] at hx' ⊢
              grind
        · have : k = s.ms.length := by omega
          subst this
          rw [part_all _ _ _ (by simp), part_all _ _ _ (by simp)]
          intro gp hgp hpb hpa hbp
          have npg : gp ≠ g := fun e => by rw [e, hb] at hbp; cases hbp
          have er2 : List.range 2 = [0, 1] := rfl
          simp [er2, appV, elsV, Int.not_lt.2 hgp, hpb, hpa, Ne.symm hpb, Ne.symm hpa, nga, ngb, Ne.symm nga, Ne.symm ngb, npg, Ne.symm npg, hb, hel]
          refine ⟨by omega, fun gn hgn hbn => ?_⟩
          have w9 : IntKind.i64.wrap ((i : Int) + 1) = i + 1 := i64_in (by omega) (by omega)
          rw [loopQ_normal]
          subst hj
          have nx := eqInv_next ⟨hi, hb, hel, ho, hn, hg, hf, hsb, hneg⟩ h hga hba hgb hab hbb hpa hpb hbp hgn hbn
          refine ⟨_, nx, by simp only; omega, rfl, ?_, sub_eq rfl⟩
          simp [w9]; exact ⟨rfl, by omega⟩
    · simp
      refine ⟨by omega, by unfold maxLen; omega, fun gb hgb hbb => ⟨by simp [hbb], ?_⟩⟩
      refine DAny_one (i := 5) (by kernel_rfl) rfl rfl ?_
      simp
      refine ⟨by omega, by unfold maxLen; omega, fun ga hga hab hba => ⟨by simp [hba, hbb, hab], ?_⟩⟩
      refine DAny_one (i := 12) (by kernel_rfl) rfl rfl ?_
      simp
      refine ⟨by simp [hba, hbb, hab], DAny_one (i := 13) (by kernel_rfl) rfl rfl ?_⟩
      simp
      refine ⟨by simp [hba, hbb, hab], DAny_done (by kernel_rfl) ?_⟩
      simp [Str.c]
      -- the state behind the region
      have nga : ga ≠ g := fun e => by rw [e, hb] at hba; cases hba
      have ngb : gb ≠ g := fun e => by rw [e, hb] at hbb; cases hbb
      have fa := fresh_of hsb hba
      have fb := fresh_of hsb hbb
      have er : List.replicate s.ms.length [V.int IntKind.i64 0] = part (iv (rowX s j)) [.int .i64 0] 0 := by simp
      have er' : List.replicate s.ms.length [V.int IntKind.i64 0] = part (iv (rowY s j)) [.int .i64 0] 0 := by simp
      refine AW_for (fun k : Nat => [(0, .ptr s.c), (3, .lsl g 1 0 (2 * i)), (5, .int .i64 j), (6, .lsl ga 1 0 s.ms.length), (7, .lsl gb 1 0 s.ms.length), (13, .sl (iv (frees s.js))), (14, .int .i64 (frees s.js).length), (15, .int .i64 i), (34, .sl (mv s.ms)), (35, .int .i64 s.ms.length), (36, .int .i64 k)])
        (fun k => upd (upd b ga (some ⟨1, part (iv (rowX s j)) [.int .i64 0] k⟩)) gb (some ⟨1, part (iv (rowY s j)) [.int .i64 0] k⟩)) (fun k => k ≤ s.ms.length) (fun k => s.ms.length - k) 82 0 (Nat.zero_le _) ⟨rfl, by simp [Str.c], ?_⟩ ?_
      · intro x y hx
        simp only [upd_apply, part_zero, iv_length, rowX_length, rowY_length] at hx ⊢
        grind
      intro k hk
      refine AW_run ?_
      simp
      refine ⟨fun hkl => ?_, fun hkl => ?_⟩
      · have hv := v_le hs (List.getElem_mem hkl)
        have hm : mat s (k : Int) = s.ms[k] := mat_nat hkl
        have hvec := vector_ro s k hs (by omega) (by omega)
        rw [hm] at hvec
        have hx : k < (iv (rowX s j)).length := by simpa using hkl
        have hy : k < (iv (rowY s j)).length := by simpa using hkl
        have w1 : IntKind.i64.wrap ((k : Int) + 1) = k + 1 := i64_in (by omega) (by omega)
        have nx : IntKind.i64.wrap (-vx s s.ms[k]) = -vx s s.ms[k] := i64_in (by omega) (by omega)
        have ny : IntKind.i64.wrap (-vy s s.ms[k]) = -vy s s.ms[k] := i64_in (by omega) (by omega)
        have px := part_get (iv (rowX s j)) [.int .i64 0] k hx
        have py := part_get (iv (rowY s j)) [.int .i64 0] k hy
        simp [hkl, Mb.c]
        intro g9 hg9 h9b h9a hb9
        refine callP_ro hvec ?_
        simp
        refine ⟨fun e1 => ?_, fun e1 => ?_⟩
        · simp [hab, Ne.symm hab, h9a, h9b, Ne.symm h9a, Ne.symm h9b, hkl, px, py, w1, loopQ_normal]
          have sx := part_set (iv (rowX s j)) [.int .i64 0] k hx [.int .i64 (vx s s.ms[k])] (by simp [rowX, eqX, e1])
          have sy := part_set (iv (rowY s j)) [.int .i64 0] k hy [.int .i64 (vy s s.ms[k])] (by simp [rowY, eqY, e1])
          refine ⟨k + 1, by omega, by omega, rfl, by simp, ?_⟩
          intro x y hx'
          rw [← sx, ← sy] at hx'
          simp only [upd_apply] at hx' ⊢
          grind
        · simp [hab, Ne.symm hab, h9a, h9b, Ne.symm h9a, Ne.symm h9b, hkl, px, py, w1, nx, ny, loopQ_normal]
          refine ⟨fun e2 => ?_, fun e2 => ?_⟩
          · have fx : eqX s j s.ms[k] = -vx s s.ms[k] := by rw [eqX, if_neg e1, if_pos e2]
            have fy : eqY s j s.ms[k] = -vy s s.ms[k] := by rw [eqY, if_neg e1, if_pos e2]
            have sx := part_set (iv (rowX s j)) [.int .i64 0] k hx [.int .i64 (-vx s s.ms[k])] (by simp [rowX, fx])
            have sy := part_set (iv (rowY s j)) [.int .i64 0] k hy [.int .i64 (-vy s s.ms[k])] (by simp [rowY, fy])
            refine ⟨k + 1, by omega, by omega, rfl, by simp, ?_⟩
            intro x y hx'
            rw [← sx, ← sy] at hx'
            simp only [upd_apply] at hx' ⊢
            grind
          · have sx := part_next (iv (rowX s j)) [.int .i64 0] k hx (by simp [rowX, eqX, e1, e2])
            have sy := part_next (iv (rowY s j)) [.int .i64 0] k hy (by simp [rowY, eqY, e1, e2])
            refine ⟨k + 1, by omega, by omega, rfl, by simp, ?_⟩
            intro x y hx'
            rw [← sx, ← sy] at hx'
            simp only [upd_apply] at hx' ⊢
            grind
      · have : k = s.ms.length := by omega
        subst this
        rw [part_all _ _ _ (by simp), part_all _ _ _ (by simp)]
        intro gp hgp hpb hpa hbp
        have npg : gp ≠ g := fun e => by rw [e, hb] at hbp; cases hbp
        have er2 : List.range 2 = [0, 1] := rfl
        simp [er2, appV, elsV, Int.not_lt.2 hgp, hpb, hpa, Ne.symm hpb, Ne.symm hpa, nga, ngb, Ne.symm nga, Ne.symm ngb, npg, Ne.symm npg, hb, hel]
        refine ⟨by omega, fun gn hgn hbn => ?_⟩
        have w9 : IntKind.i64.wrap ((i : Int) + 1) = i + 1 := i64_in (by omega) (by omega)
        rw [loopQ_normal]
        subst hj
        have nx := eqInv_next ⟨hi, hb, hel, ho, hn, hg, hf, hsb, hneg⟩ h hga hba hgb (Ne.symm hab) hbb hpa hpb hbp hgn hbn
        refine ⟨_, nx, by simp only; omega, rfl, ?_, sub_eq rfl⟩
        simp [w9]; exact ⟨rfl, by omega⟩
  · have : i = (frees s.js).length := by omega
    subst this
    refine retNW [.lsl g 1 0 (2 * (frees s.js).length)] (g :: gs) (by simp) ?_ ?_ hsb
    · unfold dII
      rw [OwnD]
      have e : eqRows s = eqTo s (frees s.js).length := by simp [eqTo, eqRows]
      refine .inr ⟨g, els, gs, by rw [e, List.length_map, eqTo_length s _ (Nat.le_refl _)]; rfl, rfl, hn, hb, hneg, ?_⟩
      rw [e]; exact ho
    · intro x hx
      rcases List.mem_cons.1 hx with rfl | hx
      · exact hg
      · exact hf x hx

end Go.Proofs.YtmbcofnnibpbeaaGreat.Vm

namespace Go.Proofs.YtmbcofnnibpbeaaGreat.Vm
open Go Go.Proofs
set_option linter.unusedSimpArgs false
set_option linter.unusedVariables false

theorem u64_in2 {n : Int} (h0 : 0 ≤ n) (h1 : n ≤ 18446744073709551615) : IntKind.u64.wrap n = n := IntWalk.u64_in _ ⟨by omega, by omega⟩
theorem integer_ro (n : Int) (hn : -9223372036854775808 ≤ n ∧ n ≤ 9223372036854775807) : RO Tryz.prog 129 [.int .i64 n] (.agg (biC n)) := by
  refine ro_of2 Tryz.func129 rfl rfl (by rw [Tryz.ntmps129]; simp) fun bl => ?_
  rw [Tryz.ntmps129, Tryz.results129]
  refine AW_run ?_
  simp
  intro g hg0 hg
  refine ⟨fun h => ?_, fun h => ?_⟩
  · have e : IntKind.u64.wrap (IntKind.u64.wrap (IntKind.i64.wrap (-IntKind.i64.wrap (n + 1))) + 1) = (n.natAbs : Int) := by
      have w1 : IntKind.i64.wrap (n + 1) = n + 1 := i64_in (by omega) (by omega)
      have w2 : IntKind.i64.wrap (-(n + 1)) = -(n + 1) := i64_in (by omega) (by omega)
      have w3 : IntKind.u64.wrap (-(n + 1)) = -(n + 1) := u64_in2 (by omega) (by omega)
      have w4 : IntKind.u64.wrap (-(n + 1) + 1) = -(n + 1) + 1 := u64_in2 (by omega) (by omega)
      rw [w1, w2, w3, w4]
      omega
    rw [e]
    refine callP_ro (limbsOf_ro n.natAbs (by omega)) ?_
    simp
    refine callP_ro (signed_ro true n.natAbs) ?_
    have e2 : sg true n.natAbs = n := by unfold sg; simp; omega
    rw [e2, biC_def]
    simp
    exact retRO [.agg (biC n)] 1 (by simp [biC_def]) (by simp [frz, biC_def, V.cl]) (by simp [hg])
  · have e : IntKind.u64.wrap n = (n.natAbs : Int) := by rw [u64_in2 (by omega) (by omega)]; omega
    rw [e]
    refine callP_ro (limbsOf_ro n.natAbs (by omega)) ?_
    simp
    refine callP_ro (signed_ro false n.natAbs) ?_
    have e2 : sg false n.natAbs = n := by unfold sg; simp; omega
    rw [e2, biC_def]
    simp
    exact retRO [.agg (biC n)] 1 (by simp [biC_def]) (by simp [frz, biC_def, V.cl]) (by simp [hg])
theorem BigIntOf_ro (n : Int) (hn : -9223372036854775808 < n ∧ n ≤ 9223372036854775807) : RO Tryz.prog 138 [.int .i64 n] (.agg (biC n)) := by
  have hl : (lim n.natAbs).length ≤ 60 := lim_length_le.2 (Nat.lt_of_le_of_lt (show n.natAbs ≤ 9223372036854775808 by omega) (by decide +kernel))
  refine ro_of2 Tryz.func138 rfl rfl (by rw [Tryz.ntmps138]; simp) fun bl => ?_
  rw [Tryz.ntmps138, Tryz.results138]
  refine AW_run ?_
  simp
  intro g hg0 hg
  have h0 : ¬ n = -9223372036854775808 := by omega
  simp [h0]
  refine ⟨fun h => ?_, fun h => ?_⟩
  · have e : IntKind.i64.wrap (-n) = (n.natAbs : Int) := by rw [i64_in (by omega) (by omega)]; omega
    try rw [e]
    refine callP_ro (spec_NatOf_ro n.natAbs (by omega)) ?_
    simp
    refine callP_ro (l03Make_ro true n.natAbs hl) ?_
    have e2 : sg true n.natAbs = n := by unfold sg; simp; omega
    rw [e2, biC_def]
    simp
    exact retRO [.agg (biC n)] 1 (by simp [biC_def]) (by simp [frz, biC_def, V.cl]) (by simp [hg])
  · have e : n = (n.natAbs : Int) := by omega
    have hN := spec_NatOf_ro n.natAbs (by omega)
    rw [← e] at hN
    refine callP_ro hN ?_
    simp
    refine callP_ro (l03Make_ro false n.natAbs hl) ?_
    have e2 : sg false n.natAbs = n := by unfold sg; simp; omega
    rw [e2, biC_def]
    simp
    exact retRO [.agg (biC n)] 1 (by simp [biC_def]) (by simp [frz, biC_def, V.cl]) (by simp [hg])

theorem rq_int (n : Int) : (rq (n : Rat)).c = [.bool (decide (n < 0)), .sl (iv (lim n.natAbs)), .sl [[.int .i64 1]]] := by
  rw [rqc_def]
  show [V.bool (decide (n < 0)), V.sl (iv (lim n.natAbs)), V.sl (iv (lim 1))] = _
  rw [lim1]; rfl
theorem okQ_int {n : Int} (hn : -9223372036854775808 ≤ n ∧ n ≤ 9223372036854775807) : okQ (some (n : Rat)) := fun q h => by
  cases h; exact fits_int (by omega)
theorem RatFromInt_ro (n : Int) (hn : -9223372036854775808 < n ∧ n ≤ 9223372036854775807) : RO Tryz.prog 105 [.int .i64 n] (.agg (ro (some (n : Rat))).c) := by
  refine ro_of2 Tryz.func105 rfl rfl (by rw [Tryz.ntmps105]; simp) fun bl => ?_
  rw [Tryz.ntmps105, Tryz.results105]
  refine AW_run ?_
  rw [show (ro (some (n : Rat))).c = _ from rq_int n]
  simp
  intro g hg0 hg
  refine callP_ro (BigIntOf_ro n hn) ?_
  simp [biC_def]
  intro g1 hg1 h1g hb1
  simp [h1g, Ne.symm h1g]
  refine retRO [.agg [.bool (decide (n < 0)), .sl (iv (lim n.natAbs)), .lsl g1 1 0 1]] 2 (by simp [h1g, Ne.symm h1g]) ?_ (by simp [hg, hb1])
  exact frz_rat (ns := [1]) (.inl hg1) hb1 (by simp [h1g, iv])
theorem whole_ro (n : Int) (hn : -9223372036854775808 ≤ n ∧ n ≤ 9223372036854775807) : RO Tryz.prog 72 [.int .i64 n] (fv (some (n : Rat))) := by
  refine ro_of2 Tryz.func72 rfl rfl (by rw [Tryz.ntmps72]; simp) fun bl => ?_
  rw [Tryz.ntmps72, Tryz.results72]
  refine AW_run ?_
  rw [show fv (some (n : Rat)) = .ptr (rq (n : Rat)).c from rfl, rq_int n]
  simp
  refine callP_ro (integer_ro n hn) ?_
  simp [biC_def]
  intro g1 hg1 hb1 g2 hg2 h21 hb2
  refine retRO [.loc g2 3 0 0] 2 (by simp [h21, Ne.symm h21]) ?_ (by simp [hb1, hb2])
  have h1 := frz_rat (bl0 := bl) (ms := lim n.natAbs) (b := decide (n < 0)) (ns := [1]) (g := g1) (.inl hg1) hb1 (bl := upd (upd bl g1 (some ⟨1, iv [1]⟩)) g2 (some ⟨3, [[.bool (decide (n < 0)), .sl (iv (lim n.natAbs)), .lsl g1 1 0 1]]⟩)) (by simp [h21, Ne.symm h21])
  rw [frz_agg] at h1
  show frz _ 2 (.loc g2 3 0 0) = _
  rw [frz_loc0 (e := [.bool (decide (n < 0)), .sl (iv (lim n.natAbs)), .lsl g1 1 0 1]) (by simp [dropB, hb2])]
  obtain ⟨e', he, h2⟩ := Option.map_eq_some_iff.1 h1
  cases h2
  exact (congrArg (Option.map V.ptr) he).trans rfl

end Go.Proofs.YtmbcofnnibpbeaaGreat.Vm

namespace Go.Proofs.YtmbcofnnibpbeaaGreat.Vm
open Go Go.Proofs
set_option linter.unusedSimpArgs false
set_option linter.unusedVariables false

theorem OwnR.append {bl : Int → Option Blk} {sz : Nat} {rs2 : List (List D)} {e2 : List (List V)} {g2 : List Int} (h2 : OwnR bl sz rs2 e2 g2) : ∀ {rs : List (List D)} {els : List (List V)} {g1 : List Int}, OwnR bl sz rs els g1 → (∀ x, x ∈ g1 → x ∉ g2) → OwnR bl sz (rs ++ rs2) (els ++ e2) (g1 ++ g2)
  | [], els, g1, h, hd => by
    rw [OwnR] at h
    obtain ⟨rfl, rfl⟩ := h
    exact h2
  | r :: rs, els, g1, h, hd => by
    rw [OwnR] at h
    obtain ⟨e, els', ga, gb, rfl, rfl, h3, h4, h5, h6, h7⟩ := h
    have ih := OwnR.append h2 h7 fun x hx => hd x (List.mem_append_right _ hx)
    show OwnR bl sz (r :: (rs ++ rs2)) (e :: (els' ++ e2)) (ga ++ gb ++ g2)
    rw [OwnR]
    refine ⟨e, els' ++ e2, ga, gb ++ g2, rfl, by simp, fun x hx hx2 => ?_, h4, h5, h6, ih⟩
    rcases List.mem_append.1 hx2 with hx2 | hx2
    · exact h3 x hx hx2
    · exact hd x (List.mem_append_left _ hx) hx2

structure MX where
  r : Int
  c : Int
  cells : List RT
def MX.c3 (m : MX) : List V := [.int .i64 m.r, .int .i64 m.c, .sl (rv m.cells)]
def dMx (m : MX) : List D := [.c (.int .i64 m.r), .c (.int .i64 m.c), dRs m.cells]
theorem own_mx {bl : Int → Option Blk} {m : MX} {vs : List V} {gs : List Int} : OwnL bl (dMx m) vs gs ↔ ∃ w, vs = [.int .i64 m.r, .int .i64 m.c, w] ∧ OwnD bl (dRs m.cells) w gs := by
  unfold dMx
  constructor
  · intro h
    rw [OwnL] at h
    obtain ⟨v1, vs1, g1, r1, rfl, rfl, _, h1, h⟩ := h
    rw [OwnD] at h1
    obtain ⟨rfl, _, rfl⟩ := h1
    rw [OwnL] at h
    obtain ⟨v2, vs2, g2, r2, rfl, rfl, _, h2, h⟩ := h
    rw [OwnD] at h2
    obtain ⟨rfl, _, rfl⟩ := h2
    obtain ⟨w, rfl⟩ : ∃ w, vs2 = [w] := by
      have := h.length
      match vs2, this with
      | [w], _ => exact ⟨w, rfl⟩
    exact ⟨w, rfl, by simpa using own_single.1 h⟩
  · rintro ⟨w, rfl, h⟩
    exact own_cons (g1 := []) (g2 := gs) (own_int' _) (own_cons (g1 := []) (g2 := gs) (own_int' _) (own_single.2 h) (fun x hx => by cases hx)) (fun x hx => by cases hx)
def stAll (cells : List (List (Option Rat))) : Bool := cells.all allSome
def clMx (r c : Int) (cells : List (List (Option Rat))) : MX := if stAll cells = true then ⟨r, c, (cells.map roAll).flatten⟩ else ⟨0, 0, []⟩
def dMB (m : MX) (b : Bool) : D := .t [.a (dMx m), .c (.bool b)]
theorem own_dMB {bl : Int → Option Blk} {m : MX} {b : Bool} {v : V} {gs : List Int} : OwnD bl (dMB m b) v gs ↔ ∃ w, v = .tup [.agg [.int .i64 m.r, .int .i64 m.c, w], .bool b] ∧ OwnD bl (dRs m.cells) w gs := by
  unfold dMB
  rw [own_two]
  constructor
  · rintro ⟨v, rfl, h⟩
    rw [OwnD] at h
    obtain ⟨vs, rfl, h⟩ := h
    obtain ⟨w, rfl, h'⟩ := own_mx.1 h
    exact ⟨w, rfl, h'⟩
  · rintro ⟨w, rfl, h⟩
    exact ⟨_, rfl, by rw [OwnD]; exact ⟨_, rfl, own_mx.2 ⟨w, rfl, h⟩⟩⟩

def flatTo (cells : List (List (Option Rat))) (i : Nat) : List RT := ((cells.take i).map roAll).flatten
theorem flatTo_zero (cells : List (List (Option Rat))) : flatTo cells 0 = [] := by simp [flatTo]
theorem flatTo_succ (cells : List (List (Option Rat))) (i : Nat) (h : i < cells.length) : flatTo cells (i + 1) = flatTo cells i ++ roAll cells[i] := by
  unfold flatTo
  rw [List.take_add_one, List.getElem?_eq_getElem h, Option.toList_some, List.map_append, List.flatten_append]
  simp
theorem flatTo_all (cells : List (List (Option Rat))) : flatTo cells cells.length = (cells.map roAll).flatten := by unfold flatTo; rw [List.take_length]
theorem flatTo_le (cells : List (List (Option Rat))) (i : Nat) : (flatTo cells i).length ≤ cells.flatten.length := by
  have h : ∀ cs : List (List (Option Rat)), ((cs.map roAll).flatten).length = cs.flatten.length := by
    intro cs
    induction cs with
    | nil => rfl
    | cons w ws ih => rw [List.map_cons, List.flatten_cons, List.flatten_cons, List.length_append, List.length_append, ih, roAll_length]
  unfold flatTo
  rw [h]
  conv => rhs; rw [← List.take_append_drop i cells]
  rw [List.flatten_append, List.length_append]
  omega
theorem closed_nw (r c : Int) (cells : List (List (Option Rat))) (hr : cells.length ≤ 1048576) (hok : ∀ w, w ∈ cells → okL w) (hl : ∀ w, w ∈ cells → w.length ≤ 1048576) (htot : cells.flatten.length ≤ 100000) :
    NW Tryz.prog 46 [.agg [.int .i64 r, .int .i64 c, .sl (gv cells)]] (dMB (clMx r c cells) (stAll cells)) := by
  refine nw_of Tryz.func46 rfl rfl (by rw [Tryz.ntmps46]; simp) fun bl => ?_
  rw [Tryz.ntmps46, Tryz.results46]
  refine AW_runA ?_
  simp
  intro g1 hg1 hb1 g2 hg2 h21 hb2
  refine AW_runA ?_
  simp [h21, Ne.symm h21]
  intro g4 hg4
  intros
  have h42 : ¬ g4 = g2 := by assumption
  have h41 : ¬ g4 = g1 := by assumption
  have hb4 : bl g4 = none := by assumption
  try simp [h21, Ne.symm h21, h42, Ne.symm h42, h41, Ne.symm h41]
  refine AW_ghostCell (g := g4) (s := 3) (els := [[.int .i64 r, .int .i64 c, .nils]]) (e := [.int .i64 r, .int .i64 c, .nils]) 0 2 3 (by simp) rfl rfl fun ga hga hne => ?_
  simp [upd_apply] at hga
  obtain ⟨hga4, hga2, hga1, hbga⟩ : ga ≠ g4 ∧ ga ≠ g2 ∧ ga ≠ g1 ∧ bl ga = none := by grind
  refine AW_run ?_
  simp [h21, Ne.symm h21, h42, Ne.symm h42, h41, Ne.symm h41, hga1, Ne.symm hga1]
  refine AW_for (fun p : GrowG => [(2, .loc g2 3 0 0), (4, .loc g4 3 0 0), (15, .sl (gv cells)), (16, .int .i64 cells.length), (17, .int .i64 p.i)]) (fun p => p.b)
    (fun p => p.i ≤ cells.length ∧ (∀ w, w ∈ cells.take p.i → allSome w = true) ∧ p.els.length = (flatTo cells p.i).length ∧ p.b g2 = some ⟨3, [[.int .i64 0, .int .i64 0, .nils]]⟩ ∧ p.b g4 = some ⟨3, [[.int .i64 r, .int .i64 c, .lsl p.g 3 0 p.els.length]]⟩ ∧ p.b p.g = some ⟨3, p.els⟩ ∧ (p.g < 0 → p.els = []) ∧ OwnR p.b 3 ((flatTo cells p.i).map dR) p.els p.gs ∧ (p.g ∉ p.gs ∧ g2 ∉ p.gs ∧ g4 ∉ p.gs) ∧ (p.g ≠ g2 ∧ p.g ≠ g4) ∧ bl p.g = none ∧ (∀ x, x ∈ p.gs → bl x = none) ∧ Sub bl p.b)
    (fun p => cells.length - p.i) 36 ⟨0, ga, [], [], upd (upd (upd bl g2 (some ⟨3, [[.int .i64 0, .int .i64 0, .nils]]⟩)) g4 (some ⟨3, [[.int .i64 r, .int .i64 c, .lsl ga 3 0 0]]⟩)) ga (some ⟨3, []⟩)⟩
    ⟨Nat.zero_le _, by simp, by simp [flatTo_zero], by simp [Ne.symm hga2, h42, Ne.symm h42], by simp [Ne.symm hga4], by simp, fun _ => rfl, by simp [OwnR, flatTo_zero], by simp, ⟨hga2, hga4⟩, hbga, by simp, by intro z b hz; simp only [upd_apply] at hz ⊢; grind⟩ ⟨rfl, by simp, by intro z b hz; simp only [upd_apply] at hz ⊢; grind⟩ ?_
  rintro ⟨i, g, els, gs, b⟩ ⟨hi, hall, hel, hb2', hb4', hbg, hneg, ho, ⟨n1, n2, n3⟩, ⟨m2, m4⟩, hblg, hfr, hs⟩
  simp only at hi hall hel hb2' hb4' hbg hneg ho n1 n2 n3 m2 m4 hblg hfr hs
  refine AW_run ?_
  simp
  refine ⟨fun h => ?_, fun h => ?_⟩
  · have hw := List.getElem_mem h
    simp [h]
    refine callP_new (stores_nw cells[i] (hok _ hw) (hl _ hw)) fun v gv' b' o f fr => ?_
    obtain ⟨w', rfl, ow, w1, w2⟩ := own_dV o
    have eb2 := new_keep f fr hb2'
    have eb4 := new_keep f fr hb4'
    have ebg := new_keep f fr hbg
    have hs' : Sub bl b' := fun x y hy => new_keep f fr (hs x y hy)
    have ho' := ho.keep (bl' := b') fun x _ y hy => new_keep f fr hy
    have hfr' : ∀ x, x ∈ gv' → bl x = none := fun x hx => fresh_of hs (f x hx)
    have k1 : g ∉ gv' := fun hh => by have := f _ hh; rw [hbg] at this; cases this
    have k2 : g2 ∉ gv' := fun hh => by have := f _ hh; rw [hb2'] at this; cases this
    have k4 : g4 ∉ gv' := fun hh => by have := f _ hh; rw [hb4'] at this; cases this
    have kd : ∀ x, x ∈ gs → x ∉ gv' := fun x hx hh => ho.not (f x hh) hx
    cases ha : allSome cells[i]
    · have hno : stAll cells = false := by
        unfold stAll; rw [List.all_eq_false]; exact ⟨_, hw, by simp [ha]⟩
      have hcl : clMx r c cells = ⟨0, 0, []⟩ := by unfold clMx; rw [hno]; rfl
      simp [eb2, w1, w2]
      rw [hno, hcl]
      refine retNW [.agg [.int .i64 0, .int .i64 0, .nils], .bool false] [] (by simp) (own_dMB.2 ⟨.nils, rfl, own_rs.2 (.inl ⟨rfl, rfl, rfl⟩)⟩) (by simp) (hs'.upd hb2 _)
    · have hst : stQ cells[i] = roAll cells[i] := by unfold stQ; rw [ha]; rfl
      rw [hst] at ow
      have htk := flatTo_succ cells i h
      have hfl := flatTo_le cells (i + 1)
      have hall2 : ∀ w, w ∈ cells.take (i + 1) → allSome w = true := fun w hw2 => by
        rw [List.take_add_one, List.getElem?_eq_getElem h] at hw2
        rcases List.mem_append.1 hw2 with hw2 | hw2
        · exact hall w hw2
        · obtain rfl : w = cells[i] := by simpa using hw2
          exact ha
      simp [eb4, w1, w2]
      obtain ⟨els2, gs2, he2, ho2, hin2⟩ : ∃ els2 gs2, elsV b' 3 w' = some els2 ∧ OwnR b' 3 ((roAll cells[i]).map dR) els2 gs2 ∧ ∀ x, x ∈ gs2 → x ∈ gv' := by
        rcases own_rs.1 ow with ⟨h1, rfl, rfl⟩ | ⟨g', els', gs', rfl, rfl, hgn, hbg', hneg', ho2⟩
        · exact ⟨[], [], rfl, by rw [h1]; simp [OwnR], fun x hx => by cases hx⟩
        · refine ⟨els', gs', ?_, ho2, fun x hx => List.mem_cons_of_mem _ hx⟩
          have hll := OwnR.length ho2
          rw [List.length_map] at hll
          simp only [elsV]
          split
          · rename_i hg'; rw [hneg' hg']
          · rw [hbg']
            simp [hll]
            exact List.take_of_length_le (by rw [hll]; simp)
      have hl2 := OwnR.length ho2
      rw [List.length_map] at hl2
      have hlt : els.length + els2.length ≤ 100000 := by
        rw [hel, hl2, ← List.length_append, ← htk]; omega
      simp [appV, he2, ebg]
      refine ⟨by omega, fun g3 hg3 hb3 => ?_⟩
      have h32 : g3 ≠ g2 := fun e => by
        have := hb3 (by rw [e]; exact Ne.symm m2); rw [e, eb2] at this; cases this
      have h34 : g3 ≠ g4 := fun e => by
        have := hb3 (by rw [e]; exact Ne.symm m4); rw [e, eb4] at this; cases this
      have hbl3 : bl g3 = none := by
        by_cases e : g3 = g
        · rw [e]; exact hblg
        · exact fresh_of hs' (hb3 e)
      have h3s : g3 ∉ gs := fun hh => by
        by_cases e : g3 = g
        · exact n1 (e ▸ hh)
        · obtain ⟨y, hy⟩ := ho'.has g3 hh; rw [hb3 e] at hy; cases hy
      have h3v : g3 ∉ gs2 := fun hh => by
        by_cases e : g3 = g
        · exact k1 (e ▸ hin2 _ hh)
        · obtain ⟨y, hy⟩ := ho2.has g3 hh; rw [hb3 e] at hy; cases hy
      have hgs2 : g ∉ gs2 := fun hh => k1 (hin2 _ hh)
      simp [Ne.symm h34, Ne.symm m4, eb4]
      simp (disch := omega) [i64_in, loopQ_normal]
      refine ⟨⟨i + 1, g3, els ++ els2, gs ++ gs2, upd (upd (rem b' g) g3 (some ⟨3, els ++ els2⟩)) g4 (some ⟨3, [[.int .i64 r, .int .i64 c, .lsl g3 3 0 (els ++ els2).length]]⟩)⟩, ⟨by simp only; omega, hall2, by simp only; rw [htk, List.length_append, List.length_append, hel, hl2], ?_, by simp, ?_, ?_, ?_, ?_, ⟨h32, h34⟩, hbl3, ?_, ?_⟩, by simp only; omega, rfl, by simp, ?_⟩
      · simp only [upd_apply, rem_apply]; rw [if_neg (Ne.symm h42), if_neg (Ne.symm h32), if_neg (Ne.symm m2)]; exact eb2
      · simp only [upd_apply]; rw [if_neg h34]; simp
      · intro hn
        simp only at hn
        rcases hg3 with hg3 | hg3
        · omega
        · simpa using hg3
      · simp only
        rw [htk, List.map_append]
        refine OwnR.append (ho2.keep fun x hx y hy => ?_) (ho'.keep fun x hx y hy => ?_) fun x hx hx2 => kd x hx (hin2 x hx2)
        · have e1 : x ≠ g4 := fun e => k4 (e ▸ hin2 x hx)
          have e2 : x ≠ g3 := fun e => h3v (e ▸ hx)
          have e3 : x ≠ g := fun e => hgs2 (e ▸ hx)
          simp only [upd_apply, rem_apply]; rw [if_neg e1, if_neg e2, if_neg e3]; exact hy
        · have e1 : x ≠ g4 := fun e => n3 (e ▸ hx)
          have e2 : x ≠ g3 := fun e => h3s (e ▸ hx)
          have e3 : x ≠ g := fun e => n1 (e ▸ hx)
          simp only [upd_apply, rem_apply]; rw [if_neg e1, if_neg e2, if_neg e3]; exact hy
      · simp only [List.mem_append]
        exact ⟨fun h => h.elim h3s h3v, fun h => h.elim n2 (fun h => k2 (hin2 _ h)), fun h => h.elim n3 (fun h => k4 (hin2 _ h))⟩
      · intro x hx
        rcases List.mem_append.1 hx with hx | hx
        · exact hfr x hx
        · exact hfr' x (hin2 x hx)
      · intro x y hx
        have e1 : x ≠ g4 := fun e => by rw [e, hb4] at hx; cases hx
        have e2 : x ≠ g3 := fun e => by rw [e, hbl3] at hx; cases hx
        have e3 : x ≠ g := fun e => by rw [e, hblg] at hx; cases hx
        simp only [upd_apply, rem_apply]; rw [if_neg e1, if_neg e2, if_neg e3]; exact hs' x y hx
      · exact sub_eq (by simp)
  · have hi2 : i = cells.length := by omega
    subst hi2
    have hyes : stAll cells = true := List.all_eq_true.2 fun w hw => hall w (by rw [List.take_length]; exact hw)
    have hcl : clMx r c cells = ⟨r, c, flatTo cells cells.length⟩ := by unfold clMx; rw [hyes, flatTo_all]; rfl
    simp [hb2', hb4']
    rw [hyes, hcl]
    refine retNW [.agg [.int .i64 r, .int .i64 c, .lsl g 3 0 els.length], .bool true] (g :: gs) (by simp) ?_ (fun x hx => ?_) (hs.upd hb2 _)
    · refine own_dMB.2 ⟨_, rfl, own_rs.2 (.inr ⟨g, els, gs, by rw [hel], rfl, n1, ?_, hneg, ?_⟩)⟩
      · simp only [upd_apply]; rw [if_neg m2]; exact hbg
      · exact ho.frame fun x hx => by simp only [upd_apply]; rw [if_neg (fun e : x = g2 => n2 (e ▸ hx))]
    · rcases List.mem_cons.1 hx with rfl | hx
      · exact hblg
      · exact hfr x hx

end Go.Proofs.YtmbcofnnibpbeaaGreat.Vm

namespace Go.Proofs.YtmbcofnnibpbeaaGreat.Vm
open Go Go.Proofs
set_option linter.unusedSimpArgs false
set_option linter.unusedVariables false

def colK (m : Mb) (k : Nat) : List (Int × Int) := (if m.kind = 2 then [] else [((k : Int), 1)]) ++ (if m.kind = 1 then [] else [((k : Int), -1)])
def colsTo (ms : List Mb) (n : Nat) : List (Int × Int) := (List.range n).flatMap fun k => colK (ms.getD k default) k
def cols (ms : List Mb) : List (Int × Int) := colsTo ms ms.length
def cv (cs : List (Int × Int)) : List (List V) := cs.map fun p => [.int .i64 p.1, .int .i64 p.2]
theorem colsTo_succ (ms : List Mb) (n : Nat) : colsTo ms (n + 1) = colsTo ms n ++ colK (ms.getD n default) n := by
  unfold colsTo
  rw [List.range_succ, List.flatMap_append]; simp
theorem colK_le (m : Mb) (k : Nat) : (colK m k).length ≤ 2 := by
  unfold colK; split <;> split <;> simp
theorem colsTo_le (ms : List Mb) : ∀ n, (colsTo ms n).length ≤ 2 * n
  | 0 => by simp [colsTo]
  | n + 1 => by
    rw [colsTo_succ, List.length_append]
    have := colsTo_le ms n
    have := colK_le (ms.getD n default) n
    omega
theorem cv_append (a b : List (Int × Int)) : cv (a ++ b) = cv a ++ cv b := by simp [cv]
@[simp] theorem cv_length (a : List (Int × Int)) : (cv a).length = a.length := by simp [cv]
theorem cv_takeall (a : List (Int × Int)) : (cv a).take a.length = cv a := by rw [← cv_length a, List.take_length]
theorem cv_cl (a : List (Int × Int)) : (cv a).all (fun e => e.all V.cl) = true := by simp [cv, V.cl]
theorem cv_clen (a : List (Int × Int)) : ∀ r, r ∈ cv a → r.length = 2 := by
  intro r hr
  obtain ⟨n, _, rfl⟩ := List.mem_map.1 hr
  rfl
theorem own_cv {bl : Int → Option Blk} {ns : List (Int × Int)} {v : V} {gs : List Int} : OwnD bl (fl 2 (cv ns)) v gs ↔ (ns = [] ∧ v = .nils ∧ gs = []) ∨ ∃ g, v = .lsl g 2 0 ns.length ∧ gs = [g] ∧ bl g = some ⟨2, cv ns⟩ ∧ (g < 0 → ns = []) := by
  rw [own_fl (cv_cl ns) (cv_clen ns)]
  simp [cv]

theorem iv_two (a b : Int) : iv [a, b] = [[.int .i64 a], [.int .i64 b]] := rfl
theorem iv_one (a : Int) : iv [a] = [[.int .i64 a]] := rfl

def who (s : Str) : List Int := (cols s.ms).map (·.1)
def sgn (s : Str) : List Int := (cols s.ms).map (·.2)
def dWS (s : Str) : D := .t [fl 1 (iv (who s)), fl 1 (iv (sgn s))]
structure Two where
  i : Nat
  g : Int
  h : Int
  b : Int → Option Blk
def twoInv (bl : Int → Option Blk) (A B : Nat → List Int) (n : Nat) (p : Two) : Prop :=
  p.i ≤ n ∧ p.g ≠ p.h ∧ p.b p.g = some ⟨1, iv (A p.i)⟩ ∧ p.b p.h = some ⟨1, iv (B p.i)⟩ ∧ bl p.g = none ∧ bl p.h = none ∧ Sub bl p.b ∧ (p.g < 0 → A p.i = []) ∧ (p.h < 0 → B p.i = [])

end Go.Proofs.YtmbcofnnibpbeaaGreat.Vm

namespace Go.Proofs.YtmbcofnnibpbeaaGreat.Vm
open Go Go.Proofs
set_option linter.unusedSimpArgs false
set_option linter.unusedVariables false

def rowsTo (s : Str) (n : Nat) : List Int := ((frees s.js).take n).flatMap fun j => rowX s j ++ rowY s j
def rowsF (s : Str) : List Int := (frees s.js).flatMap fun j => rowX s j ++ rowY s j
theorem rowsTo_succ (s : Str) (n : Nat) (h : n < (frees s.js).length) : rowsTo s (n + 1) = rowsTo s n ++ rowX s (frees s.js)[n] ++ rowY s (frees s.js)[n] := by
  unfold rowsTo
  rw [List.take_add_one, List.getElem?_eq_getElem h, List.flatMap_append]; simp
theorem rowsTo_length (s : Str) : ∀ n, n ≤ (frees s.js).length → (rowsTo s n).length = 2 * s.ms.length * n
  | 0, _ => by simp [rowsTo]
  | n + 1, h => by
    rw [rowsTo_succ s n (by omega), List.length_append, List.length_append, rowsTo_length s n (by omega), rowX_length, rowY_length, Nat.mul_add]; omega

structure Three where
  i : Nat
  g : Int
  b : Int → Option Blk
def threeInv (bl : Int → Option Blk) (s : Str) (gs : Int) (p : Three) : Prop :=
  p.i ≤ (frees s.js).length ∧ p.g ≠ gs ∧ p.b p.g = some ⟨1, iv (rowsTo s p.i)⟩ ∧ p.b gs = some ⟨2, [[.sl (jv s.js), .sl (mv s.ms)]]⟩ ∧ bl p.g = none ∧ Sub bl p.b ∧ (p.g < 0 → rowsTo s p.i = [])

def xTo (s : Str) (j : Int) (n : Nat) : List Int := (s.ms.take n).map (eqX s j)
def yTo (s : Str) (j : Int) (n : Nat) : List Int := (s.ms.take n).map (eqY s j)
theorem xTo_succ (s : Str) (j : Int) (n : Nat) (h : n < s.ms.length) : xTo s j (n + 1) = xTo s j n ++ [eqX s j s.ms[n]] := by
  unfold xTo; rw [List.take_add_one, List.getElem?_eq_getElem h, List.map_append]; rfl
theorem yTo_succ (s : Str) (j : Int) (n : Nat) (h : n < s.ms.length) : yTo s j (n + 1) = yTo s j n ++ [eqY s j s.ms[n]] := by
  unfold yTo; rw [List.take_add_one, List.getElem?_eq_getElem h, List.map_append]; rfl
theorem xTo_all (s : Str) (j : Int) : xTo s j s.ms.length = rowX s j := by simp [xTo, rowX]
theorem yTo_all (s : Str) (j : Int) : yTo s j s.ms.length = rowY s j := by simp [yTo, rowY]
theorem xTo_length (s : Str) (j : Int) (n : Nat) (h : n ≤ s.ms.length) : (xTo s j n).length = n := by simp [xTo]; omega
theorem yTo_length (s : Str) (j : Int) (n : Nat) (h : n ≤ s.ms.length) : (yTo s j n).length = n := by simp [yTo]; omega

set_option maxHeartbeats 2000000 in
theorem l14Rows_nw (s : Str) (hs : SOk s) : NW Tryz.prog 110 [.agg s.c] (fl 1 (iv (rowsF s))) := by
  have h6 := hs.nj
  have h8 := hs.nm
  have hfr := freesTo_le s.js s.js.length
  change (frees s.js).length ≤ s.js.length at hfr
  refine nw_of Tryz.func110 rfl rfl (by rw [Tryz.ntmps110]; simp) fun bl => ?_
  rw [Tryz.ntmps110, Tryz.results110]
  refine AW_run ?_
  simp [Str.c]
  intro gs hgs0 hgs ga hga0 hgas hbga
  simp [Str.c, hgas, Ne.symm hgas]
  refine callP_ro (l12Free_ro s (by omega)) ?_
  simp
  refine AW_for (fun p : Three => [(1, .loc gs 2 0 0), (3, .lsl p.g 1 0 (2 * s.ms.length * p.i)), (14, .sl (iv (frees s.js))), (15, .int .i64 (frees s.js).length), (16, .int .i64 p.i)]) (fun p => p.b) (threeInv bl s gs) (fun p => (frees s.js).length - p.i) 78
    ⟨0, ga, upd (upd bl gs (some ⟨2, [[.sl (jv s.js), .sl (mv s.ms)]]⟩)) ga (some ⟨1, []⟩)⟩ ⟨Nat.zero_le _, hgas, by simp [rowsTo, iv], by simp [Ne.symm hgas], hbga, by simp [hgs, hbga], fun _ => rfl⟩ ⟨rfl, by simp, sub_eq (by simp [Str.c])⟩ ?_
  rintro ⟨i, g, b⟩ ⟨hi, hgg, hbg, hbs, hg, hsb, h0⟩
  simp only at hi hgg hbg hbs hg hsb h0
  refine AW_run ?_
  simp
  refine ⟨fun h => ?_, fun h => ?_⟩
  · have q := iv_get (frees s.js) i h
    simp [h]
    obtain ⟨j, hj⟩ : ∃ j, (frees s.js)[i] = j := ⟨_, rfl⟩
    rw [hj]
    intro gx hgx0 hbx gy hgy0 hyx hby
    have nxs : gx ≠ gs := fun e => by rw [e, hbs] at hbx; cases hbx
    have nys : gy ≠ gs := fun e => by rw [e, hbs] at hby; cases hby
    have nxg : gx ≠ g := fun e => by rw [e, hbg] at hbx; cases hbx
    have nyg : gy ≠ g := fun e => by rw [e, hbg] at hby; cases hby
    simp [nxs, Ne.symm nxs, nys, Ne.symm nys, hbs]
    refine AW_for (fun p : Two => [(1, .loc gs 2 0 0), (3, .lsl g 1 0 (2 * s.ms.length * i)), (5, .int .i64 j), (6, .lsl p.g 1 0 p.i), (7, .lsl p.h 1 0 p.i), (14, .sl (iv (frees s.js))), (15, .int .i64 (frees s.js).length), (16, .int .i64 i), (23, .sl (mv s.ms)), (24, .int .i64 s.ms.length), (25, .int .i64 p.i)])
      (fun p => p.b) (fun p => twoInv b (xTo s j) (yTo s j) s.ms.length p ∧ 0 ≤ p.g ∧ 0 ≤ p.h) (fun p => s.ms.length - p.i) 78 ⟨0, gx, gy, upd (upd b gx (some ⟨1, []⟩)) gy (some ⟨1, []⟩)⟩ ⟨⟨Nat.zero_le _, Ne.symm hyx, by simp [Ne.symm hyx, xTo, iv], by simp [yTo, iv], hbx, hby, by simp [hbx, hby], fun _ => rfl, fun _ => rfl⟩, hgx0, hgy0⟩ ⟨rfl, by simp, sub_eq (by simp)⟩ ?_
    rintro ⟨k, x, y, c⟩ ⟨⟨hk, hxy, hcx, hcy, hbx', hby', hsc, _, _⟩, hx0, hy0⟩
    simp only at hk hxy hcx hcy hbx' hby' hsc hx0 hy0
    have hcs := hsc _ _ hbs
    have hcg := hsc _ _ hbg
    have fr : ∀ x, c x = none → b x = none := fun x hx => fresh_of hsc hx
    have lx := xTo_length s j k hk
    have ly := yTo_length s j k hk
    have tkx : (iv (xTo s j k)).take k = iv (xTo s j k) := List.take_of_length_le (by simp [lx])
    have tky : (iv (yTo s j k)).take k = iv (yTo s j k) := List.take_of_length_le (by simp [ly])
    refine AW_run ?_
    simp
    refine ⟨fun hkl => ?_, fun hkl => ?_⟩
    · have hv := v_le hs (List.getElem_mem hkl)
      have hm : mat s (k : Int) = s.ms[k] := mat_nat hkl
      have hvec := l12Vector_ro s k hs (by omega) (by omega)
      rw [hm] at hvec
      have w1 : IntKind.i64.wrap ((k : Int) + 1) = k + 1 := i64_in (by omega) (by omega)
      have nx : IntKind.i64.wrap (-vx s s.ms[k]) = -vx s s.ms[k] := i64_in (by omega) (by omega)
      have ny : IntKind.i64.wrap (-vy s s.ms[k]) = -vy s s.ms[k] := i64_in (by omega) (by omega)
      have sx := xTo_succ s j k hkl
      have sy := yTo_succ s j k hkl
      simp [hkl, Mb.c]
      intro g1 hg1 hb1
      have n1s : g1 ≠ gs := fun e => by rw [e, hcs] at hb1; cases hb1
      have n1x : g1 ≠ x := fun e => by rw [e, hcx] at hb1; cases hb1
      have n1y : g1 ≠ y := fun e => by rw [e, hcy] at hb1; cases hb1
      simp [n1s, Ne.symm n1s, hcs]
      refine callP_ro hvec ?_
      simp
      refine ⟨fun e1 => ?_, fun e1 => ⟨fun e2 => ?_, fun e2 => ?_⟩⟩
      · intro g2 hg2 h21 hb2
        have n2x : g2 ≠ x := fun e => by rw [e, hcx] at hb2; cases hb2
        have n2y : g2 ≠ y := fun e => by rw [e, hcy] at hb2; cases hb2
        simp [hcx, n1x, h21, n2x, Ne.symm n1x, Ne.symm h21, Ne.symm n2x, lx, tkx, nx, ny, appV, elsV, Int.not_lt.2 hg2]
        refine ⟨by omega, fun g3 hg3 hb3 => ?_⟩
        have n31 : g3 ≠ g1 := by grind
        have n3y : g3 ≠ y := by grind
        simp [n31, Ne.symm n31, n3y, Ne.symm n3y, nx, ny]
        intro g4 hg4 h43 hb4
        have n41 : g4 ≠ g1 := by grind
        have n4y : g4 ≠ y := by grind
        simp [hxy, Ne.symm hxy, hcy, n1y, Ne.symm n1y, n2y, Ne.symm n2y, n31, Ne.symm n31, n3y, Ne.symm n3y, n41, Ne.symm n41, n4y, Ne.symm n4y, h43, Ne.symm h43, ly, tky, lx, tkx, nx, ny, appV, elsV, Int.not_lt.2 hg4]
        refine ⟨by omega, fun g5 hg5 hb5 => ?_⟩
        have n51 : g5 ≠ g1 := by grind
        have n53 : g5 ≠ g3 := by grind
        have f1 : eqX s j s.ms[k] = vx s s.ms[k] := by rw [eqX, if_pos e1]
        have f2 : eqY s j s.ms[k] = vy s s.ms[k] := by rw [eqY, if_pos e1]
        rw [f1] at sx
        rw [f2] at sy
        simp [w1, loopQ_normal]
        refine ⟨⟨k + 1, g3, g5, _⟩, ⟨⟨by simp only; omega, by simp only; grind, ?_, ?_, by simp only; grind, by simp only; grind, ?_, fun e => by simp only at e; omega, fun e => by simp only at e; omega⟩, hg3, hg5⟩, by simp only; omega, rfl, by simp, sub_eq rfl⟩
        · simp [hxy, Ne.symm hxy, n31, Ne.symm n31, n51, Ne.symm n51, n53, Ne.symm n53, n41, Ne.symm n41, h43, Ne.symm h43, n3y, Ne.symm n3y, n4y, Ne.symm n4y, sx, iv_append, iv_one, tkx, tky]
        · simp [hxy, Ne.symm hxy, n31, Ne.symm n31, n51, Ne.symm n51, n53, Ne.symm n53, n41, Ne.symm n41, h43, Ne.symm h43, n3y, Ne.symm n3y, n4y, Ne.symm n4y, sy, iv_append, iv_one, tkx, tky]
        · intro u z hx
          have hbx := hsc u z hx
          have ng : u ≠ x := fun e => by rw [e, hbx'] at hx; cases hx
          have nh : u ≠ y := fun e => by rw [e, hby'] at hx; cases hx
          simp [upd_apply, rem_apply]
          grind
      · intro g2 hg2 h21 hb2
        have n2x : g2 ≠ x := fun e => by rw [e, hcx] at hb2; cases hb2
        have n2y : g2 ≠ y := fun e => by rw [e, hcy] at hb2; cases hb2
        simp [hcx, n1x, h21, n2x, Ne.symm n1x, Ne.symm h21, Ne.symm n2x, lx, tkx, nx, ny, appV, elsV, Int.not_lt.2 hg2]
        refine ⟨by omega, fun g3 hg3 hb3 => ?_⟩
        have n31 : g3 ≠ g1 := by grind
        have n3y : g3 ≠ y := by grind
        simp [n31, Ne.symm n31, n3y, Ne.symm n3y, nx, ny]
        intro g4 hg4 h43 hb4
        have n41 : g4 ≠ g1 := by grind
        have n4y : g4 ≠ y := by grind
        simp [hxy, Ne.symm hxy, hcy, n1y, Ne.symm n1y, n2y, Ne.symm n2y, n31, Ne.symm n31, n3y, Ne.symm n3y, n41, Ne.symm n41, n4y, Ne.symm n4y, h43, Ne.symm h43, ly, tky, lx, tkx, nx, ny, appV, elsV, Int.not_lt.2 hg4]
        refine ⟨by omega, fun g5 hg5 hb5 => ?_⟩
        have n51 : g5 ≠ g1 := by grind
        have n53 : g5 ≠ g3 := by grind
        have f1 : eqX s j s.ms[k] = -vx s s.ms[k] := by rw [eqX, if_neg e1, if_pos e2]
        have f2 : eqY s j s.ms[k] = -vy s s.ms[k] := by rw [eqY, if_neg e1, if_pos e2]
        rw [f1] at sx
        rw [f2] at sy
        simp [w1, loopQ_normal]
        refine ⟨⟨k + 1, g3, g5, _⟩, ⟨⟨by simp only; omega, by simp only; grind, ?_, ?_, by simp only; grind, by simp only; grind, ?_, fun e => by simp only at e; omega, fun e => by simp only at e; omega⟩, hg3, hg5⟩, by simp only; omega, rfl, by simp, sub_eq rfl⟩
        · simp [hxy, Ne.symm hxy, n31, Ne.symm n31, n51, Ne.symm n51, n53, Ne.symm n53, n41, Ne.symm n41, h43, Ne.symm h43, n3y, Ne.symm n3y, n4y, Ne.symm n4y, sx, iv_append, iv_one, tkx, tky]
        · simp [hxy, Ne.symm hxy, n31, Ne.symm n31, n51, Ne.symm n51, n53, Ne.symm n53, n41, Ne.symm n41, h43, Ne.symm h43, n3y, Ne.symm n3y, n4y, Ne.symm n4y, sy, iv_append, iv_one, tkx, tky]
        · intro u z hx
          have hbx := hsc u z hx
          have ng : u ≠ x := fun e => by rw [e, hbx'] at hx; cases hx
          have nh : u ≠ y := fun e => by rw [e, hby'] at hx; cases hx
          simp [upd_apply, rem_apply]
          grind
      · intro g2 hg2 h21 hb2
        have n2x : g2 ≠ x := fun e => by rw [e, hcx] at hb2; cases hb2
        have n2y : g2 ≠ y := fun e => by rw [e, hcy] at hb2; cases hb2
        simp [hcx, n1x, h21, n2x, Ne.symm n1x, Ne.symm h21, Ne.symm n2x, lx, tkx, nx, ny, appV, elsV, Int.not_lt.2 hg2]
        refine ⟨by omega, fun g3 hg3 hb3 => ?_⟩
        have n31 : g3 ≠ g1 := by grind
        have n3y : g3 ≠ y := by grind
        simp [n31, Ne.symm n31, n3y, Ne.symm n3y, nx, ny]
        intro g4 hg4 h43 hb4
        have n41 : g4 ≠ g1 := by grind
        have n4y : g4 ≠ y := by grind
        simp [hxy, Ne.symm hxy, hcy, n1y, Ne.symm n1y, n2y, Ne.symm n2y, n31, Ne.symm n31, n3y, Ne.symm n3y, n41, Ne.symm n41, n4y, Ne.symm n4y, h43, Ne.symm h43, ly, tky, lx, tkx, nx, ny, appV, elsV, Int.not_lt.2 hg4]
        refine ⟨by omega, fun g5 hg5 hb5 => ?_⟩
        have n51 : g5 ≠ g1 := by grind
        have n53 : g5 ≠ g3 := by grind
        have f1 : eqX s j s.ms[k] = 0 := by rw [eqX, if_neg e1, if_neg e2]
        have f2 : eqY s j s.ms[k] = 0 := by rw [eqY, if_neg e1, if_neg e2]
        rw [f1] at sx
        rw [f2] at sy
        simp [w1, loopQ_normal]
        refine ⟨⟨k + 1, g3, g5, _⟩, ⟨⟨by simp only; omega, by simp only; grind, ?_, ?_, by simp only; grind, by simp only; grind, ?_, fun e => by simp only at e; omega, fun e => by simp only at e; omega⟩, hg3, hg5⟩, by simp only; omega, rfl, by simp, sub_eq rfl⟩
        · simp [hxy, Ne.symm hxy, n31, Ne.symm n31, n51, Ne.symm n51, n53, Ne.symm n53, n41, Ne.symm n41, h43, Ne.symm h43, n3y, Ne.symm n3y, n4y, Ne.symm n4y, sx, iv_append, iv_one, tkx, tky]
        · simp [hxy, Ne.symm hxy, n31, Ne.symm n31, n51, Ne.symm n51, n53, Ne.symm n53, n41, Ne.symm n41, h43, Ne.symm h43, n3y, Ne.symm n3y, n4y, Ne.symm n4y, sy, iv_append, iv_one, tkx, tky]
        · intro u z hx
          have hbx := hsc u z hx
          have ng : u ≠ x := fun e => by rw [e, hbx'] at hx; cases hx
          have nh : u ≠ y := fun e => by rw [e, hby'] at hx; cases hx
          simp [upd_apply, rem_apply]
          grind
    · have : k = s.ms.length := by omega
      subst this
      rw [xTo_all] at hcx
      rw [yTo_all] at hcy
      have nxs' : x ≠ gs := fun e => by rw [e, hbs] at hbx'; cases hbx'
      have nys' : y ≠ gs := fun e => by rw [e, hbs] at hby'; cases hby'
      have nxg' : x ≠ g := fun e => by rw [e, hbg] at hbx'; cases hbx'
      have nyg' : y ≠ g := fun e => by rw [e, hbg] at hby'; cases hby'
      have lr := rowsTo_length s i (by omega)
      have tkr : (iv (rowsTo s i)).take (2 * s.ms.length * i) = iv (rowsTo s i) := List.take_of_length_le (by simp [lr])
      have tkX : (iv (rowX s j)).take s.ms.length = iv (rowX s j) := List.take_of_length_le (by simp)
      have tkY : (iv (rowY s j)).take s.ms.length = iv (rowY s j) := List.take_of_length_le (by simp)
      have hi6 : 2 * s.ms.length * i ≤ 2 * 8 * 6 := Nat.mul_le_mul (by omega) (by omega)
      simp [hcg, hcx, hcy, nxg', nyg', Ne.symm nxg', Ne.symm nyg', Int.not_lt.2 hx0, Int.not_lt.2 hy0, appV, elsV, lr, tkr, tkX, tkY]
      refine ⟨by omega, fun go hgo hbo => ?_⟩
      have nos : go ≠ gs := by grind
      have nox : go ≠ x := by grind
      have noy : go ≠ y := by grind
      simp [nox, noy, Ne.symm nox, Ne.symm noy, nxg', nyg', Ne.symm nxg', Ne.symm nyg', hcx, hcy, Int.not_lt.2 hx0, Int.not_lt.2 hy0, appV, elsV, lr, tkr, tkX, tkY]
      refine ⟨by omega, fun gn hgn hbn => ?_⟩
      have nns : gn ≠ gs := by grind
      have w2 : IntKind.i64.wrap ((i : Int) + 1) = i + 1 := i64_in (by omega) (by omega)
      subst hj
      have rs := rowsTo_succ s i h
      have h1 : bl go = none := by
        by_cases e : go = g
        · rw [e]; exact hg
        · exact fresh_of hsb (fr _ (hbo e))
      have h2 : bl gn = none := by
        by_cases e : gn = go
        · rw [e]; exact h1
        · by_cases e2 : gn = g
          · rw [e2]; exact hg
          · exact fresh_of hsb (fr _ (by grind))
      simp [w2, loopQ_normal]
      refine ⟨⟨i + 1, gn, _⟩, ⟨by simp only; omega, nns, ?_, ?_, h2, ?_, ?_⟩, by simp only; omega, rfl, ?_, sub_eq rfl⟩
      · have tk2 : (iv (rowsTo s i) ++ iv (rowX s (frees s.js)[i])).take (2 * s.ms.length * i + s.ms.length) = iv (rowsTo s i) ++ iv (rowX s (frees s.js)[i]) := List.take_of_length_le (by simp [lr])
        simp [rs, iv_append, tk2]
      · simp [Ne.symm nns, Ne.symm nos, Ne.symm hgg, hcs]
      · intro u z hx
        have hbx := hsc u z (hsb u z hx)
        have n1 : u ≠ g := fun e => by rw [e, hg] at hx; cases hx
        have n2 : u ≠ go := fun e => by rw [e, h1] at hx; cases hx
        have n3 : u ≠ gn := fun e => by rw [e, h2] at hx; cases hx
        simp [n1, n2, n3, hbx]
      · intro e
        simp only at e ⊢
        have ez : s.ms = [] := by
          rcases hgn with hn | ⟨_, hn⟩
          · omega
          · have := congrArg List.length hn
            simpa using this
        have er := lr
        rw [ez] at er
        rw [rs]
        simp [rowX, rowY, ez] at er ⊢
        exact er
      · simp [Nat.mul_add]; omega
  · have : i = (frees s.js).length := by omega
    subst this
    refine retNW [.lsl g 1 0 (2 * s.ms.length * (frees s.js).length)] [g] (by simp) ?_ (by simpa using hg) hsb
    have e : rowsF s = rowsTo s (frees s.js).length := by simp [rowsF, rowsTo]
    refine own_iv.2 (.inr ⟨g, ?_, rfl, by rw [e]; exact hbg, by rw [e]; exact h0⟩)
    rw [e, rowsTo_length s _ (Nat.le_refl _)]; rfl

theorem l14Rows_ro (s : Str) (hs : SOk s) : RO Tryz.prog 110 [.agg s.c] (.sl (iv (rowsF s))) := by
  have := ro_of_nw 1 (l14Rows_nw s hs) (fl_dep _ _ 0)
  simpa using this

/-- Minus the load at the free joints. -/
def rightTo (s : Str) (l : List Int) (n : Nat) : List Int := ((frees s.js).take n).flatMap fun j => [-lat l (2 * j).toNat, -lat l (2 * j + 1).toNat]
def right (s : Str) (l : List Int) : List Int := (frees s.js).flatMap fun j => [-lat l (2 * j).toNat, -lat l (2 * j + 1).toNat]
theorem rightTo_succ (s : Str) (l : List Int) (n : Nat) (h : n < (frees s.js).length) : rightTo s l (n + 1) = rightTo s l n ++ [-lat l (2 * (frees s.js)[n]).toNat, -lat l (2 * (frees s.js)[n] + 1).toNat] := by
  unfold rightTo
  rw [List.take_add_one, List.getElem?_eq_getElem h, List.flatMap_append]; simp
theorem rightTo_length (s : Str) (l : List Int) : ∀ n, n ≤ (frees s.js).length → (rightTo s l n).length = 2 * n
  | 0, _ => by simp [rightTo]
  | n + 1, h => by
    rw [rightTo_succ s l n (by omega), List.length_append, rightTo_length s l n (by omega)]; simp; omega
theorem frees_range {s : Str} {j : Int} (h : j ∈ frees s.js) : 0 ≤ j ∧ j < s.js.length := by
  unfold frees freesTo at h
  obtain ⟨k, hk, rfl⟩ := List.mem_map.1 h
  have := List.mem_range.1 (List.mem_filter.1 hk).1
  omega

end Go.Proofs.YtmbcofnnibpbeaaGreat.Vm

namespace Go.Proofs.YtmbcofnnibpbeaaGreat.Vm
open Go Go.Proofs
set_option linter.unusedSimpArgs false
set_option linter.unusedVariables false

def zRow (row : List Int) : List (Option Rat) := row.map fun (n : Int) => some (n : Rat)
def zGrid (rows : List (List Int)) : List (List (Option Rat)) := rows.map zRow
def roInts (l : List Int) : List RT := l.map fun (n : Int) => ro (some (n : Rat))
theorem zGrid_eq (rows : List (List Int)) (c : Nat) (h : ∀ w, w ∈ rows → w.length = c) : gridOf rows.length c (fun i k => some (((rows.getD i []).getD k 0 : Int) : Rat)) = zGrid rows := by
  apply List.ext_getElem
  · simp [zGrid]
  · intro i h1 h2
    have hi : i < rows.length := by simpa using h1
    rw [gridOf_getE]
    simp only [zGrid, List.getElem_map]
    apply List.ext_getElem
    · simp [zRow, h _ (List.getElem_mem hi)]
    · intro k h3 h4
      have hk : k < rows[i].length := by simpa [zRow] using h4
      rw [rowOf_getE]
      simp [zRow, hi, hk]
theorem zGrid_all (rows : List (List Int)) : stAll (zGrid rows) = true := by
  unfold stAll zGrid
  rw [List.all_map, List.all_eq_true]
  intro w hw
  simp [allSome, zRow]
theorem zGrid_flat (rows : List (List Int)) : ((zGrid rows).map roAll).flatten = roInts rows.flatten := by
  induction rows with
  | nil => rfl
  | cons w ws ih =>
    simp only [zGrid, List.map_cons, List.flatten_cons] at ih ⊢
    rw [ih]
    simp [roInts, roAll, zRow]
/-- Small numbers. -/
def small (rows : List (List Int)) : Prop := ∀ w, w ∈ rows → ∀ n, n ∈ w → -100 ≤ n ∧ n ≤ 100
theorem eqG1_ro (rows : List (List Int)) (hs : small rows) (i k : Nat) (hi : i < rows.length) (hk : k < rows[i].length) : RO Tryz.prog 95 [.int .i64 i, .int .i64 k, .ptr [.sl (ivv rows)]] (fv (some (((rows.getD i []).getD k 0 : Int) : Rat))) := by
  have hb := hs _ (List.getElem_mem hi) _ (List.getElem_mem hk)
  refine ro_of2 Tryz.func95 rfl rfl (by rw [Tryz.ntmps95]; simp) fun bl => ?_
  rw [Tryz.ntmps95, Tryz.results95]
  refine AW_run ?_
  simp [hi, hk]
  refine callP_ro (whole_ro rows[i][k] (by omega)) ?_
  simp
  exact retRO [fv (some ((rows[i][k] : Int) : Rat))] 0 (by simp) (by simp [hi, hk, fv_frz]) (Sub.refl _)

theorem eqX_le {s : Str} (hs : SOk s) (j : Int) {m : Mb} (hm : m ∈ s.ms) : (-100 ≤ eqX s j m ∧ eqX s j m ≤ 100) ∧ (-100 ≤ eqY s j m ∧ eqY s j m ≤ 100) := by
  have := v_le hs hm
  unfold eqX eqY
  split
  · exact this
  · split
    · omega
    · omega
theorem eqRows_small {s : Str} (hs : SOk s) : small (eqRows s) ∧ ∀ w, w ∈ eqRows s → w.length = s.ms.length := by
  constructor
  · intro w hw n hn
    obtain ⟨j, _, hw⟩ := List.mem_flatMap.1 hw
    rcases List.mem_cons.1 hw with rfl | hw
    · obtain ⟨m, hm, rfl⟩ := List.mem_map.1 hn
      exact (eqX_le hs j hm).1
    · obtain rfl : w = rowY s j := by simpa using hw
      obtain ⟨m, hm, rfl⟩ := List.mem_map.1 hn
      exact (eqX_le hs j hm).2
  · intro w hw
    obtain ⟨j, _, hw⟩ := List.mem_flatMap.1 hw
    rcases List.mem_cons.1 hw with rfl | hw
    · simp
    · obtain rfl : w = rowY s j := by simpa using hw
      simp
theorem eqRows_length (s : Str) : (eqRows s).length = 2 * (frees s.js).length := by
  have := eqTo_length s (frees s.js).length (Nat.le_refl _)
  rw [← this]; unfold eqTo eqRows; rw [List.take_length]
theorem eqRows_flat (s : Str) : (eqRows s).flatten = rowsF s := by
  unfold eqRows rowsF
  induction frees s.js with
  | nil => rfl
  | cons j js ih =>
    rw [List.flatMap_cons, List.flatMap_cons, List.flatten_append, ih]
    simp
theorem equilibrium_roG (s : Str) (hs : SOk s) : RO Tryz.prog 94 [.ptr s.c] (.sl (ivv (eqRows s))) := by
  have := ro_of_nw 2 (equilibrium_nw s hs) (dII_dep _)
  rwa [dII_fz] at this
theorem equilibriumGrid_ro (s : Str) (hs : SOk s) : RO Tryz.prog 45 [.ptr s.c] (.agg [.int .i64 (eqRows s).length, .int .i64 s.ms.length, .sl (gv (zGrid (eqRows s)))]) := by
  obtain ⟨hsm, hlen⟩ := eqRows_small hs
  have hrl := eqRows_length s
  have hnj := hs.nj
  have hnm := hs.nm
  have hfl := freesTo_le s.js s.js.length
  change (frees s.js).length ≤ s.js.length at hfl
  have hG := ro_of_nw 3 (newGrid_nw (eqRows s).length s.ms.length (by omega) (by omega) 95 [.ptr [.sl (ivv (eqRows s))]] (fun i k => some ((((eqRows s).getD i []).getD k 0 : Int) : Rat)) (fun i k hi hk => eqG1_ro (eqRows s) hsm i k hi (by rw [hlen _ (List.getElem_mem hi)]; exact hk))) (dG_dep _ _ _)
  rw [dG_fz, zGrid_eq _ _ hlen] at hG
  refine ro_of2 Tryz.func45 rfl rfl (by rw [Tryz.ntmps45]; simp) fun bl => ?_
  rw [Tryz.ntmps45, Tryz.results45]
  refine AW_runA ?_
  simp
  intro g2 hg2 hb2
  refine AW_runA ?_
  simp
  refine callP_ro (equilibrium_roG s hs) ?_
  simp
  intro g3 hg3 h32 hb3
  refine AW_frzAt 1 3 (.ptr [.sl (ivv (eqRows s))]) (upd bl g2 (some ⟨3, [[.int .i64 0, .int .i64 0, .nils]]⟩)) (by simp [h32, hb3]) (by simp [frz, dropB, h32, Ne.symm h32, hb3, V.cl]) ?_
  refine AW_run ?_
  refine AW_mixedB mixedO bl (by simp [hb2]) [0, 1, 2, 3, 4, 5, 6] 3 (by kernel_rfl) ?_
  simp [Str.c]
  refine DAny_one (i := 7) (by kernel_rfl) rfl rfl ?_
  simp
  refine ⟨by simp [hb2], DAny_one (i := 8) (by kernel_rfl) rfl rfl ?_⟩
  try simp
  refine callP_ro hG ?_
  refine ⟨by simp [hb2], DAny_one (i := 9) (by kernel_rfl) rfl rfl ?_⟩
  simp
  refine ⟨by simp [hb2], DAny_done (by kernel_rfl) ?_⟩
  try simp
  exact retRO [.agg [.int .i64 (eqRows s).length, .int .i64 s.ms.length, .sl (gv (zGrid (eqRows s)))]] 1 (by simp) (by simp [frz, V.cl]) (by simp [hb2])

/-- The equilibrium matrix of a structure, or none. -/
def eqMx (s : Str) : MX := if sOk s = true then ⟨(eqRows s).length, s.ms.length, roInts (rowsF s)⟩ else ⟨0, 0, []⟩
theorem zGrid_ok {rows : List (List Int)} (h : small rows) : ∀ w, w ∈ zGrid rows → okL w := by
  intro w hw x hx
  obtain ⟨r, hr, rfl⟩ := List.mem_map.1 hw
  obtain ⟨n, hn, rfl⟩ := List.mem_map.1 hx
  have := h r hr n hn
  exact okQ_int (by omega)
theorem zGrid_flen (rows : List (List Int)) : (zGrid rows).flatten.length = rows.flatten.length := by
  induction rows with
  | nil => rfl
  | cons w ws ih =>
    simp only [zGrid, List.map_cons, List.flatten_cons, List.length_append] at ih ⊢
    rw [ih]; simp [zRow]
theorem rowsF_len (s : Str) : (rowsF s).length = 2 * (frees s.js).length * s.ms.length := by
  unfold rowsF
  induction frees s.js with
  | nil => simp
  | cons j js ih => rw [List.flatMap_cons, List.length_append, ih]; simp [Nat.add_mul, Nat.mul_add]; omega
theorem impl_EquilibriumMatrix_nw (s : Str) (hj : s.js.length ≤ 140737488351232) (hm : s.ms.length ≤ 140737488351232) (hn : ∀ j, j ∈ s.js → j.name.size ≤ 140737488351232) : NW Tryz.prog 12 [.agg s.c] (.a (dMx (eqMx s))) := by
  refine nw_of Tryz.func12 rfl rfl (by rw [Tryz.ntmps12]; simp) fun bl => ?_
  rw [Tryz.ntmps12, Tryz.results12]
  refine AW_runA ?_
  simp [Str.c]
  intro g hg0 hg g2 hg2 h2g hb2
  refine AW_frzAt 1 1 (.ptr s.c) (upd bl g2 (some ⟨3, [[.int .i64 0, .int .i64 0, .nils]]⟩)) (by intro z b hz; simp only [upd_apply] at hz ⊢; grind) (by simp [frz, dropB, hg, h2g, Ne.symm h2g, Str.c, V.cl]) ?_
  refine AW_run ?_
  simp [Str.c]
  refine callP_ro (impl_StructureOk_ro s hj hm hn) ?_
  cases hk : sOk s
  · have hz : eqMx s = ⟨0, 0, []⟩ := by unfold eqMx; rw [hk]; rfl
    rw [hz]
    simp
    refine retNW [.agg [.int .i64 0, .int .i64 0, .nils]] [] (by simp) ?_ (by simp) (by simp [hb2])
    show OwnD _ (.a (dMx _)) _ _
    rw [OwnD]
    exact ⟨_, rfl, own_mx.2 ⟨.nils, rfl, own_rs.2 (.inl ⟨rfl, rfl, rfl⟩)⟩⟩
  have hs := sOk_of hk
  obtain ⟨hsm, hlen⟩ := eqRows_small hs
  have hrl := eqRows_length s
  have hnj := hs.nj
  have hnm := hs.nm
  have hfl := freesTo_le s.js s.js.length
  change (frees s.js).length ≤ s.js.length at hfl
  have hz : eqMx s = ⟨(eqRows s).length, s.ms.length, roInts (rowsF s)⟩ := by unfold eqMx; rw [hk]; rfl
  have hrf := rowsF_len s
  have hmul : 2 * (frees s.js).length * s.ms.length ≤ 12 * 8 := Nat.mul_le_mul (by omega) hnm
  have hcl : clMx (eqRows s).length s.ms.length (zGrid (eqRows s)) = eqMx s := by
    unfold clMx; rw [zGrid_all, if_pos rfl, zGrid_flat, eqRows_flat, hz]
  have hC := closed_nw (eqRows s).length s.ms.length (zGrid (eqRows s)) (by simp [zGrid]; omega) (zGrid_ok hsm) (fun w hw => by
    obtain ⟨r, hr, rfl⟩ := List.mem_map.1 hw
    rw [zRow, List.length_map, hlen r hr]; omega) (by rw [zGrid_flen, eqRows_flat]; omega)
  rw [hcl, zGrid_all] at hC
  simp
  refine callP_ro (equilibriumGrid_ro s hs) ?_
  simp
  refine callP_new hC fun v gs b o f fr => ?_
  obtain ⟨w, rfl, ow⟩ := own_dMB.1 o
  obtain ⟨w1, w2⟩ := own_rs1 ow
  have e2 : b g2 = some ⟨3, [[.int .i64 0, .int .i64 0, .nils]]⟩ := new_keep f fr (by simp)
  have hgs : ∀ x, x ∈ gs → x ≠ g2 ∧ bl x = none := fun x hx => by have := f x hx; simp only [upd_apply] at this; split at this <;> simp_all
  have hs1 : Sub bl b := fun x y hy => new_keep f fr (by rw [upd_apply, if_neg (fun e => by rw [e, hb2] at hy; cases hy)]; exact hy)
  simp [w1, w2, e2]
  intro g3 hg3 hb3
  have h32 : g3 ≠ g2 := fun e => by rw [e, e2] at hb3; cases hb3
  have hb30 : bl g3 = none := fresh_of hs1 hb3
  simp [w1, w2, e2, h32, Ne.symm h32]
  refine retNW [.agg [.int .i64 (eqMx s).r, .int .i64 (eqMx s).c, w]] gs (by simp [w1, w2]) ?_ (fun x hx => (hgs x hx).2) ?_
  · show OwnD _ (.a (dMx _)) _ _
    rw [OwnD]
    refine ⟨_, rfl, own_mx.2 ⟨w, rfl, ow.frame fun x hx => ?_⟩⟩
    have e3 : x ≠ g3 := fun e => by obtain ⟨y, hy⟩ := ow.has x hx; rw [e, hb3] at hy; cases hy
    simp [upd_apply, (hgs x hx).1, e3]
  · intro x y hx
    have z2 : x ≠ g2 := fun e => by rw [e, hb2] at hx; cases hx
    have z3 : x ≠ g3 := fun e => by rw [e, hb30] at hx; cases hx
    simp [upd_apply, z2, z3, hs1 x y hx]

end Go.Proofs.YtmbcofnnibpbeaaGreat.Vm

namespace Go.Proofs.YtmbcofnnibpbeaaGreat.Vm
open Go Go.Proofs
set_option linter.unusedSimpArgs false
set_option linter.unusedVariables false

def fitsQ (s : Str) (q : List RT) : Bool := (sOk s && decide (q.length = s.ms.length)) && allOk q
theorem densities_ro (s : Str) (q : List RT) (hj : s.js.length ≤ 140737488351232) (hm : s.ms.length ≤ 140737488351232) (hn : ∀ j, j ∈ s.js → j.name.size ≤ 140737488351232) (hq : fitQ q 1048576) : RO Tryz.prog 48 [.ptr s.c, .sl (rv q)] (.tup [.sl (fvs (if fitsQ s q = true then rdAll q else [])), .bool (fitsQ s q)]) := by
  refine ro_of2 Tryz.func48 rfl rfl (by rw [Tryz.ntmps48]; simp) fun bl => ?_
  rw [Tryz.ntmps48, Tryz.results48]
  refine AW_run ?_
  simp [Str.c]
  refine AW_way0 [(0, .ptr s.c), (1, .sl (rv q)), (4, .nils), (5, .bool false)] _ bl 20 (.bool (!(sOk s && decide (q.length = s.ms.length)))) ⟨rfl, by simp [Str.c], Sub.refl _⟩ rfl ?_ ?_
  · simp [Str.c]
    refine ⟨fun h => ?_, fun h => ?_⟩
    · right; omega
    · refine callP_ro (impl_StructureOk_ro s hj hm hn) ?_
      simp
      intro h2; omega
  cases hw : (sOk s && decide (q.length = s.ms.length))
  · have hf : fitsQ s q = false := by unfold fitsQ; rw [hw]; rfl
    rw [hf]
    simp
    exact retRO [.nils, .bool false] 1 (by simp) (by simp [frz, fvs, V.cl]) (Sub.refl _)
  · have hf : fitsQ s q = allOk q := by unfold fitsQ; rw [hw]; rfl
    rw [hf]
    simp
    refine callP_ro (loads_ro q hq) ?_
    simp
    exact retRO [.sl (fvs (if allOk q = true then rdAll q else [])), .bool (allOk q)] 1 (by simp) (by simp [frz]) (Sub.refl _)

/-- Does a density have the wrong sign for its member? -/
def sgnBad (m : Mb) (x : Option Rat) : Bool := (decide (m.kind = 1) && decide (sgq x < 0)) || (decide (m.kind = 2) && decide (0 < sgq x))
def sgnsTo (ms : List Mb) (q : List RT) (n : Nat) : Prop := ∀ k (h1 : k < ms.length) (h2 : k < q.length), k < n → sgnBad ms[k] (rd q[k]) = false
def hasS (s : Str) (q : List RT) : Bool := fitsQ s q && (List.zip s.ms q).all fun p => !sgnBad p.1 (rd p.2)
theorem hasS_yes {s : Str} {q : List RT} (hf : fitsQ s q = true) (h : sgnsTo s.ms q s.ms.length) : hasS s q = true := by
  unfold hasS
  rw [hf, Bool.true_and, List.all_eq_true]
  intro p hp
  obtain ⟨k, hk, rfl⟩ := List.getElem_of_mem hp
  rw [List.length_zip] at hk
  rw [List.getElem_zip]
  simp only
  rw [h k (by omega) (by omega) (by omega)]; rfl
theorem hasS_no {s : Str} {q : List RT} (k : Nat) (h1 : k < s.ms.length) (h2 : k < q.length) (h : sgnBad s.ms[k] (rd q[k]) = true) : hasS s q = false := by
  unfold hasS
  rw [Bool.and_eq_false_iff]
  right
  rw [List.all_eq_false]
  refine ⟨(s.ms[k], q[k]), ?_, by simp [h]⟩
  rw [List.mem_iff_getElem]
  exact ⟨k, by rw [List.length_zip]; omega, by rw [List.getElem_zip]⟩

end Go.Proofs.YtmbcofnnibpbeaaGreat.Vm

namespace Go.Proofs.YtmbcofnnibpbeaaGreat.Vm
open Go Go.Proofs
set_option linter.unusedSimpArgs false
set_option linter.unusedVariables false

/-- The sum over the members before n that touch joint j. -/
def pTo (e : Mb → Int) (s : Str) (q : List (Option Rat)) (j : Int) : Nat → Option Rat
  | 0 => some 0
  | n + 1 => if j = (mat s n).a ∨ j = (mat s n).b then op2 (· + ·) (pTo e s q j n) (op2 (· * ·) (q.getD n none) (some (e (mat s n) : Rat))) else pTo e s q j n
theorem pTo_ok (e : Mb → Int) (s : Str) (q : List (Option Rat)) (j : Int) : ∀ n, okQ (pTo e s q j n)
  | 0 => fun x h => by cases h; exact fits_zero
  | n + 1 => by
    unfold pTo; split
    · exact okQ_op2 _ _ _
    · exact pTo_ok e s q j n
def pX (s : Str) (q : List (Option Rat)) (j : Int) : Option Rat := pTo (eqX s j) s q j s.ms.length
def pY (s : Str) (q : List (Option Rat)) (j : Int) : Option Rat := pTo (eqY s j) s q j s.ms.length
theorem mat_at (s : Str) (i : Nat) (h : i < s.ms.length) : mat s i = s.ms[i] := by simp [mat, h]
theorem vxy_le {s : Str} (hs : SOk s) {m : Mb} (hm : m ∈ s.ms) : (-100 ≤ vx s m ∧ vx s m ≤ 100) ∧ (-100 ≤ vy s m ∧ vy s m ≤ 100) := by
  obtain ⟨⟨a1, a2⟩, ⟨b1, b2⟩⟩ := hs.ix _ hm
  have ha := hs.pl m.a.toNat (by omega)
  have hb := hs.pl m.b.toNat (by omega)
  unfold vx vy jat
  omega
theorem zero_cast : ((0 : Int) : Rat) = 0 := rfl
theorem pull_ro (s : Str) (q : List (Option Rat)) (j : Int) (hs : SOk s) (hq : okL q) (hl : q.length = s.ms.length) : RO Tryz.prog 49 [.ptr s.c, .sl (fvs q), .int .i64 j] (.tup [fv (pX s q j), fv (pY s q j)]) := by
  have hn := hs.nm
  have w0 := whole_ro 0 (by omega)
  rw [zero_cast] at w0
  refine ro_of2 Tryz.func49 rfl rfl (by rw [Tryz.ntmps49]; simp) fun bl => ?_
  rw [Tryz.ntmps49, Tryz.results49]
  refine AW_run ?_
  simp
  refine callP_ro w0 ?_
  simp
  refine callP_ro w0 ?_
  simp [Str.c]
  refine AW_for (fun i : Nat => [(0, .ptr s.c), (1, .sl (fvs q)), (2, .int .i64 j), (8, fv (pTo (eqX s j) s q j i)), (9, fv (pTo (eqY s j) s q j i)), (19, .sl (mv s.ms)), (20, .int .i64 s.ms.length), (21, .int .i64 i)]) (fun _ => bl) (fun i => i ≤ s.ms.length) (fun i => s.ms.length - i) _ 0 (Nat.zero_le _) ⟨rfl, by simp [Str.c, pTo], Sub.refl _⟩ ?_
  intro i hi
  refine AW_run ?_
  simp
  refine ⟨fun h => ?_, fun h => ?_⟩
  · have h2 : i < q.length := by omega
    have hm := mat_at s i h
    have hv := vector_ro s i hs (by omega) (by omega)
    rw [hm] at hv
    have hle := vxy_le hs (List.getElem_mem h)
    have hqi : q.getD i none = q[i] := by simp [h2]
    have hok := hq _ (List.getElem_mem h2)
    simp [h, Mb.c]
    intro g2 hg2 hb2
    refine callP_ro hv ?_
    simp
    refine ⟨fun hja => ?_, fun hja => ⟨fun hjb => ?_, fun hjb => ?_⟩⟩
    · obtain ⟨cx, hcx⟩ : ∃ c : Int, vx s s.ms[i] = c := ⟨_, rfl⟩
      obtain ⟨cy, hcy⟩ : ∃ c : Int, vy s s.ms[i] = c := ⟨_, rfl⟩
      have ex : eqX s j s.ms[i] = cx := by unfold eqX; rw [if_pos hja]; exact hcx
      have ey : eqY s j s.ms[i] = cy := by unfold eqY; rw [if_pos hja]; exact hcy
      have bx : -100 ≤ cx ∧ cx ≤ 100 := by omega
      have by_ : -100 ≤ cy ∧ cy ≤ 100 := by omega
      have e1 : pTo (eqX s j) s q j (i + 1) = op2 (· + ·) (pTo (eqX s j) s q j i) (op2 (· * ·) q[i] (some (cx : Rat))) := by
        rw [pTo, hm, if_pos (.inl hja), hqi, ex]
      have e2 : pTo (eqY s j) s q j (i + 1) = op2 (· + ·) (pTo (eqY s j) s q j i) (op2 (· * ·) q[i] (some (cy : Rat))) := by
        rw [pTo, hm, if_pos (.inl hja), hqi, ey]
      rw [hcx, hcy]
      refine AW_quiet mixedO (by kernel_rfl) ?_
      simp [h2]
      refine hcQ_ro (whole_ro cx (by omega)) ?_
      simp
      refine hcQ_ro (mul_ro q[i] _ hok (okQ_int (by omega))) ?_
      simp
      refine hcQ_ro (add_ro _ _ (pTo_ok _ _ _ _ _) (okQ_op2 _ _ _)) ?_
      simp
      refine AW_quiet mixedO (by kernel_rfl) ?_
      simp [h2]
      refine hcQ_ro (whole_ro cy (by omega)) ?_
      simp
      refine hcQ_ro (mul_ro q[i] _ hok (okQ_int (by omega))) ?_
      simp
      refine hcQ_ro (add_ro _ _ (pTo_ok _ _ _ _ _) (okQ_op2 _ _ _)) ?_
      simp (disch := omega) [i64_in, loopQ_normal]
      refine ⟨i + 1, by omega, by omega, rfl, by simp [e1, e2], by simp [hb2]⟩
    · obtain ⟨cx, hcx⟩ : ∃ c : Int, -vx s s.ms[i] = c := ⟨_, rfl⟩
      obtain ⟨cy, hcy⟩ : ∃ c : Int, -vy s s.ms[i] = c := ⟨_, rfl⟩
      have ex : eqX s j s.ms[i] = cx := by unfold eqX; rw [if_neg hja, if_pos hjb]; exact hcx
      have ey : eqY s j s.ms[i] = cy := by unfold eqY; rw [if_neg hja, if_pos hjb]; exact hcy
      have bx : -100 ≤ cx ∧ cx ≤ 100 := by omega
      have by_ : -100 ≤ cy ∧ cy ≤ 100 := by omega
      have e1 : pTo (eqX s j) s q j (i + 1) = op2 (· + ·) (pTo (eqX s j) s q j i) (op2 (· * ·) q[i] (some (cx : Rat))) := by
        rw [pTo, hm, if_pos (.inr hjb), hqi, ex]
      have e2 : pTo (eqY s j) s q j (i + 1) = op2 (· + ·) (pTo (eqY s j) s q j i) (op2 (· * ·) q[i] (some (cy : Rat))) := by
        rw [pTo, hm, if_pos (.inr hjb), hqi, ey]
      have wx : IntKind.i64.wrap (-vx s s.ms[i]) = cx := by rw [i64_in (by omega) (by omega)]; exact hcx
      have wy : IntKind.i64.wrap (-vy s s.ms[i]) = cy := by rw [i64_in (by omega) (by omega)]; exact hcy
      rw [wx, wy]
      refine AW_quiet mixedO (by kernel_rfl) ?_
      simp [h2]
      refine hcQ_ro (whole_ro cx (by omega)) ?_
      simp
      refine hcQ_ro (mul_ro q[i] _ hok (okQ_int (by omega))) ?_
      simp
      refine hcQ_ro (add_ro _ _ (pTo_ok _ _ _ _ _) (okQ_op2 _ _ _)) ?_
      simp
      refine AW_quiet mixedO (by kernel_rfl) ?_
      simp [h2]
      refine hcQ_ro (whole_ro cy (by omega)) ?_
      simp
      refine hcQ_ro (mul_ro q[i] _ hok (okQ_int (by omega))) ?_
      simp
      refine hcQ_ro (add_ro _ _ (pTo_ok _ _ _ _ _) (okQ_op2 _ _ _)) ?_
      simp (disch := omega) [i64_in, loopQ_normal]
      refine ⟨i + 1, by omega, by omega, rfl, by simp [e1, e2], by simp [hb2]⟩
    · have e1 : pTo (eqX s j) s q j (i + 1) = pTo (eqX s j) s q j i := by rw [pTo, hm, if_neg]; rintro (h | h); exact hja h; exact hjb h
      have e2 : pTo (eqY s j) s q j (i + 1) = pTo (eqY s j) s q j i := by rw [pTo, hm, if_neg]; rintro (h | h); exact hja h; exact hjb h
      simp (disch := omega) [i64_in, loopQ_normal]
      refine ⟨i + 1, by omega, by omega, rfl, by simp [e1, e2], by simp [hb2]⟩
  · have hi2 : i = s.ms.length := by omega
    subst hi2
    exact retRO [fv (pX s q j), fv (pY s q j)] 1 (by simp [pX, pY]) (by simp [frz, pX, pY]) (Sub.refl _)

end Go.Proofs.YtmbcofnnibpbeaaGreat.Vm

namespace Go.Proofs.YtmbcofnnibpbeaaGreat.Vm
open Go Go.Proofs
set_option linter.unusedSimpArgs false
set_option linter.unusedVariables false

def pullOk (s : Str) (q : List RT) (j : Int) : Bool := fitsQ s q && (decide (0 ≤ j) && decide (j < s.js.length))
def pqs (s : Str) (q : List RT) (j : Int) : List (Option Rat) := if pullOk s q j = true then [pX s (rdAll q) j, pY s (rdAll q) j] else [none]
theorem pqs_ok (s : Str) (q : List RT) (j : Int) : okL (pqs s q j) ∧ (pqs s q j).length ≤ 24 := by
  unfold pqs; split
  · refine ⟨fun x hx => ?_, by simp⟩
    rcases List.mem_cons.1 hx with rfl | hx
    · exact pTo_ok _ _ _ _ _
    · obtain rfl : x = _ := by simpa using hx
      exact pTo_ok _ _ _ _ _
  · refine ⟨fun x hx => ?_, by simp⟩
    obtain rfl : x = none := by simpa using hx
    intro q h; cases h
theorem fitsQ_of {s : Str} {q : List RT} (h : fitsQ s q = true) : SOk s ∧ q.length = s.ms.length ∧ allOk q = true := by
  unfold fitsQ at h; simp at h
  exact ⟨sOk_of h.1.1, h.1.2, h.2⟩
theorem impl_PullOn_nw (s : Str) (q : List RT) (j : Int) (hj : s.js.length ≤ 140737488351232) (hm : s.ms.length ≤ 140737488351232) (hn : ∀ j, j ∈ s.js → j.name.size ≤ 140737488351232) (hq : fitQ q 1048576) : NW Tryz.prog 14 [.agg s.c, .sl (rv q), .int .i64 j] (dV (stQ (pqs s q j)) (allSome (pqs s q j))) := by
  refine nw_of Tryz.func14 rfl rfl (by rw [Tryz.ntmps14]; simp) fun bl => ?_
  rw [Tryz.ntmps14, Tryz.results14]
  refine AW_runA ?_
  simp [Str.c]
  intro g hg0 hg
  refine AW_frzAt 1 3 (.ptr s.c) bl (by simp [hg]) (by simp [frz, dropB, hg, Str.c, V.cl]) ?_
  refine AW_run ?_
  simp
  refine callP_ro (densities_ro s q hj hm hn hq) ?_
  simp
  refine AW_way0 [(2, .int .i64 j), (3, .ptr s.c), (6, .nils), (7, .bool false), (8, .sl (fvs (if fitsQ s q = true then rdAll q else []))), (9, .bool (fitsQ s q))] _ bl 29 (.bool (!pullOk s q j)) ⟨rfl, by simp, Sub.refl _⟩ rfl ?_ ?_
  · cases hf : fitsQ s q
    · simp [pullOk, hf]
    simp [pullOk, hf, Str.c]
    by_cases h1 : j < 0
    · simp [h1]; omega
    · have h2 : 0 ≤ j := by omega
      simp [h1, h2]
      rw [Bool.eq_iff_iff]
      simp
  cases hp : pullOk s q j
  · have hz : pqs s q j = [none] := by unfold pqs; rw [hp]; rfl
    rw [hz]
    simp
    exact retNW [.nils, .bool false] [] (by simp) (own_two.2 ⟨.nils, rfl, own_rs.2 (.inl ⟨rfl, rfl, rfl⟩)⟩) (by simp) (Sub.refl _)
  have hz : pqs s q j = [pX s (rdAll q) j, pY s (rdAll q) j] := by unfold pqs; rw [hp]; rfl
  have hf : fitsQ s q = true := by unfold pullOk at hp; simp at hp; exact hp.1
  obtain ⟨hs, hlen, hall⟩ := fitsQ_of hf
  obtain ⟨hzo, _⟩ := pqs_ok s q j
  rw [hz] at hzo
  rw [hz, hf]
  simp
  refine callP_ro (pull_ro s (rdAll q) j hs (rdAll_ok q) (by simpa using hlen)) ?_
  generalize pX s (rdAll q) j = x at *
  generalize pY s (rdAll q) j = y at *
  simp
  intro g2 hg2 hb2
  refine callP_lend 1 (ys := [.sl (fvs [x, y])]) (by simp [frz, fvs, Int.not_lt.2 hg2, show List.range 2 = [0, 1] from rfl]) (stores_nw [x, y] hzo (by simp)) (dV_sc _ _) fun v gs b' o f fr => ?_
  obtain ⟨w, rfl, ow, w1, w2⟩ := own_dV o
  simp
  exact retNW [w, .bool (allSome [x, y])] gs (by simp) o (fun x hx => by have := f x hx; simp [upd_apply] at this; exact this.2) (fun x y hy => new_keep f fr (by rw [upd_apply, if_neg (fun e => by rw [e, hb2] at hy; cases hy)]; exact hy))

theorem impl_PullOn_ro (s : Str) (q : List RT) (j : Int) (hj : s.js.length ≤ 140737488351232) (hm : s.ms.length ≤ 140737488351232) (hn : ∀ j, j ∈ s.js → j.name.size ≤ 140737488351232) (hq : fitQ q 1048576) : RO Tryz.prog 14 [.agg s.c, .sl (rv q), .int .i64 j] (.tup [.sl (rv (stQ (pqs s q j))), .bool (allSome (pqs s q j))]) := by
  have := ro_of_nw 3 (impl_PullOn_nw s q j hj hm hn hq) (dV_dep _ _ 0)
  rwa [dV_fz] at this
theorem okC (x : Option Rat) (hx : okQ x) : RO Tryz.prog 159 [.agg (ro x).c] (.bool x.isSome) := by
  have h1 := ro_le hx
  have := spec_RatOk_ro (ro x) (by omega) (by omega)
  rwa [ok_ro hx] at this

end Go.Proofs.YtmbcofnnibpbeaaGreat.Vm

namespace Go.Proofs.YtmbcofnnibpbeaaGreat.Vm
open Go Go.RowKit
set_option linter.unusedSimpArgs false
set_option linter.unusedVariables false

theorem Hoist_append {P : Program} {ops : Array Oper} {blK : Int → Option Blk} {K : St → Prop} : ∀ (is js : List Nat) (σ : St), Hoist P ops blK is (fun σ' => Hoist P ops blK js K σ') σ → Hoist P ops blK (is ++ js) K σ
  | [], js, σ, h => h
  | i :: is, js, σ, h => by
    rw [List.cons_append]
    unfold Hoist at h ⊢
    split at h
    · obtain ⟨v, h1, h2⟩ := h
      exact ⟨v, h1, Hoist_append is js _ h2⟩
    · exact h.elim
theorem HoistF_mono {P : Program} {ds : List (Option Tmp)} {blK : Int → Option Blk} {K K' : St → Prop} (hK : ∀ σ, K σ → K' σ) : ∀ (l : List Oper) (σ : St), HoistF P ds blK l K σ → HoistF P ds blK l K' σ
  | [], σ, h => hK σ h
  | o :: rest, σ, h => by
    have next : ∀ v, HoistF P ds blK rest K (σ.put o.dst v) → HoistF P ds blK rest K' (σ.put o.dst v) := fun v hv => HoistF_mono hK rest _ hv
    unfold HoistF at h ⊢
    cases hg : o.guard with
    | none =>
      simp only [hg] at h ⊢
      split at h
      · obtain ⟨p, h1, v, n, ys, h2, h3⟩ := h
        exact ⟨p, h1, v, n, ys, h2, next v h3⟩
      · obtain ⟨v, h1, h2⟩ := h
        exact ⟨v, h1, next v h2⟩
    | some jb =>
      obtain ⟨j, b⟩ := jb
      simp only [hg] at h ⊢
      split at h
      · rename_i d hd
        split at h
        · split at h
          · rename_i hq
            obtain ⟨v, h1, h2⟩ := h
            rw [if_pos hq]
            exact ⟨v, h1, next v h2⟩
          · rename_i hq
            rw [if_neg hq]
            exact next _ h
        · exact next _ h
        · exact h.elim
      · exact h.elim
/-- One operation, guarded or not, as what it yields. -/
def HStep (P : Program) (ops : Array Oper) (blK : Int → Option Blk) (i : Nat) (K : St → Prop) (σ : St) : Prop := match ops[i]? with
  | some o => ∃ v, DY P ops blK o σ v ∧ K (σ.put o.dst v)
  | none => False
theorem HStep_call {P : Program} {ops : Array Oper} {blK : Int → Option Blk} {K : St → Prop} {σ : St} {i j d : Nat} {o : Oper} {b : Bool} {f : Operand} {args : Array Operand} {ats : Array TypeId} {fid : FuncId} {xs : List V} {v : V}
    (ho : ops[i]? = some o) (hop : o.op = .call ⟨.value f, args, ats⟩) (hg : o.guard = some (j, b)) (hd : (ops[j]?).bind (·.dst) = some d) (hb : σ.ev (.tmp d) = .bool b) (hc : callV σ f args.toList = some (fid, xs)) (hr : RO P fid xs v) (hK : K (σ.put o.dst v)) : HStep P ops blK i K σ := by
  unfold HStep
  rw [ho]
  refine ⟨v, ?_, hK⟩
  unfold DY
  simp only [hg, hd, hb]
  exact ⟨fun _ => .inr ⟨_, f, (fid, xs), 0, [], hop, rfl, hc, .inr hr⟩, fun hh => by cases b <;> cases hh⟩
theorem HStep_skip {P : Program} {ops : Array Oper} {blK : Int → Option Blk} {K : St → Prop} {σ : St} {i j d : Nat} {o : Oper} {b : Bool}
    (ho : ops[i]? = some o) (hg : o.guard = some (j, b)) (hd : (ops[j]?).bind (·.dst) = some d) (hb : σ.ev (.tmp d) = .bool (!b)) (hK : K (σ.put o.dst (.tup []))) : HStep P ops blK i K σ := by
  unfold HStep
  rw [ho]
  refine ⟨.tup [], ?_, hK⟩
  unfold DY
  simp only [hg, hd, hb]
  cases b
  · exact ⟨fun hh => (by cases hh), fun _ => by first | trivial | rfl⟩
  · exact ⟨fun hh => (by cases hh), fun _ => by first | trivial | rfl⟩
/-- As AW_mixedB, with the guarded call i between the lists is1 and is2. -/
theorem AW_mixedC {P : Program} {id : Nat} {ops : Array Oper} {K : Ex → St → Prop} {σ : St} (hm : P.follows .mixedOrders = true) (blK : Int → Option Blk) (hs : Sub blK σ.bl) (is1 : List Nat) (i : Nat) (is2 : List Nat) (fuel : Nat)
    (hn : (ops.size == fuel + (is1 ++ i :: is2).length && (is1 ++ i :: is2).all (fun i => decide (i < ops.size)) && hoistB ops (is1 ++ i :: is2) (Array.replicate ops.size false)) = true)
    (h : HoistF P (ops.toList.map (·.dst)) blK (is1.filterMap fun i => ops[i]?) (HStep P ops blK i (HoistF P (ops.toList.map (·.dst)) blK (is2.filterMap fun i => ops[i]?) (DAny P ops blK (fun _ => false) (K .normal) fuel (setAll (is1 ++ i :: is2) (Array.replicate ops.size false))))) σ) : AW P (.region id ops true) K σ := by
  simp only [Bool.and_eq_true, beq_iff_eq] at hn
  have hall := List.all_eq_true.1 hn.1.2
  have f1 : is1.all (fun i => decide (i < ops.size)) = true := List.all_eq_true.2 fun x hx => hall x (List.mem_append_left _ hx)
  have f2 : is2.all (fun i => decide (i < ops.size)) = true := List.all_eq_true.2 fun x hx => hall x (List.mem_append_right _ (List.mem_cons_of_mem _ hx))
  refine AW_draw_mixed hm (is1 ++ i :: is2) fuel blK hs hn.1.1 hn.2 (tl := fun _ => false) (fun _ _ _ _ h => by cases h) (Hoist_append is1 (i :: is2) σ (Hoist_is _ is1 σ (filter_some is1 f1) ?_))
  refine HoistF_mono (fun σ' h' => ?_) _ _ h
  unfold HStep at h'
  unfold Hoist
  split at h'
  · rename_i o ho
    obtain ⟨v, h1, h2⟩ := h'
    rw [ho]
    exact ⟨v, h1, Hoist_is _ is2 _ (filter_some is2 f2) h2⟩
  · exact h'.elim

/-- AW_mixedB where the last operations may store. -/
theorem AW_mixedBT {P : Program} {id : Nat} {ops : Array Oper} {K : Ex → St → Prop} {σ : St} (hm : P.follows .mixedOrders = true) (blK : Int → Option Blk) (hs : Sub blK σ.bl) (is : List Nat) (fuel n : Nat) (hn : (ops.size == fuel + is.length && is.all (fun i => decide (i < ops.size)) && hoistB ops is (Array.replicate ops.size false) && tailB ops (fun j => decide (n ≤ j)) is) = true)
    (h : HoistF P (ops.toList.map (·.dst)) blK (is.filterMap fun i => ops[i]?) (DAny P ops blK (fun j => decide (n ≤ j)) (K .normal) fuel (setAll is (Array.replicate ops.size false))) σ) : AW P (.region id ops true) K σ := by
  simp only [Bool.and_eq_true, beq_iff_eq] at hn
  exact AW_draw_mixed hm is fuel blK hs hn.1.1.1 hn.1.2 (tl := fun j => decide (n ≤ j)) (tailB_spec hn.2) (Hoist_is _ is σ (filter_some is hn.1.1.2) h)

end Go.Proofs.YtmbcofnnibpbeaaGreat.Vm

namespace Go.Proofs.YtmbcofnnibpbeaaGreat.Vm
open Go Go.Proofs
set_option linter.unusedSimpArgs false
set_option linter.unusedVariables false

def lN (l : List Int) (k : Nat) : Int := l.getD k 0
theorem lN_at {l : List Int} {k : Nat} (h : k < l.length) : lN l k = l[k] := by simp [lN, h]
def fX (s : Str) (l : List Int) (q : List (Option Rat)) (i : Nat) : Option Rat := op2 (· + ·) (pX s q i) (some (lN l (2 * i) : Rat))
def fY (s : Str) (l : List Int) (q : List (Option Rat)) (i : Nat) : Option Rat := op2 (· + ·) (pY s q i) (some (lN l (2 * i + 1) : Rat))
theorem fX_ok (s : Str) (l : List Int) (q : List (Option Rat)) (i : Nat) : okQ (fX s l q i) := okQ_op2 _ _ _
theorem fY_ok (s : Str) (l : List Int) (q : List (Option Rat)) (i : Nat) : okQ (fY s l q i) := okQ_op2 _ _ _
def isZ (x : Option Rat) : Bool := x.isSome && decide (sgq x = 0)
theorem isZero_ro (x : Option Rat) : RO Tryz.prog 70 [fv x] (.bool (isZ x)) := by
  refine ro_of2 Tryz.func70 rfl rfl (by rw [Tryz.ntmps70]; simp) fun bl => ?_
  rw [Tryz.ntmps70, Tryz.results70]
  refine AW_run ?_
  simp
  cases x with
  | none =>
    refine AW_region (Ops_of ?_)
    simp [fv]
    exact retRO0 (by simp [isZ]) rfl rfl
  | some q =>
    refine AW_region (Ops_of ?_)
    simp [fv]
    refine callP_ro (Sign_ro q) ?_
    have hz : isZ (some q) = decide (q.num.sign = 0) := rfl
    generalize q.num.sign = z at hz ⊢
    simp
    exact retRO [.bool (isZ (some q))] 0 (by simp [hz, eq_dec]) (by simp [frz]) (Sub.refl _)
def balJ (s : Str) (l : List Int) (q : List (Option Rat)) (i : Nat) : Bool := isZ (fX s l q i) && isZ (fY s l q i)
/-- All free joints before n are in balance. -/
def isBal (s : Str) (l : List Int) (q : List RT) : Bool := (fitsQ s q && fitsL s.js l) && (frees s.js).all fun j => balJ s l (rdAll q) j.toNat
theorem frees_get (js : List J) (t : Nat) (h : t < (frees js).length) : ∃ i : Nat, (frees js)[t] = i ∧ i < js.length := by
  have hm : (frees js)[t] ∈ frees js := List.getElem_mem h
  generalize (frees js)[t] = x at hm ⊢
  unfold frees freesTo at hm
  obtain ⟨i, hi, rfl⟩ := List.mem_map.1 hm
  have := List.mem_filter.1 hi
  exact ⟨i, rfl, by simpa using this.1⟩
theorem fitsL_lN {js : List J} {l : List Int} (h : fitsL js l = true) : l.length = 2 * js.length ∧ ∀ k, k < l.length → -100 ≤ lN l k ∧ lN l k ≤ 100 := by
  unfold fitsL at h
  rw [Bool.and_eq_true] at h
  refine ⟨by simpa using h.1, fun k hk => ?_⟩
  have := List.all_eq_true.1 h.2 l[k] (List.getElem_mem hk)
  rw [lN_at hk]
  simpa [forceOk] using this
theorem impl_IsBalanced_ro (s : Str) (l : List Int) (q : List RT) (hj : s.js.length ≤ 140737488351232) (hm : s.ms.length ≤ 140737488351232) (hn : ∀ j, j ∈ s.js → j.name.size ≤ 140737488351232) (hl : l.length ≤ 140737488351232) (hq : fitQ q 1048576) : RO Tryz.prog 32 [.agg s.c, .sl (iv l), .sl (rv q)] (.bool (isBal s l q)) := by
  refine ro_of2 Tryz.func32 rfl rfl (by rw [Tryz.ntmps32]; simp) fun bl => ?_
  rw [Tryz.ntmps32, Tryz.results32]
  refine AW_runA ?_
  simp [Str.c]
  intro g hg0 hg
  refine AW_frzAt 1 3 (.ptr s.c) bl (by simp [hg]) (by simp [frz, dropB, hg, Str.c, V.cl]) ?_
  refine AW_run ?_
  simp
  refine callP_ro (densities_ro s q hj hm hn hq) ?_
  simp
  refine AW_way0 [(1, .sl (iv l)), (3, .ptr s.c), (6, .bool false), (7, .sl (fvs (if fitsQ s q = true then rdAll q else []))), (8, .bool (fitsQ s q))] _ bl 24 (.bool (!(fitsQ s q && fitsL s.js l))) ⟨rfl, by simp, Sub.refl _⟩ rfl ?_ ?_
  · cases hf : fitsQ s q
    · simp
    simp
    refine callP_ro (fitsLoad_ro s l hj hl) ?_
    simp
  cases hp : (fitsQ s q && fitsL s.js l)
  · have hz : isBal s l q = false := by unfold isBal; rw [hp]; rfl
    simp
    exact retRO [.bool false] 0 (by simp) (by simp [frz, hz]) (Sub.refl _)
  rw [Bool.and_eq_true] at hp
  obtain ⟨hs, hlen, hall⟩ := fitsQ_of hp.1
  obtain ⟨hll, hlb⟩ := fitsL_lN hp.2
  have hb : isBal s l q = (frees s.js).all fun j => balJ s l (rdAll q) j.toNat := by unfold isBal; rw [hp.1, hp.2]; rfl
  have hnj := hs.nj
  have hfl := freesTo_le s.js s.js.length
  change (frees s.js).length ≤ s.js.length at hfl
  rw [hb, hp.1]
  simp
  refine callP_ro (freeJoints_ro s (by omega)) ?_
  simp
  refine AW_for (fun t : Nat => [(1, .sl (iv l)), (3, .ptr s.c), (7, .sl (fvs (rdAll q))), (25, .sl (iv (frees s.js))), (26, .int .i64 (frees s.js).length), (27, .int .i64 t)]) (fun _ => bl) (fun t => t ≤ (frees s.js).length ∧ ∀ k (h : k < (frees s.js).length), k < t → balJ s l (rdAll q) (frees s.js)[k].toNat = true) (fun t => (frees s.js).length - t) _ 0 ⟨Nat.zero_le _, fun k _ h0 => by omega⟩ ⟨rfl, by simp, Sub.refl _⟩ ?_
  rintro t ⟨ht, hc⟩
  refine AW_run ?_
  simp
  refine ⟨fun h => ?_, fun h => ?_⟩
  · obtain ⟨i, ei, hi⟩ := frees_get s.js t h
    simp [h, ei]
    refine callP_ro (pull_ro s (rdAll q) i hs (rdAll_ok q) (by simpa using hlen)) ?_
    simp
    have b1 := hlb (2 * i) (by omega)
    have b2 := hlb (2 * i + 1) (by omega)
    have w1 : IntKind.i64.wrap (2 * (i : Int)) = 2 * i := i64_in (by omega) (by omega)
    have w2 : IntKind.i64.wrap (2 * (i : Int) + 1) = 2 * i + 1 := i64_in (by omega) (by omega)
    have p1 : 2 * i < l.length := by omega
    have p2 : 2 * i + 1 < l.length := by omega
    have p3 : 2 * (i : Int) < l.length := by omega
    have p4 : 2 * (i : Int) + 1 < l.length := by omega
    have p5 : 0 ≤ 2 * (i : Int) := by omega
    have p6 : 0 ≤ 2 * (i : Int) + 1 := by omega
    have p7 : (2 * (i : Int)).toNat = 2 * i := by omega
    have p8 : (2 * (i : Int) + 1).toNat = 2 * i + 1 := by omega
    have q1 := lN_at p1
    have q2 := lN_at p2
    refine AW_way0 [(1, .sl (iv l)), (3, .ptr s.c), (7, .sl (fvs (rdAll q))), (25, .sl (iv (frees s.js))), (26, .int .i64 (frees s.js).length), (27, .int .i64 t), (10, .int .i64 i), (11, fv (pX s (rdAll q) i)), (12, fv (pY s (rdAll q) i))] _ bl 59 (.bool (!balJ s l (rdAll q) i)) ⟨rfl, by simp, Sub.refl _⟩ rfl ?_ ?_
    · simp [w1, w2, p1, p2, p3, p4, p5, p6, p7, p8]
      rw [← q1]
      refine callP_ro (whole_ro _ (by omega)) ?_
      simp [w1, w2, p1, p2, p3, p4, p5, p6, p7, p8]
      refine callP_ro (add_ro _ _ (pTo_ok _ _ _ _ _) (okQ_int (by omega))) ?_
      simp [w1, w2, p1, p2, p3, p4, p5, p6, p7, p8]
      refine callP_ro (isZero_ro (fX s l (rdAll q) i)) ?_
      simp [w1, w2, p1, p2, p3, p4, p5, p6, p7, p8]
      refine ⟨fun z1 => ?_, fun z1 => ?_⟩
      · simp [balJ, z1]
      rw [← q2]
      refine callP_ro (whole_ro _ (by omega)) ?_
      simp [w1, w2, p1, p2, p3, p4, p5, p6, p7, p8]
      refine callP_ro (add_ro _ _ (pTo_ok _ _ _ _ _) (okQ_int (by omega))) ?_
      simp [w1, w2, p1, p2, p3, p4, p5, p6, p7, p8]
      refine callP_ro (isZero_ro (fY s l (rdAll q) i)) ?_
      simp [balJ, z1]
    cases hbj : balJ s l (rdAll q) i
    · have hno : ((frees s.js).all fun j => balJ s l (rdAll q) j.toNat) = false := by
        rw [List.all_eq_false]
        exact ⟨_, List.getElem_mem h, by rw [ei]; simpa using hbj⟩
      rw [hno]
      simp
      exact retRO [.bool false] 0 (by simp) (by simp [frz]) (Sub.refl _)
    · simp
      simp (disch := omega) [i64_in, loopQ_normal]
      refine ⟨t + 1, ⟨by omega, fun k hk hkt => ?_⟩, by omega, rfl, by simp, Sub.refl _⟩
      rcases Nat.lt_or_ge k t with hlt | hge
      · exact hc k hk hlt
      · obtain rfl : k = t := by omega
        rw [ei]; simpa using hbj
  · have hi2 : t = (frees s.js).length := by omega
    have : (frees s.js).all (fun j => balJ s l (rdAll q) j.toNat) = true := List.all_eq_true.2 fun x hx => by
      obtain ⟨k, hk, rfl⟩ := List.getElem_of_mem hx
      exact hc k hk (by omega)
    rw [this]
    exact retRO [.bool true] 0 (by simp) (by simp [frz]) (Sub.refl _)

/-! ### In the reference -/
def frcL (s : Str) (l : List Int) (q : List RT) (i : Nat) : List RT := if allSome [pX s (rdAll q) i, pY s (rdAll q) i] = true then [ro (fX s l (rdAll q) i), ro (fY s l (rdAll q) i)] else []
def frcB (s : Str) (l : List Int) (q : List RT) (i : Nat) : Bool := allSome [fX s l (rdAll q) i, fY s l (rdAll q) i]
theorem frcB_no {s : Str} {l : List Int} {q : List RT} {i : Nat} (h : allSome [pX s (rdAll q) i, pY s (rdAll q) i] = false) : frcB s l q i = false := by
  unfold frcB fX fY
  generalize pX s (rdAll q) i = x at *
  generalize pY s (rdAll q) i = y at *
  cases x with
  | none => simp [allSome, op2]
  | some a =>
    cases y with
    | none => simp [allSome, op2]
    | some b => simp [allSome] at h
theorem RatFromC_ro (n : Int) (hn : -100 ≤ n ∧ n ≤ 100) : RO Tryz.prog 105 [.int .i64 n] (.agg (ro (some (n : Rat))).c) := RatFromInt_ro n (by omega)
theorem isZ_spec (x : Option Rat) (h : x.isSome = true) : isZ x = decide (sgq x = 0) := by unfold isZ; rw [h]; rfl
theorem rv_two (a b : RT) : rv [a, b] = [a.c, b.c] := rfl
end Go.Proofs.YtmbcofnnibpbeaaGreat.Vm

namespace Go.Proofs.YtmbcofnnibpbeaaGreat.Vm
open Go Go.Proofs
set_option linter.unusedSimpArgs false
set_option linter.unusedVariables false

def r6 (n : Int) : Rat := mkRat n 6
theorem r6_fits {n : Int} (h : n.natAbs ≤ 1000000000) : fits (r6 n) := by
  have h1 : (r6 n).num.natAbs ≤ n.natAbs := by
    unfold r6
    rw [Rat.num_mkRat]
    simp only [show (6 : Nat) ≠ 0 by decide, if_false]
    exact Int.natAbs_ediv_le_natAbs _ _
  have h2 : (r6 n).den ≤ 6 := by
    unfold r6
    rw [Rat.den_mkRat]
    simp only [show (6 : Nat) ≠ 0 by decide, if_false]
    exact Nat.div_le_self _ _
  exact ⟨lim_length_le.2 (Nat.lt_of_le_of_lt (show (r6 n).num.natAbs ≤ 1000000000 by omega) (by decide +kernel)), lim_length_le.2 (Nat.lt_of_le_of_lt h2 (by decide +kernel))⟩
theorem r6_add (a b : Int) : r6 a + r6 b = r6 (a + b) := by
  unfold r6
  rw [Rat.mkRat_add_mkRat _ _ (by decide) (by decide), ← Int.add_mul]
  exact Rat.mkRat_mul_right (by decide)
theorem r6_mul (a b : Int) : (a : Rat) * r6 b = r6 (a * b) := by
  unfold r6
  rw [show (a : Rat) = mkRat a 1 from (Rat.mkRat_one _).symm, Rat.mkRat_mul_mkRat]
theorem r6_zero : (0 : Rat) = r6 0 := by decide
def q6 (n : Int) : Option Rat := some (r6 n)
theorem q6_ok {n : Int} (h : n.natAbs ≤ 1000000000) : okQ (q6 n) := fun q e => by cases e; exact r6_fits h
theorem q6_add {a b : Int} (h : (a + b).natAbs ≤ 1000000000) : op2 (· + ·) (q6 a) (q6 b) = q6 (a + b) := by
  show fit (r6 a + r6 b) = some (r6 (a + b))
  rw [r6_add]; unfold fit; rw [if_pos (r6_fits h)]
theorem q6_mulL {a b : Int} (h : (a * b).natAbs ≤ 1000000000) : op2 (· * ·) (some (a : Rat)) (q6 b) = q6 (a * b) := by
  show fit ((a : Rat) * r6 b) = some (r6 (a * b))
  rw [r6_mul]; unfold fit; rw [if_pos (r6_fits h)]
theorem q6_mulR {a b : Int} (h : (a * b).natAbs ≤ 1000000000) : op2 (· * ·) (q6 b) (some (a : Rat)) = q6 (a * b) := by
  show fit (r6 b * (a : Rat)) = some (r6 (a * b))
  rw [Rat.mul_comm, r6_mul]; unfold fit; rw [if_pos (r6_fits h)]

/-- The sum of the products of two lists of numbers, up to n. -/
def dotTo (a u : List Int) : Nat → Int
  | 0 => 0
  | n + 1 => dotTo a u n + lN a n * lN u n
theorem dot_le {a u : List Int} (ha : ∀ k, -100 ≤ lN a k ∧ lN a k ≤ 100) (hu : ∀ k, -60 ≤ lN u k ∧ lN u k ≤ 60) : ∀ n, (dotTo a u n).natAbs ≤ 6000 * n
  | 0 => by simp [dotTo]
  | n + 1 => by
    have := dot_le ha hu n
    have h1 := ha n
    have h2 := hu n
    have : (lN a n * lN u n).natAbs ≤ 100 * 60 := by rw [Int.natAbs_mul]; exact Nat.mul_le_mul (by omega) (by omega)
    rw [dotTo]; omega
/-- The program's inner product. -/
def inTo (a b : List (Option Rat)) : Nat → Option Rat
  | 0 => some 0
  | n + 1 => op2 (· + ·) (inTo a b n) (op2 (· * ·) (a.getD n none) (b.getD n none))
theorem inTo_ok (a b : List (Option Rat)) : ∀ n, okQ (inTo a b n)
  | 0 => fun x h => by cases h; exact fits_zero
  | n + 1 => okQ_op2 _ _ _
theorem inTo_dot {a u : List Int} (ha : ∀ k, -100 ≤ lN a k ∧ lN a k ≤ 100) (hu : ∀ k, -60 ≤ lN u k ∧ lN u k ≤ 60) : ∀ n, n ≤ a.length → n ≤ u.length → n ≤ 1000 → inTo (zRow a) (u.map q6) n = q6 (dotTo a u n)
  | 0, _, _, _ => by show some (0 : Rat) = some (r6 0); rw [r6_zero]
  | n + 1, h1, h2, h3 => by
    have hd := dot_le ha hu n
    have h4 := ha n
    have h5 := hu n
    have h6 : (lN a n * lN u n).natAbs ≤ 100 * 60 := by rw [Int.natAbs_mul]; exact Nat.mul_le_mul (by omega) (by omega)
    rw [inTo, inTo_dot ha hu n (by omega) (by omega) (by omega)]
    have e1 : (zRow a).getD n none = some ((lN a n : Int) : Rat) := by
      have h7 : n < (zRow a).length := by simp [zRow]; omega
      rw [getD_at _ _ _ h7]; simp [zRow, lN, show n < a.length by omega]
    have e2 : (u.map q6).getD n none = q6 (lN u n) := by
      have h7 : n < (u.map q6).length := by simp; omega
      rw [getD_at _ _ _ h7]; simp [lN, show n < u.length by omega]
    rw [e1, e2, q6_mulL (by omega), q6_add (by omega), dotTo]
theorem pTo_dot {s : Str} {e : Mb → Int} {j : Int} {u : List Int} (he : ∀ m, m ∈ s.ms → -100 ≤ e m ∧ e m ≤ 100) (h0 : ∀ m, m ∈ s.ms → ¬ (j = m.a ∨ j = m.b) → e m = 0) (hu : ∀ k, -60 ≤ lN u k ∧ lN u k ≤ 60) (hl : u.length = s.ms.length) (h8 : s.ms.length ≤ 8) : ∀ n, n ≤ s.ms.length → pTo e s (u.map q6) j n = q6 (dotTo (s.ms.map e) u n)
  | 0, _ => by show some (0 : Rat) = some (r6 0); rw [r6_zero]
  | n + 1, h1 => by
    have hm := mat_at s n (by omega)
    have hmem : s.ms[n] ∈ s.ms := List.getElem_mem (by omega)
    have ea : lN (s.ms.map e) n = e s.ms[n] := by simp [lN, show n < s.ms.length by omega]
    have hbd : ∀ k, -100 ≤ lN (s.ms.map e) k ∧ lN (s.ms.map e) k ≤ 100 := fun k => by
      rcases Nat.lt_or_ge k s.ms.length with h | h
      · have : lN (s.ms.map e) k = e s.ms[k] := by simp [lN, h]
        rw [this]; exact he _ (List.getElem_mem h)
      · have : lN (s.ms.map e) k = 0 := by simp [lN, List.getD_eq_getElem?_getD, h]
        rw [this]; omega
    have hd := dot_le hbd hu n
    have h4 := hbd n
    have h5 := hu n
    have h6 : (lN (s.ms.map e) n * lN u n).natAbs ≤ 100 * 60 := by rw [Int.natAbs_mul]; exact Nat.mul_le_mul (by omega) (by omega)
    have e2 : (u.map q6).getD n none = q6 (lN u n) := by
      have h7 : n < (u.map q6).length := by simp; omega
      rw [getD_at _ _ _ h7]; simp [lN, show n < u.length by omega]
    rw [pTo, pTo_dot he h0 hu hl h8 n (by omega), hm, dotTo, e2]
    split
    · rw [← ea, q6_mulR (by omega), q6_add (by omega)]
    · rename_i hc
      have : lN (s.ms.map e) n = 0 := by rw [ea]; exact h0 _ hmem hc
      rw [this]; simp
end Go.Proofs.YtmbcofnnibpbeaaGreat.Vm

namespace Go.Proofs.YtmbcofnnibpbeaaGreat.Vm
open Go Go.Proofs
set_option linter.unusedSimpArgs false
set_option linter.unusedVariables false

/-- A linear program. -/
structure Pg where
  rows : Int
  cols : Int
  a : List Int
  b : List Int
  c : List Int
def Pg.v (p : Pg) : List V := [.int .i64 p.rows, .int .i64 p.cols, .sl (iv p.a), .sl (iv p.b), .sl (iv p.c)]
def nR (s : Str) : Nat := 2 * (frees s.js).length
def nC (s : Str) : Nat := (cols s.ms).length
def colAt (s : Str) (c : Nat) : Int × Int := (cols s.ms).getD c (0, 0)
def ent (s : Str) (i c : Nat) : Int := (colAt s c).2 * lat (rowsF s) (i * s.ms.length + (colAt s c).1.toNat)
def aTo (s : Str) (n : Nat) : List Int := (List.range n).map fun t => ent s (t / nC s) (t % nC s)
def fprog (s : Str) (l : List Int) : Pg := ⟨nR s, nC s, aTo s (nR s * nC s), right s l, List.replicate (nC s) 0⟩
@[simp] theorem aTo_length (s : Str) (n : Nat) : (aTo s n).length = n := by simp [aTo]
theorem aTo_succ (s : Str) (i c : Nat) (h : c < nC s) : aTo s (i * nC s + c + 1) = aTo s (i * nC s + c) ++ [ent s i c] := by
  unfold aTo
  rw [List.range_succ, List.map_append]
  congr 1
  simp only [List.map_cons, List.map_nil]
  rw [Nat.mul_comm i, Nat.mul_add_div (by omega), Nat.mul_add_mod, Nat.div_eq_of_lt h, Nat.mod_eq_of_lt h, Nat.add_zero]

theorem rowsF_length (s : Str) : (rowsF s).length = nR s * s.ms.length := by
  have e : rowsF s = rowsTo s (frees s.js).length := by simp [rowsF, rowsTo]
  rw [e, rowsTo_length s _ (Nat.le_refl _), nR, Nat.mul_right_comm]
theorem cols_mem {ms : List Mb} {n : Nat} {p : Int × Int} (h : p ∈ colsTo ms n) : (0 ≤ p.1 ∧ p.1 < n) ∧ (p.2 = 1 ∨ p.2 = -1) := by
  unfold colsTo at h
  obtain ⟨k, hk, hp⟩ := List.mem_flatMap.1 h
  have := List.mem_range.1 hk
  unfold colK at hp
  rcases List.mem_append.1 hp with hp | hp <;> split at hp <;> simp at hp <;> subst hp <;> simp <;> omega
theorem colAt_ok (s : Str) (c : Nat) (h : c < nC s) : (0 ≤ (colAt s c).1 ∧ (colAt s c).1 < s.ms.length) ∧ ((colAt s c).2 = 1 ∨ (colAt s c).2 = -1) := by
  unfold nC at h
  have : colAt s c = (cols s.ms)[c] := by simp [colAt, h]
  rw [this]
  exact cols_mem (List.getElem_mem h)
theorem who_at (s : Str) (c : Nat) (h : c < nC s) : (iv (who s))[c]? = some [.int .i64 (colAt s c).1] := by
  unfold nC at h
  simp [who, colAt, h, iv]
theorem sgn_at (s : Str) (c : Nat) (h : c < nC s) : (iv (sgn s))[c]? = some [.int .i64 (colAt s c).2] := by
  unfold nC at h
  simp [sgn, colAt, h, iv]
theorem rowsF_le {s : Str} (hs : SOk s) (n : Nat) : -100 ≤ lat (rowsF s) n ∧ lat (rowsF s) n ≤ 100 := by
  have key : ∀ x, x ∈ rowsF s → -100 ≤ x ∧ x ≤ 100 := by
    intro x hx
    unfold rowsF at hx
    obtain ⟨j, _, hx⟩ := List.mem_flatMap.1 hx
    rcases List.mem_append.1 hx with hx | hx
    · obtain ⟨m, hm, rfl⟩ := List.mem_map.1 hx
      have := v_le hs hm
      unfold eqX; split
      · omega
      · split <;> omega
    · obtain ⟨m, hm, rfl⟩ := List.mem_map.1 hx
      have := v_le hs hm
      unfold eqY; split
      · omega
      · split <;> omega
  unfold lat
  rw [List.getD_eq_getElem?_getD]
  cases h : (rowsF s)[n]? with
  | none => simp
  | some x => exact key x (List.mem_of_getElem? h)


structure PS where
  n : Nat
  g : Int
  b : Int → Option Blk
structure PI (bl : Int → Option Blk) (s : Str) (l : List Int) (gr gp gc : Int) (p : PS) : Prop where
  hr : p.b gr = some ⟨5, [[.int .i64 0, .int .i64 0, .nils, .nils, .nils]]⟩
  hp : p.b gp = some ⟨5, [[.int .i64 (nR s), .int .i64 (nC s), .lsl p.g 1 0 p.n, .sl (iv (right s l)), .lsl gc 1 0 (nC s)]]⟩
  hc : p.b gc = some ⟨1, iv (List.replicate (nC s) 0)⟩
  ha : p.b p.g = some ⟨1, iv (aTo s p.n)⟩
  pr : p.g ≠ gr
  pp : p.g ≠ gp
  pc : p.g ≠ gc
  f : bl p.g = none
  sub : Sub bl p.b
  neg : p.g < 0 → aTo s p.n = []

end Go.Proofs.YtmbcofnnibpbeaaGreat.Vm
