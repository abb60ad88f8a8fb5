/- Marks of structures. -/
import Derived.Test.YtpkphjoobeacfaaK16
namespace Go.Proofs.Ytpkphjoobeacfaa.Vm
open Go Go.Proofs
set_option linter.unusedSimpArgs false
set_option linter.unusedVariables false

/-! ### Copies that are the call's own -/
theorem toIntS_nw (a : List Int) (ha : a.length ≤ 1048576) : NW Try.prog 29 [.sl (iv a)] (fl 1 (iv a)) := by
  refine nw_of Try.func29 rfl rfl (by rw [Try.ntmps29]; simp) fun bl => ?_
  rw [Try.ntmps29, Try.results29]
  refine AW_run ?_
  simp
  refine ⟨by omega, by unfold maxLen; omega, fun g hg0 hg => ?_⟩
  refine AW_for (fun i : Nat => [(0, .sl (iv a)), (3, .lsl g 1 0 a.length), (4, .int .i64 i)]) (fun i => upd bl g (some ⟨1, part (iv a) [.int .i64 0] i⟩)) (fun i => i ≤ a.length) (fun i => a.length - i) _ 0 (Nat.zero_le _) ⟨rfl, by simp, sub_eq (by simp)⟩ ?_
  intro i hi
  refine AW_run ?_
  simp
  refine ⟨fun h => ?_, fun h => ?_⟩
  · have hi' : i < (iv a).length := by simpa using h
    simp (disch := omega) [h, part_get _ _ _ hi', i64_in, loopQ_normal]
    refine ⟨i + 1, by omega, by omega, rfl, by simp, sub_eq ?_⟩
    simp only [upd_idem]
    rw [part_set _ _ _ hi']
    simp
  · refine retNW [.lsl g 1 0 a.length] [g] (by simp) ?_ (by simpa using hg) (by simp [hg])
    rw [part_all _ _ _ (by simpa using h)]
    exact own_iv.2 (.inr ⟨g, rfl, rfl, by simp, by omega⟩)

theorem jv_clen (ns : List J) : ∀ r, r ∈ jv ns → r.length = 4 := by
  intro r hr
  obtain ⟨n, _, rfl⟩ := List.mem_map.1 hr
  rfl
theorem mv_clen (ns : List Mb) : ∀ r, r ∈ mv ns → r.length = 3 := by
  intro r hr
  obtain ⟨n, _, rfl⟩ := List.mem_map.1 hr
  rfl
theorem jv_ow (ns : List J) : (jv ns).all (fun r => r.all V.ow) = true := by simp [jv, J.c, V.ow]
theorem mv_ow (ns : List Mb) : (mv ns).all (fun r => r.all V.ow) = true := by simp [mv, Mb.c, V.ow]
theorem own_jv {bl : Int → Option Blk} {ns : List J} {v : V} {gs : List Int} : OwnD bl (fl 4 (jv ns)) v gs ↔ (ns = [] ∧ v = .nils ∧ gs = []) ∨ ∃ g, v = .lsl g 4 0 ns.length ∧ gs = [g] ∧ bl g = some ⟨4, jv ns⟩ ∧ (g < 0 → ns = []) := by
  rw [own_fl (jv_cl ns) (jv_clen ns)]
  simp [jv]
theorem own_mv {bl : Int → Option Blk} {ns : List Mb} {v : V} {gs : List Int} : OwnD bl (fl 3 (mv ns)) v gs ↔ (ns = [] ∧ v = .nils ∧ gs = []) ∨ ∃ g, v = .lsl g 3 0 ns.length ∧ gs = [g] ∧ bl g = some ⟨3, mv ns⟩ ∧ (g < 0 → ns = []) := by
  rw [own_fl (mv_cl ns) (mv_clen ns)]
  simp [mv]

theorem toJointS_nw (a : List J) (ha : a.length ≤ 1048576) : NW Try.prog 86 [.sl (jv a)] (fl 4 (jv a)) := by
  refine nw_of Try.func86 rfl rfl (by rw [Try.ntmps86]; simp) fun bl => ?_
  rw [Try.ntmps86, Try.results86]
  refine AW_run ?_
  simp
  refine ⟨by omega, by unfold maxLen; omega, fun g hg0 hg => ?_⟩
  refine AW_for (fun i : Nat => [(0, .sl (jv a)), (3, .lsl g 4 0 a.length), (4, .int .i64 i)]) (fun i => upd bl g (some ⟨4, part (jv a) [.str { data := #[] }, .int .i64 0, .int .i64 0, .bool false] i⟩)) (fun i => i ≤ a.length) (fun i => a.length - i) _ 0 (Nat.zero_le _) ⟨rfl, by simp, sub_eq (by simp)⟩ ?_
  intro i hi
  refine AW_run ?_
  simp
  refine ⟨fun h => ?_, fun h => ?_⟩
  · have hi' : i < (jv a).length := by simpa using h
    simp [h]
    refine callP_ro (toJoint_ro a[i]) ?_
    simp (disch := omega) [h, part_get _ _ _ hi', i64_in, loopQ_normal, J.c]
    refine ⟨i + 1, by omega, by omega, rfl, by simp, sub_eq ?_⟩
    simp only [upd_idem]
    rw [part_set _ _ _ hi']
    simp [J.c]
  · refine retNW [.lsl g 4 0 a.length] [g] (by simp) ?_ (by simpa using hg) (by simp [hg])
    rw [part_all _ _ _ (by simpa using h)]
    exact own_jv.2 (.inr ⟨g, rfl, rfl, by simp, by omega⟩)

theorem toMemberS_nw (a : List Mb) (ha : a.length ≤ 1048576) : NW Try.prog 87 [.sl (mv a)] (fl 3 (mv a)) := by
  refine nw_of Try.func87 rfl rfl (by rw [Try.ntmps87]; simp) fun bl => ?_
  rw [Try.ntmps87, Try.results87]
  refine AW_run ?_
  simp
  refine ⟨by omega, by unfold maxLen; omega, fun g hg0 hg => ?_⟩
  refine AW_for (fun i : Nat => [(0, .sl (mv a)), (3, .lsl g 3 0 a.length), (4, .int .i64 i)]) (fun i => upd bl g (some ⟨3, part (mv a) [.int .i64 0, .int .i64 0, .int .i64 0] i⟩)) (fun i => i ≤ a.length) (fun i => a.length - i) _ 0 (Nat.zero_le _) ⟨rfl, by simp, sub_eq (by simp)⟩ ?_
  intro i hi
  refine AW_run ?_
  simp
  refine ⟨fun h => ?_, fun h => ?_⟩
  · have hi' : i < (mv a).length := by simpa using h
    simp [h]
    refine callP_ro (toMember_ro a[i]) ?_
    simp (disch := omega) [h, part_get _ _ _ hi', i64_in, loopQ_normal, Mb.c]
    refine ⟨i + 1, by omega, by omega, rfl, by simp, sub_eq ?_⟩
    simp only [upd_idem]
    rw [part_set _ _ _ hi']
    simp [Mb.c]
  · refine retNW [.lsl g 3 0 a.length] [g] (by simp) ?_ (by simpa using hg) (by simp [hg])
    rw [part_all _ _ _ (by simpa using h)]
    exact own_mv.2 (.inr ⟨g, rfl, rfl, by simp, by omega⟩)

/-- A structure of the call's own. -/
def dStr (s : Str) : List D := [fl 4 (jv s.js), fl 3 (mv s.ms)]
theorem own_pair {bl : Int → Option Blk} {d e : D} {vs : List V} {gs : List Int} : OwnL bl [d, e] vs gs ↔ ∃ v w g1 g2, vs = [v, w] ∧ gs = g1 ++ g2 ∧ (∀ g, g ∈ g1 → g ∉ g2) ∧ OwnD bl d v g1 ∧ OwnD bl e w g2 := by
  rw [OwnL]
  constructor
  · rintro ⟨v, vs', g1, g2, rfl, rfl, h1, h2, h3⟩
    rw [OwnL] at h3
    obtain ⟨w, vs'', g3, g4, rfl, rfl, h4, h5, h6⟩ := h3
    rw [OwnL] at h6
    obtain ⟨rfl, rfl⟩ := h6
    rw [List.append_nil] at h1 ⊢
    exact ⟨v, w, g1, g3, rfl, rfl, h1, h2, h5⟩
  · rintro ⟨v, w, g1, g2, rfl, rfl, h1, h2, h3⟩
    refine ⟨v, [w], g1, g2, rfl, rfl, h1, h2, ?_⟩
    rw [OwnL]
    exact ⟨w, [], g2, [], rfl, by simp, by simp, h3, by rw [OwnL]; exact ⟨rfl, rfl⟩⟩
theorem OwnD.one {bl : Int → Option Blk} {sz : Nat} {rows : List (List V)} {v : V} {gs : List Int} (h : OwnD bl (fl sz rows) v gs) : v.one = true ∧ v.cells = [v] := by
  unfold fl at h
  rw [OwnD] at h
  rcases h with ⟨_, rfl, _⟩ | ⟨g, els, gs', rfl, _⟩ <;> exact ⟨rfl, rfl⟩

theorem toStructure_nw (s : Str) (hj : s.js.length ≤ 1048576) (hm : s.ms.length ≤ 1048576) : NW Try.prog 34 [.agg s.c] (.a (dStr s)) := by
  refine nw_of Try.func34 rfl rfl (by rw [Try.ntmps34]; simp) fun bl => ?_
  rw [Try.ntmps34, Try.results34]
  refine AW_run ?_
  simp [Str.c]
  intro g1 hg1 hb1 g2 hg2 h21 hb2
  intro g3 hg3 h32 h31 hb3
  simp [h21, h31, h32, Ne.symm h21, Ne.symm h31, Ne.symm h32]
  refine callP_new (toJointS_nw _ hj) fun v1 gs1 b1 o1 f1 fr1 => ?_
  obtain ⟨c1, c2⟩ := o1.one
  have e1 : ∀ g, g ∈ gs1 → g ≠ g1 ∧ g ≠ g2 ∧ g ≠ g3 ∧ bl g = none := fun g hg => by have := f1 g hg; simp [upd_apply] at this; grind
  have n1 : b1 g1 = _ := fr1 g1 fun h => (e1 g1 h).1 rfl
  have n2 : b1 g2 = _ := fr1 g2 fun h => (e1 g2 h).2.1 rfl
  have n3 : b1 g3 = _ := fr1 g3 fun h => (e1 g3 h).2.2.1 rfl
  simp [h21, h31, h32, Ne.symm h21, Ne.symm h31, Ne.symm h32] at n1 n2 n3
  simp [h21, h31, h32, Ne.symm h21, Ne.symm h31, Ne.symm h32, n1, n2, n3, c1, c2]
  refine callP_new (toMemberS_nw _ hm) fun v2 gs2 b2 o2 f2 fr2 => ?_
  obtain ⟨d1, d2⟩ := o2.one
  have e2 : ∀ g, g ∈ gs2 → g ≠ g3 ∧ b1 g = none := fun g hg => by have := f2 g hg; simp [upd_apply] at this; exact this
  have e3 : ∀ g, g ∈ gs2 → g ∉ gs1 := fun g hg hg1 => by
    obtain ⟨b, hb⟩ := o1.has g hg1
    rw [(e2 g hg).2] at hb; cases hb
  have e4 : ∀ g, g ∈ gs2 → g ≠ g2 := fun g hg h => by have := (e2 g hg).2; rw [h, n2] at this; cases this
  have m1 : b2 g1 = _ := fr2 g1 fun h => by have := (e2 g1 h).2; rw [n1] at this; cases this
  have m2 : b2 g2 = _ := fr2 g2 fun h => by have := (e2 g2 h).2; rw [n2] at this; cases this
  have m3 : b2 g3 = _ := fr2 g3 fun h => (e2 g3 h).1 rfl
  simp [h21, h31, h32, Ne.symm h21, Ne.symm h31, Ne.symm h32, n1, n2] at m1 m2 m3
  simp [h21, h31, h32, Ne.symm h21, Ne.symm h31, Ne.symm h32, m1, m2, m3, d1, d2, c1]
  have k1 : OwnD b2 (fl 4 (jv s.js)) v1 gs1 := o1.frame fun g hg => by
    rw [fr2 g (fun h => e3 g h hg)]
    simp [upd_apply, (e1 g hg).2.2.1]
  have hsub : Sub bl b2 := fun g b hb => by
    have z1 : g ≠ g1 := fun h => by rw [h, hb1] at hb; cases hb
    have z2 : g ≠ g2 := fun h => by rw [h, hb2] at hb; cases hb
    have z3 : g ≠ g3 := fun h => by rw [h, hb3] at hb; cases hb
    have hn1 : g ∉ gs1 := fun h => by rw [(e1 g h).2.2.2] at hb; cases hb
    have hb1 : b1 g = some b := by rw [fr1 g hn1]; simp [upd_apply, z1, z2, z3, hb]
    have hn2 : g ∉ gs2 := fun h => by rw [(e2 g h).2] at hb1; cases hb1
    rw [fr2 g hn2]
    simp [upd_apply, z3, hb1]
  refine retNW [.agg [v1, v2]] (gs1 ++ gs2) ?_ ?_ ?_ ?_
  · simp [h21, h31, h32, Ne.symm h21, Ne.symm h31, Ne.symm h32, m1, m2, m3]
  · show OwnD _ (.a (dStr s)) (.agg [v1, v2]) (gs1 ++ gs2)
    rw [OwnD]
    refine ⟨_, rfl, own_pair.2 ⟨v1, v2, gs1, gs2, rfl, rfl, fun g h1 h2 => e3 g h2 h1, ?_, ?_⟩⟩
    · exact k1.frame fun g hg => by simp [upd_apply, (e1 g hg).2.1, (e1 g hg).2.2.1]
    · exact o2.frame fun g hg => by simp [upd_apply, (e2 g hg).1, e4 g hg]
  · intro g hg
    rcases List.mem_append.1 hg with hg | hg
    · exact (e1 g hg).2.2.2
    · have h2 := (e2 g hg).2
      rw [fr1 g (e3 g hg)] at h2
      simp [upd_apply] at h2
      grind
  · simp [hb2, hb3]; exact hsub

end Go.Proofs.Ytpkphjoobeacfaa.Vm
