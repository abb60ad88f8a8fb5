/- WithoutMembers. -/
import Derived.Test.YtpkphjoobeacfaaK26
namespace Go.Proofs.Ytpkphjoobeacfaa.Vm
open Go Go.Proofs
set_option linter.unusedSimpArgs false
set_option linter.unusedVariables false

/-- The members before n whose numbers are not in a list. -/
def keptTo (ms : List Mb) (l : List Int) (n : Nat) : List Mb := ((List.range n).filter fun (i : Nat) => !decide ((i : Int) ∈ l)).map fun (i : Nat) => ms.getD i default
theorem keptTo_succ (ms : List Mb) (l : List Int) (n : Nat) : keptTo ms l (n + 1) = keptTo ms l n ++ if (n : Int) ∈ l then [] else [ms.getD n default] := by
  unfold keptTo
  rw [List.range_succ, List.filter_append, List.map_append]
  congr 1
  by_cases h : (n : Int) ∈ l <;> simp only [List.filter_cons, List.filter_nil, h] <;> simp
theorem keptTo_le (ms : List Mb) (l : List Int) (n : Nat) : (keptTo ms l n).length ≤ n := by
  unfold keptTo
  rw [List.length_map]
  exact Nat.le_trans (List.length_filter_le _ _) (by simp)
theorem mv_append (a b : List Mb) : mv (a ++ b) = mv a ++ mv b := by simp [mv]
theorem mv_takeall (ns : List Mb) : (mv ns).take ns.length = mv ns := by rw [← mv_length ns, List.take_length]
def without (s : Str) (l : List Int) : Str := ⟨s.js, keptTo s.ms l s.ms.length⟩

theorem impl_WithoutMembers_nw (s : Str) (l : List Int) (hj : s.js.length ≤ 1048576) (hm : s.ms.length ≤ 1048576) (hl : l.length ≤ 1048576) : NW Try.prog 60 [.agg s.c, .sl (iv l)] (.a (dStr (without s l))) := by
  refine nw_of Try.func60 rfl rfl (by rw [Try.ntmps60]; simp) fun bl => ?_
  rw [Try.ntmps60, Try.results60]
  refine AW_run ?_
  simp [Str.c]
  intro g2 hg2 hb2 g4 hg4 h42 hb4
  simp [h42, Ne.symm h42]
  refine callP_new (Clone_joints_nw _ hj) fun vj gj b1 oj fj frj => ?_
  obtain ⟨c1, c2⟩ := oj.one
  have e4 : b1 g4 = some ⟨2, [[.nils, .nils]]⟩ := new_keep fj frj (by simp)
  have hnj : ∀ x, x ∈ gj → bl x = none := fun x hx => by have := fj x hx; simp [upd_apply] at this; exact this.2.2
  have hS1 : Sub bl b1 := fun x b hx => by
    have z2 : x ≠ g2 := fun e => by rw [e, hb2] at hx; cases hx
    have z4 : x ≠ g4 := fun e => by rw [e, hb4] at hx; cases hx
    exact new_keep fj frj (by simp [upd_apply, z2, z4, hx])
  have n4 : g4 ∉ gj := fun h => by have := fj g4 h; simp at this
  simp [c1, c2]
  intro g5 hg5 hb5
  have h54 : g5 ≠ g4 := fun e => by rw [e, e4] at hb5; cases hb5
  have n5 : g5 ∉ gj := fun h => by obtain ⟨b, hb⟩ := oj.has g5 h; rw [hb5] at hb; cases hb
  have e2 : b1 g2 = some ⟨2, [[.sl (jv s.js), .sl (mv s.ms)]]⟩ := new_keep fj frj (by simp [h42, Ne.symm h42])
  have h52 : g5 ≠ g2 := fun e => by rw [e, e2] at hb5; cases hb5
  simp [h54, Ne.symm h54, h52, Ne.symm h52, e2]
  refine AW_ghostCell (g := g5) (s := 2) (els := [[vj, .nils]]) (e := [vj, .nils]) 0 1 3 (by simp) rfl rfl fun g00 hg00 hne00 => ?_
  simp [hne00] at hg00
  refine AW_for (fun p : Nat × Int => [(1, .sl (iv l)), (4, .loc g4 2 0 0), (5, .loc g5 2 0 0), (13, .sl (mv s.ms)), (14, .int .i64 s.ms.length), (15, .int .i64 p.1)])
    (fun p => upd (upd b1 g5 (some ⟨2, [[vj, .lsl p.2 3 0 (keptTo s.ms l p.1).length]]⟩)) p.2 (some ⟨3, mv (keptTo s.ms l p.1)⟩))
    (fun p => p.1 ≤ s.ms.length ∧ b1 p.2 = none ∧ p.2 ≠ g5 ∧ (p.2 < 0 → keptTo s.ms l p.1 = [])) (fun p => s.ms.length - p.1) _ (0, g00) ⟨Nat.zero_le _, hg00, hne00, fun _ => rfl⟩ (by refine ⟨rfl, by simp, ?_⟩; exact sub_eq (by simp [keptTo, mv])) ?_
  rintro ⟨i, g⟩ ⟨hi, hg, h5, h0⟩
  simp only at hi hg h5 h0
  have hle := keptTo_le s.ms l i
  refine AW_run ?_
  simp
  refine ⟨fun h => ?_, fun h => ?_⟩
  · simp [h, Mb.c]
    intro g7 hg7 h7g h75 hb7
    refine callP_ro (Contains_ints_ro l i (by omega)) ?_
    simp
    refine ⟨fun hin => ?_, fun hin => ?_⟩
    · simp [h5, Ne.symm h5, h75, Ne.symm h75, h7g, Ne.symm h7g]
      intro g8 hg8 h87 h8g h85 hb8
      simp [h5, Ne.symm h5, h75, Ne.symm h75, h7g, Ne.symm h7g, h87, Ne.symm h87, h8g, Ne.symm h8g, h85, Ne.symm h85, appV, elsV, Int.not_lt.2 hg8]
      refine ⟨by omega, fun g9 hg9 hb9 => ?_⟩
      have hb9' : b1 g9 = none := by grind
      have h95 : g9 ≠ g5 := by grind
      simp [h95, Ne.symm h95, h5, Ne.symm h5, h75, Ne.symm h75, h7g, Ne.symm h7g, h87, Ne.symm h87, h8g, Ne.symm h8g, h85, Ne.symm h85]
      simp (disch := omega) [i64_in, loopQ_normal]
      have hs1 : keptTo s.ms l (i + 1) = keptTo s.ms l i ++ [s.ms[i]] := by rw [keptTo_succ, if_neg hin]; simp [h]
      refine ⟨i + 1, g9, ⟨by omega, hb9', h95, by omega⟩, by omega, rfl, by simp [hs1], ?_⟩
      intro x b hx
      rw [hs1, mv_append] at hx
      simp only [upd_apply, rem_apply, mv_takeall] at hx ⊢
      have e : mv [s.ms[i]] = [[V.int IntKind.i64 s.ms[i].a, V.int IntKind.i64 s.ms[i].b, V.int IntKind.i64 s.ms[i].kind]] := rfl
      rw [e] at hx
      grind
    · simp (disch := omega) [i64_in, loopQ_normal]
      have hs1 : keptTo s.ms l (i + 1) = keptTo s.ms l i := by rw [keptTo_succ, if_pos hin]; simp
      refine ⟨i + 1, g, ⟨by omega, hg, h5, by rw [hs1]; exact h0⟩, by omega, rfl, by simp [hs1], ?_⟩
      rw [hs1]
      simp [hb7, h7g, h75]
  · have hi : i = s.ms.length := by omega
    subst hi
    simp [h5, Ne.symm h5, e4, h54, Ne.symm h54]
    have h4 : g ≠ g4 := fun e => by rw [e, e4] at hg; cases hg
    simp [h4, Ne.symm h4, e4, h54, Ne.symm h54, h5, Ne.symm h5, c1, c2]
    refine retNW [.agg [vj, .lsl g 3 0 (keptTo s.ms l s.ms.length).length]] (gj ++ [g]) ?_ ?_ ?_ ?_
    · simp [h4, Ne.symm h4, e4, h54, Ne.symm h54]
    · show OwnD _ (.a (dStr (without s l))) (.agg [_, _]) (gj ++ [g])
      have ng : g ∉ gj := fun h => by obtain ⟨b, hb⟩ := oj.has g h; rw [hg] at hb; cases hb
      rw [OwnD]
      refine ⟨_, rfl, own_pair.2 ⟨_, _, gj, [g], rfl, rfl, fun x hx hx2 => ng (by simp at hx2; rw [← hx2]; exact hx), ?_, ?_⟩⟩
      · refine oj.frame fun x hx => ?_
        have z4 : x ≠ g4 := fun e => n4 (e ▸ hx)
        have z5 : x ≠ g5 := fun e => n5 (e ▸ hx)
        have zg : x ≠ g := fun e => ng (e ▸ hx)
        simp [upd_apply, z4, z5, zg]
      · exact own_mv.2 (.inr ⟨g, rfl, rfl, by simp [h4, without], h0⟩)
    · intro x hx
      rcases List.mem_append.1 hx with hx | hx
      · exact hnj x hx
      · simp at hx; subst hx; exact fresh_of hS1 hg
    · have q5 := fresh_of hS1 hb5
      have qg := fresh_of hS1 hg
      simp [hb4, q5, qg]
      exact hS1

theorem spec_WithoutMembers_nw (s : Str) (l : List Int) (hj : s.js.length ≤ 1048576) (hm : s.ms.length ≤ 1048576) (hl : l.length ≤ 1048576) : NW Try.prog 59 [.agg s.c, .sl (iv l)] (.a (dStr (without s l))) := by
  refine nw_of Try.func59 rfl rfl (by rw [Try.ntmps59]; simp) fun bl => ?_
  rw [Try.ntmps59, Try.results59]
  refine AW_run ?_
  simp [Str.c]
  intro g2 hg2 hb2 g4 hg4 h42 hb4
  intro ga hga ha4 ha2 hba
  have hall : ((jv s.js).all fun c => (c.length == 4 && c.all V.one)) = true := by simp [jv, J.c]
  simp [h42, Ne.symm h42, ha4, Ne.symm ha4, ha2, Ne.symm ha2, appV, elsV, hall]
  refine ⟨by omega, fun g1 hg1 hb1 => ?_⟩
  have hb1' : bl g1 = none := by grind
  have h14 : g1 ≠ g4 := by grind
  have h12 : g1 ≠ g2 := by grind
  generalize hvj : V.lsl g1 4 0 s.js.length = vj
  have c1 : vj.one = true := by rw [← hvj]; rfl
  have c2 : vj.cells = [vj] := by rw [← hvj]; rfl
  intro g5 hg5 h51 hb5
  have h52' : g5 ≠ g2 := by grind
  have h54' : g5 ≠ g4 := by grind
  simp [h51, Ne.symm h51, h52', Ne.symm h52', h54', Ne.symm h54', h12, Ne.symm h12, h14, Ne.symm h14, ha4, Ne.symm ha4, ha2, Ne.symm ha2, h42, Ne.symm h42]
  generalize hbe : upd (rem _ ga) g1 _ = b1
  have e4 : b1 g4 = some ⟨2, [[.nils, .nils]]⟩ := by rw [← hbe]; simp [Ne.symm h14, Ne.symm ha4]
  have oj : OwnD b1 (fl 4 (jv s.js)) vj [g1] := own_jv.2 (.inr ⟨g1, hvj.symm, rfl, by rw [← hbe]; simp, fun h => by rcases hg1 with h1 | h1; omega; simpa [jv] using h1⟩)
  have hS1 : Sub bl b1 := by rw [← hbe]; simp [hb1', hba, hb4, hb2]
  have hb5 : b1 g5 = none := by rw [← hbe]; simp only [upd_apply, rem_apply]; grind
  obtain ⟨gj, hgj⟩ : ∃ gj, gj = [g1] := ⟨_, rfl⟩
  rw [← hgj] at oj
  have n4 : g4 ∉ gj := by rw [hgj]; simp [Ne.symm h14]
  have hnj : ∀ x, x ∈ gj → bl x = none := by rw [hgj]; simpa using hb1'
  have h54 : g5 ≠ g4 := fun e => by rw [e, e4] at hb5; cases hb5
  have n5 : g5 ∉ gj := fun h => by obtain ⟨b, hb⟩ := oj.has g5 h; rw [hb5] at hb; cases hb
  refine AW_ghostCell (g := g5) (s := 2) (els := [[vj, .nils]]) (e := [vj, .nils]) 0 1 3 (by simp) rfl rfl fun g00 hg00 hne00 => ?_
  simp [hne00] at hg00
  refine AW_for (fun p : Nat × Int => [(1, .sl (iv l)), (4, .loc g4 2 0 0), (5, .loc g5 2 0 0), (14, .sl (mv s.ms)), (15, .int .i64 s.ms.length), (16, .int .i64 p.1)])
    (fun p => upd (upd b1 g5 (some ⟨2, [[vj, .lsl p.2 3 0 (keptTo s.ms l p.1).length]]⟩)) p.2 (some ⟨3, mv (keptTo s.ms l p.1)⟩))
    (fun p => p.1 ≤ s.ms.length ∧ b1 p.2 = none ∧ p.2 ≠ g5 ∧ (p.2 < 0 → keptTo s.ms l p.1 = [])) (fun p => s.ms.length - p.1) _ (0, g00) ⟨Nat.zero_le _, hg00, hne00, fun _ => rfl⟩ (by refine ⟨rfl, by simp, ?_⟩; exact sub_eq (by simp [keptTo, mv])) ?_
  rintro ⟨i, g⟩ ⟨hi, hg, h5, h0⟩
  simp only at hi hg h5 h0
  have hle := keptTo_le s.ms l i
  refine AW_run ?_
  simp
  refine ⟨fun h => ?_, fun h => ?_⟩
  · simp [h, Mb.c]
    intro g7 hg7 h7g h75 hb7
    refine callP_ro (l12Has_ro l i (by omega)) ?_
    simp
    refine ⟨fun hin => ?_, fun hin => ?_⟩
    · simp [h5, Ne.symm h5, h75, Ne.symm h75, h7g, Ne.symm h7g]
      intro g8 hg8 h87 h8g h85 hb8
      simp [h5, Ne.symm h5, h75, Ne.symm h75, h7g, Ne.symm h7g, h87, Ne.symm h87, h8g, Ne.symm h8g, h85, Ne.symm h85, appV, elsV, Int.not_lt.2 hg8]
      refine ⟨by omega, fun g9 hg9 hb9 => ?_⟩
      have hb9' : b1 g9 = none := by grind
      have h95 : g9 ≠ g5 := by grind
      simp [h95, Ne.symm h95, h5, Ne.symm h5, h75, Ne.symm h75, h7g, Ne.symm h7g, h87, Ne.symm h87, h8g, Ne.symm h8g, h85, Ne.symm h85]
      simp (disch := omega) [i64_in, loopQ_normal]
      have hs1 : keptTo s.ms l (i + 1) = keptTo s.ms l i ++ [s.ms[i]] := by rw [keptTo_succ, if_neg hin]; simp [h]
      refine ⟨i + 1, g9, ⟨by omega, hb9', h95, by omega⟩, by omega, rfl, by simp [hs1], ?_⟩
      intro x b hx
      rw [hs1, mv_append] at hx
      simp only [upd_apply, rem_apply, mv_takeall] at hx ⊢
      have e : mv [s.ms[i]] = [[V.int IntKind.i64 s.ms[i].a, V.int IntKind.i64 s.ms[i].b, V.int IntKind.i64 s.ms[i].kind]] := rfl
      rw [e] at hx
      grind
    · simp (disch := omega) [i64_in, loopQ_normal]
      have hs1 : keptTo s.ms l (i + 1) = keptTo s.ms l i := by rw [keptTo_succ, if_pos hin]; simp
      refine ⟨i + 1, g, ⟨by omega, hg, h5, by rw [hs1]; exact h0⟩, by omega, rfl, by simp [hs1], ?_⟩
      rw [hs1]
      simp [hb7, h7g, h75]
  · have hi : i = s.ms.length := by omega
    subst hi
    simp [h5, Ne.symm h5, e4, h54, Ne.symm h54]
    have h4 : g ≠ g4 := fun e => by rw [e, e4] at hg; cases hg
    simp [h4, Ne.symm h4, e4, h54, Ne.symm h54, h5, Ne.symm h5, c1, c2]
    refine retNW [.agg [vj, .lsl g 3 0 (keptTo s.ms l s.ms.length).length]] (gj ++ [g]) ?_ ?_ ?_ ?_
    · simp [h4, Ne.symm h4, e4, h54, Ne.symm h54]
    · show OwnD _ (.a (dStr (without s l))) (.agg [_, _]) (gj ++ [g])
      have ng : g ∉ gj := fun h => by obtain ⟨b, hb⟩ := oj.has g h; rw [hg] at hb; cases hb
      rw [OwnD]
      refine ⟨_, rfl, own_pair.2 ⟨_, _, gj, [g], rfl, rfl, fun x hx hx2 => ng (by simp at hx2; rw [← hx2]; exact hx), ?_, ?_⟩⟩
      · refine oj.frame fun x hx => ?_
        have z4 : x ≠ g4 := fun e => n4 (e ▸ hx)
        have z5 : x ≠ g5 := fun e => n5 (e ▸ hx)
        have zg : x ≠ g := fun e => ng (e ▸ hx)
        simp [upd_apply, z4, z5, zg]
      · exact own_mv.2 (.inr ⟨g, rfl, rfl, by simp [h4, without], h0⟩)
    · intro x hx
      rcases List.mem_append.1 hx with hx | hx
      · exact hnj x hx
      · simp at hx; subst hx; exact fresh_of hS1 hg
    · have q5 := fresh_of hS1 hb5
      have qg := fresh_of hS1 hg
      simp [hb4, q5, qg]
      exact hS1

end Go.Proofs.Ytpkphjoobeacfaa.Vm
