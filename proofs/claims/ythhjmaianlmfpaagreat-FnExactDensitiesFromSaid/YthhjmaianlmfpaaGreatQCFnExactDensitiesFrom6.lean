/- Limbs in the reference: trimming, order, sums, differences. -/

import Derived.Test.YthhjmaianlmfpaaGreatQCFnExactDensitiesFrom5

namespace Go.Proofs.YthhjmaianlmfpaaGreat.Vm
open Go Go.Proofs
set_option linter.unusedSimpArgs false
set_option linter.unusedVariables false

theorem l02Cmp_ro (a b : Nat) (ha : (lim a).length ≤ 1048576) (hb : (lim b).length ≤ 1048576) : RO Tryz.prog 191 [.sl (iv (lim a)), .sl (iv (lim b))] (.int .i64 (cmpN a b)) := by
  refine ro_of2 Tryz.func191 rfl rfl (by rw [Tryz.ntmps191]; simp) fun bl => ?_
  rw [Tryz.ntmps191, Tryz.results191]
  refine AW_run ?_
  simp
  refine ⟨fun h => ⟨fun h1 => ?_, fun h1 => ?_⟩, fun h => ?_⟩
  · exact retRO0 (by simp [cmp_len_lt h1]) rfl rfl
  · exact retRO0 (by simp [cmp_len_gt (show (lim b).length < (lim a).length by omega)]) rfl rfl
  have h : (lim a).length = (lim b).length := by omega
  have w0 : IntKind.i64.wrap (((lim a).length : Int) - 1) = ((lim a).length : Int) - 1 := i64_in (by omega) (by omega)
  simp [w0]
  refine AW_for (fun k : Nat => [(0, .sl (iv (lim a))), (1, .sl (iv (lim b))), (5, .int .i64 ((k : Int) - 1))]) (fun _ => bl) (fun k => k ≤ (lim a).length ∧ ∀ j, k ≤ j → dg a j = dg b j) (fun k => k) _ (lim a).length ⟨Nat.le_refl _, fun j hj => by rw [dg_out hj, dg_out (by omega)]⟩ ⟨rfl, by simp, Sub.refl _⟩ ?_
  intro k ⟨hk, hc⟩
  refine AW_run ?_
  simp
  refine ⟨fun h1 => ?_, fun h1 => ?_⟩
  · obtain ⟨m, rfl⟩ : ∃ m, k = m + 1 := ⟨k - 1, by omega⟩
    have hm : m < (lim a).length := by omega
    have hm2 : m < (lim b).length := by omega
    have e1 : ((m + 1 : Nat) : Int) - 1 = m := by omega
    refine AW_quiet mixedO (by kernel_rfl) ?_
    simp [e1, lv_get _ _ hm, lv_get _ _ hm2]
    refine ⟨fun h2 => ?_, fun h2 => ?_⟩
    · exact retRO0 (by simp [cmp_lt h hm (fun j hj => hc j (by omega)) h2]) rfl rfl
    refine AW_quiet mixedO (by kernel_rfl) ?_
    simp [e1, lv_get _ _ hm, lv_get _ _ hm2]
    refine ⟨fun h3 => ?_, fun h3 => ?_⟩
    · exact retRO0 (by simp [cmp_gt h hm (fun j hj => hc j (by omega)) h3]) rfl rfl
    have w1 : IntKind.i64.wrap ((m : Int) - 1) = (m : Int) - 1 := i64_in (by omega) (by omega)
    simp [w1, loopQ_normal]
    refine ⟨m, ⟨by omega, fun j hj => ?_⟩, by omega, rfl, by simp, Sub.refl _⟩
    rcases Nat.lt_or_ge m j with hlt | hge
    · exact hc j (by omega)
    · obtain rfl : j = m := by omega
      omega
  · have : k = 0 := by omega
    subst this
    exact retRO0 (by simp [cmp_eq h fun j => hc j (Nat.zero_le _)]) rfl rfl


theorem l02Trim_ro (ns : List Int) (hd : Dig ns) (hn : ns.length ≤ 1048576) : RO Tryz.prog 193 [.sl (iv ns)] (.sl (iv (lim (val ns)))) := by
  refine ro_of2 Tryz.func193 rfl rfl (by rw [Tryz.ntmps193]; simp) fun bl => ?_
  rw [Tryz.ntmps193, Tryz.results193]
  refine AW_run ?_
  simp
  refine AW_for (fun n : Nat => [(0, .sl (iv ns)), (3, .int .i64 n)]) (fun _ => bl) (fun n => n ≤ ns.length ∧ ∀ i (hi : i < ns.length), n ≤ i → ns[i] = 0) (fun n => n) _ ns.length ⟨Nat.le_refl _, fun i hi h => by omega⟩ ⟨rfl, by simp, Sub.refl _⟩ ?_
  intro n ⟨hl, hz⟩
  refine AW_run ?_
  simp
  refine AW_way0 [(0, .sl (iv ns)), (3, .int .i64 n)] _ bl 15 (.bool (decide (0 < n) && decide (ns.getD (n - 1) 1 = 0))) ⟨rfl, by simp, Sub.refl _⟩ rfl ?_ ?_
  · simp
    refine ⟨fun h => ?_, fun h => by simp [h]⟩
    have w1 : IntKind.i64.wrap ((n : Int) - 1) = ((n - 1 : Nat) : Int) := by rw [i64_in (by omega) (by omega)]; omega
    have h2 : n - 1 < ns.length := by omega
    simp [w1, h2, h, eq_dec]
  simp
  refine ⟨fun h1 h2 => ?_, fun h1 => ?_⟩
  · have w1 : IntKind.i64.wrap ((n : Int) - 1) = ((n - 1 : Nat) : Int) := by rw [i64_in (by omega) (by omega)]; omega
    simp [w1, loopQ_normal]
    refine ⟨n - 1, ⟨by omega, fun i hi h3 => ?_⟩, by omega, rfl, by simp, Sub.refl _⟩
    rcases Nat.lt_or_ge i n with h4 | h4
    · obtain rfl : i = n - 1 := by omega
      simpa [hi] using h2
    · exact hz i hi h4
  · have hz2 : ∀ i (hi : i < ns.length), n = i + 1 → ns[i] ≠ 0 := by
      intro i hi e
      subst e
      have := h1 (by omega)
      simpa [hi] using this
    have := trim_lim hd hl hz hz2
    rw [← this]
    simp [sliV, iv_all1, hl]
    exact retRO0 (by simp [iv_take]) rfl rfl

theorem l02Cap_ro (ns : List Int) (hd : Dig ns) (hn : ns.length ≤ 1048576) : RO Tryz.prog 176 [.sl (iv ns)] (.sl (iv (if (lim (val ns)).length ≤ 60 then lim (val ns) else []))) := by
  refine ro_of2 Tryz.func176 rfl rfl (by rw [Tryz.ntmps176]; simp) fun bl => ?_
  rw [Tryz.ntmps176, Tryz.results176]
  refine AW_run ?_
  simp
  refine callP_ro (l02Trim_ro ns hd hn) ?_
  simp
  refine ⟨fun h => ?_, fun h => ?_⟩
  · rw [if_neg (by omega)]
    exact retRO [.nils] 0 (by simp) rfl (Sub.refl _)
  · rw [if_pos (by omega)]
    exact retRO0 (by simp) rfl rfl

theorem l02Add_ro (a b : Nat) (ha : (lim a).length ≤ 1000000) (hb : (lim b).length ≤ 1000000) : RO Tryz.prog 190 [.sl (iv (lim a)), .sl (iv (lim b))] (.sl (iv (lim (a + b)))) := by
  refine ro_of2 Tryz.func190 rfl rfl (by rw [Tryz.ntmps190]; simp) fun bl => ?_
  rw [Tryz.ntmps190, Tryz.results190]
  refine AW_run ?_
  simp
  intro g0 hg0 hb0
  refine AW_for (fun p : Int × PL => [(0, .sl (iv (lim a))), (1, .sl (iv (lim b))), (5, .lsl p.1 1 0 p.2.i), (6, .int .i64 p.2.c), (7, .int .i64 p.2.i)]) (fun p => upd bl p.1 (some ⟨1, iv p.2.o⟩))
    (fun p => 0 ≤ p.1 ∧ bl p.1 = none ∧ PlusI a b p.2.i p.2.o p.2.c ∧ p.2.i ≤ 1000002 ∧ (p.2.i = 0 ∨ LB ^ (p.2.i - 1) ≤ a + b)) (fun p => 1000003 - p.2.i) _ (g0, ⟨0, [], 0⟩) ⟨hg0, hb0, PlusI.start a b, by simp, .inl rfl⟩ ⟨rfl, by simp, sub_eq (by simp [iv])⟩ ?_
  rintro ⟨g, i, o, c⟩ ⟨hg, hbg, hI, hi, hm⟩
  simp only at hg hbg hI hi hm
  have hb1 := hI.x
  have hd1 := dg_lt a i
  have hd2 := dg_lt b i
  have hc0 := hI.c0
  have hc1 := hI.c1
  have hol := hI.len
  refine AW_run ?_
  simp
  refine AW_way0 [(0, .sl (iv (lim a))), (1, .sl (iv (lim b))), (5, .lsl g 1 0 i), (6, .int .i64 c), (7, .int .i64 i)] _ _ 23 (.bool ((decide (i < (lim a).length) || decide (i < (lim b).length)) || decide (0 < c))) ⟨rfl, by simp, Sub.refl _⟩ rfl ?_ ?_
  · simp
    exact ⟨fun h => .inl (.inl h), fun h => ⟨fun h2 => .inl (.inr h2), fun h2 h3 => by omega⟩⟩
  simp
  refine ⟨fun h => ?_, fun h1 h2 h3 => ?_⟩
  · have hmore := hI.more (by omega)
    have hlen : i < (lim (a + b)).length := by
      rcases Nat.lt_or_ge i (lim (a + b)).length with hh | hh
      · exact hh
      · have := lim_length_le.1 hh; omega
    have hlab := len_add (k := 1000000) ha hb
    have w3 : IntKind.i64.wrap ((i : Int) + 1) = i + 1 := i64_in (by omega) (by omega)
    refine ⟨fun h1 => ?_, fun h1 => ?_⟩
    · simp [lv_get _ _ h1]
      have wa0 : IntKind.i64.wrap (c + (dg a i : Nat)) = c + (dg a i : Nat) := i64_in (by omega) (by omega)
      simp [wa0]
      refine ⟨fun h2 => ?_, fun h2 => ?_⟩
      · have wa : IntKind.i64.wrap (c + (dg a i : Nat)) = c + (dg a i : Nat) := i64_in (by omega) (by omega)
        have wb : IntKind.i64.wrap (c + (dg a i : Nat) + (dg b i : Nat)) = c + (dg a i : Nat) + (dg b i : Nat) := i64_in (by omega) (by omega)
        have wq1 := wq (x := c + (dg a i : Nat) + (dg b i : Nat)) (n := 1000000000) (by omega) (by omega) (by omega)
        try simp [wq1, w3, wa, wb, lv_get _ _ h1, lv_get _ _ h2]
        intro g2 hg2 h2g hb2
        try simp [wq1, w3, wa, wb, lv_get _ _ h1, lv_get _ _ h2, h2g, Ne.symm h2g, appV, elsV, Int.not_lt.2 hg2, hol]
        refine ⟨by omega, fun g3 hg3 hb3 => ?_⟩
        have hb3' : bl g3 = none := by grind
        try simp [wq1, w3, wa, wb, lv_get _ _ h1, lv_get _ _ h2]
        rw [loopQ_normal]
        refine ⟨(g3, ⟨i + 1, o ++ [(c + (dg a i : Nat) + (dg b i : Nat)).tmod 1000000000], (c + (dg a i : Nat) + (dg b i : Nat)).tdiv 1000000000⟩), ⟨hg3, hb3', hI.next (by omega), by simp only; omega, .inr (by simpa using hmore)⟩, by simp only; omega, rfl, by simp, ?_⟩
        rw [iv_append]
        exact sub_put (by rw [← hol, iv_takeall]; simp [iv]) (by simp [hbg, hb2, h2g])
      · have wa : IntKind.i64.wrap (c + (dg a i : Nat)) = c + (dg a i : Nat) := i64_in (by omega) (by omega)
        have zb : dg b i = 0 := dg_out (by omega)
        have wq1 := wq (x := c + (dg a i : Nat)) (n := 1000000000) (by omega) (by omega) (by omega)
        try simp [wq1, w3, wa, lv_get _ _ h1]
        intro g2 hg2 h2g hb2
        try simp [wq1, w3, wa, lv_get _ _ h1, h2g, Ne.symm h2g, appV, elsV, Int.not_lt.2 hg2, hol]
        refine ⟨by omega, fun g3 hg3 hb3 => ?_⟩
        have hb3' : bl g3 = none := by grind
        try simp [wq1, w3, wa, lv_get _ _ h1]
        rw [loopQ_normal]
        refine ⟨(g3, ⟨i + 1, o ++ [(c + (dg a i : Nat)).tmod 1000000000], (c + (dg a i : Nat)).tdiv 1000000000⟩), ⟨hg3, hb3', hI.next (by omega), by simp only; omega, .inr (by simpa using hmore)⟩, by simp only; omega, rfl, by simp, ?_⟩
        rw [iv_append]
        exact sub_put (by rw [← hol, iv_takeall]; simp [iv]) (by simp [hbg, hb2, h2g])
    · refine ⟨fun h2 => ?_, fun h2 => ?_⟩
      · have wb : IntKind.i64.wrap (c + (dg b i : Nat)) = c + (dg b i : Nat) := i64_in (by omega) (by omega)
        have za : dg a i = 0 := dg_out (by omega)
        have wq1 := wq (x := c + (dg b i : Nat)) (n := 1000000000) (by omega) (by omega) (by omega)
        try simp [wq1, w3, wb, lv_get _ _ h2]
        intro g2 hg2 h2g hb2
        try simp [wq1, w3, wb, lv_get _ _ h2, h2g, Ne.symm h2g, appV, elsV, Int.not_lt.2 hg2, hol]
        refine ⟨by omega, fun g3 hg3 hb3 => ?_⟩
        have hb3' : bl g3 = none := by grind
        try simp [wq1, w3, wb, lv_get _ _ h2]
        rw [loopQ_normal]
        refine ⟨(g3, ⟨i + 1, o ++ [(c + (dg b i : Nat)).tmod 1000000000], (c + (dg b i : Nat)).tdiv 1000000000⟩), ⟨hg3, hb3', hI.next (by omega), by simp only; omega, .inr (by simpa using hmore)⟩, by simp only; omega, rfl, by simp, ?_⟩
        rw [iv_append]
        exact sub_put (by rw [← hol, iv_takeall]; simp [iv]) (by simp [hbg, hb2, h2g])
      · have za : dg a i = 0 := dg_out (by omega)
        have zb : dg b i = 0 := dg_out (by omega)
        have wq1 := wq (x := c) (n := 1000000000) (by omega) (by omega) (by omega)
        try simp [wq1, w3]
        intro g2 hg2 h2g hb2
        try simp [wq1, w3, h2g, Ne.symm h2g, appV, elsV, Int.not_lt.2 hg2, hol]
        refine ⟨by omega, fun g3 hg3 hb3 => ?_⟩
        have hb3' : bl g3 = none := by grind
        try simp [wq1, w3]
        rw [loopQ_normal]
        refine ⟨(g3, ⟨i + 1, o ++ [(c).tmod 1000000000], (c).tdiv 1000000000⟩), ⟨hg3, hb3', hI.next (by omega), by simp only; omega, .inr (by simpa using hmore)⟩, by simp only; omega, rfl, by simp, ?_⟩
        rw [iv_append]
        exact sub_put (by rw [← hol, iv_takeall]; simp [iv]) (by simp [hbg, hb2, h2g])
  · have hc : c = 0 := by omega
    subst hc
    rw [← hI.spec (by omega) (by omega) hm]
    exact retRO [.lsl g 1 0 i] 1 (by simp) (frz_slice hg hbg (by simp) (by simp [hol]) (iv_cl o)) (by simp [hbg])

end Go.Proofs.YthhjmaianlmfpaaGreat.Vm

namespace Go.Proofs.YthhjmaianlmfpaaGreat.Vm
open Go Go.Proofs
set_option linter.unusedSimpArgs false
set_option linter.unusedVariables false

theorem l02Mul_ro (a b : Nat) (ha : (lim a).length ≤ 400000) (hb : (lim b).length ≤ 400000) : RO Tryz.prog 162 [.sl (iv (lim a)), .sl (iv (lim b))] (.sl (iv (lim (a * b)))) := by
  by_cases h0 : a = 0 ∨ b = 0
  · have hz : a * b = 0 := Nat.mul_eq_zero.2 h0
    rw [hz, lim_zero]
    refine ro_of2 Tryz.func162 rfl rfl (by rw [Tryz.ntmps162]; simp) fun bl => ?_
    rw [Tryz.ntmps162, Tryz.results162]
    refine AW_run ?_
    simp
    refine AW_way0 [(0, .sl (iv (lim a))), (1, .sl (iv (lim b)))] _ bl 19 (.bool true) ⟨rfl, by simp, Sub.refl _⟩ rfl ?_ ?_
    · simp
      rcases h0 with h0 | h0
      · simp [h0, lim_zero]
      · simp [h0, lim_zero]
    simp
    exact retRO [.nils] 0 (by simp) rfl (Sub.refl _)
  have ha0 : a ≠ 0 := by omega
  have hb0 : b ≠ 0 := by omega
  have la : (lim a).length ≠ 0 := fun h => ha0 (lim_nil.1 (List.length_eq_zero_iff.1 h))
  have lb : (lim b).length ≠ 0 := fun h => hb0 (lim_nil.1 (List.length_eq_zero_iff.1 h))
  refine ro_of2 Tryz.func162 rfl rfl (by rw [Tryz.ntmps162]; simp) fun bl => ?_
  rw [Tryz.ntmps162, Tryz.results162]
  refine AW_run ?_
  simp
  refine AW_way0 [(0, .sl (iv (lim a))), (1, .sl (iv (lim b)))] _ bl 19 (.bool false) ⟨rfl, by simp, Sub.refl _⟩ rfl ?_ ?_
  · have na : lim a ≠ [] := fun h => la (by rw [h]; rfl)
    have nb : lim b ≠ [] := fun h => lb (by rw [h]; rfl)
    simp [na, nb]
  have w0 : IntKind.i64.wrap (((lim a).length : Int) + (lim b).length) = (lim a).length + (lim b).length := i64_in (by omega) (by omega)
  simp [w0]
  refine ⟨(lim a).length + (lim b).length, by simp, by simp, by omega, by unfold maxLen; omega, fun g hg0 hg => ?_⟩
  have er : List.replicate ((lim a).length + (lim b).length) [V.int IntKind.i64 0] = iv (List.replicate ((lim a).length + (lim b).length) 0) := by simp [iv]
  simp [er]
  refine AW_for (fun p : TL => [(0, .sl (iv (lim a))), (1, .sl (iv (lim b))), (5, .lsl g 1 0 ((lim a).length + (lim b).length)), (26, .sl (iv (lim a))), (27, .int .i64 (lim a).length), (28, .int .i64 p.i)]) (fun p => upd bl g (some ⟨1, iv p.O⟩))
    (fun p => p.i ≤ (lim a).length ∧ TimesI a b p.i 0 p.O 0) (fun p => (lim a).length - p.i) _ ⟨0, 0, _, 0⟩ ⟨Nat.zero_le _, TimesI.start a b⟩ ⟨rfl, by simp, sub_eq (by simp)⟩ ?_
  rintro ⟨i, j0, O, c0⟩ ⟨hi, hI⟩
  simp only at hi hI
  refine AW_run ?_
  simp
  refine ⟨fun h1 => ?_, fun h1 => ?_⟩
  · simp [lv_get _ _ h1]
    refine AW_for (fun p : TL => [(0, .sl (iv (lim a))), (1, .sl (iv (lim b))), (5, .lsl g 1 0 ((lim a).length + (lim b).length)), (6, .int .i64 i), (7, .int .i64 (dg a i : Nat)), (8, .int .i64 p.c), (26, .sl (iv (lim a))), (27, .int .i64 (lim a).length), (28, .int .i64 i), (33, .sl (iv (lim b))), (34, .int .i64 (lim b).length), (35, .int .i64 p.j)]) (fun p => upd bl g (some ⟨1, iv p.O⟩))
      (fun p => p.j ≤ (lim b).length ∧ TimesI a b i p.j p.O p.c) (fun p => (lim b).length - p.j) _ ⟨i, 0, O, 0⟩ ⟨Nat.zero_le _, hI⟩ ⟨rfl, by simp, sub_eq (by simp)⟩ ?_
    rintro ⟨i', j, O, c⟩ ⟨hj, hJ⟩
    simp only at hj hJ
    have hlen := hJ.len
    refine AW_run ?_
    simp
    refine ⟨fun h2 => ?_, fun h2 => ?_⟩
    · have hk : i + j < O.length := by omega
      obtain ⟨n1, n2, n3, hN⟩ := hJ.next h1 h2 hk
      have w1 : IntKind.i64.wrap ((i : Int) + j) = (i : Int) + j := i64_in (by omega) (by omega)
      have p1 : 0 ≤ (i : Int) + j := by omega
      have p2 : (i : Int) + j < (lim a).length + (lim b).length := by omega
      have p3 : ((i : Int) + j).toNat = i + j := by omega
      have w3 : IntKind.i64.wrap ((j : Int) + 1) = j + 1 := i64_in (by omega) (by omega)
      have hm : 0 ≤ (dg a i : Int) * dg b j ∧ (dg a i : Int) * dg b j < 1000000000000000000 := by
        have hO := hJ.dig.at hk
        have e : 0 ≤ (dg a i : Int) * dg b j := by rw [← Int.natCast_mul]; omega
        exact ⟨e, by omega⟩
      have hO := hJ.dig.at hk
      have w4 : IntKind.i64.wrap ((dg a i : Int) * dg b j) = (dg a i : Int) * dg b j := i64_in (by omega) (by omega)
      have w5 : IntKind.i64.wrap (O[i + j] + (dg a i : Int) * dg b j) = O[i + j] + (dg a i : Int) * dg b j := i64_in (by omega) (by omega)
      have w6 : IntKind.i64.wrap (O[i + j] + (dg a i : Int) * dg b j + c) = O[i + j] + (dg a i : Int) * dg b j + c := i64_in (by omega) (by omega)
      have w7 := wq (x := O[i + j] + (dg a i : Int) * dg b j + c) (n := 1000000000) n3 (by omega) (by omega)
      simp [lv_get _ _ h2, w1, w3, w4, w5, w6, w7, p1, p2, p3, hk]
      rw [loopQ_normal]
      obtain ⟨c', hc'⟩ : ∃ c' : Nat, (O[i + j] + (dg a i : Int) * dg b j + c).tdiv 1000000000 = c' := ⟨((O[i + j] + (dg a i : Int) * dg b j + c).tdiv 1000000000).toNat, by omega⟩
      refine ⟨⟨i, j + 1, O.set (i + j) ((O[i + j] + (dg a i : Int) * dg b j + c).tmod 1000000000), c'⟩, ⟨by simp only; omega, ?_⟩, by simp only; omega, rfl, by simp [hc'], sub_eq ?_⟩
      · rw [hc'] at hN; exact hN
      · rw [iv_set]
    · have e : j = (lim b).length := by omega
      have hk : i + (lim b).length < O.length := by omega
      have hR := hJ.row h1 (by omega) hj hk
      have w1 : IntKind.i64.wrap ((i : Int) + (lim b).length) = (i : Int) + (lim b).length := i64_in (by omega) (by omega)
      have p1 : 0 ≤ (i : Int) + (lim b).length := by omega
      have p2 : (i : Int) + (lim b).length < (lim a).length + (lim b).length := by omega
      have p3 : ((i : Int) + (lim b).length).toNat = i + (lim b).length := by omega
      have w3 : IntKind.i64.wrap ((i : Int) + 1) = i + 1 := i64_in (by omega) (by omega)
      simp [w1, w3, p1, p2, p3, hk]
      rw [loopQ_normal]
      refine ⟨⟨i + 1, 0, O.set (i + (lim b).length) c, 0⟩, ⟨by simp only; omega, hR⟩, by simp only; omega, rfl, by simp, sub_eq ?_⟩
      rw [iv_set]
  · have hv := hI.done (c := 0) (by omega)
    have hlen := hI.len
    have hg' : bl g = none := by simpa using hg
    try simp
    refine callP_gro 1 bl _ (by simp [hg']) (frz_own hg0 hg' (by simp) hlen) (l02Trim_ro _ hI.dig (by omega)) ?_
    rw [hv]
    simp
    exact retRO0 (by simp) rfl rfl

theorem l02Small_ro (a b : Nat) (ha : (lim a).length ≤ 1048576) (hb0 : 0 < b) (hb : b < 1000000000) : RO Tryz.prog 194 [.sl (iv (lim a)), .int .i64 b] (.tup [.sl (iv (lim (a / b))), .int .i64 (a % b : Nat)]) := by
  refine ro_of2 Tryz.func194 rfl rfl (by rw [Tryz.ntmps194]; simp) fun bl => ?_
  rw [Tryz.ntmps194, Tryz.results194]
  refine AW_run ?_
  simp
  refine ⟨by omega, by unfold maxLen; omega, fun g hg0 hg => ?_⟩
  have er : List.replicate ((lim a).length) [V.int IntKind.i64 0] = iv (List.replicate ((lim a).length) 0) := by simp [iv]
  have w0 : IntKind.i64.wrap (((lim a).length : Int) - 1) = ((lim a).length : Int) - 1 := i64_in (by omega) (by omega)
  simp [er, w0]
  refine AW_for (fun p : SL => [(0, .sl (iv (lim a))), (1, .int .i64 b), (6, .lsl g 1 0 (lim a).length), (7, .int .i64 p.r), (8, .int .i64 ((p.i : Int) - 1))]) (fun p => upd bl g (some ⟨1, iv (List.replicate p.i 0 ++ p.Q)⟩))
    (fun p => 0 ≤ p.r ∧ DivI a b p.i p.Q p.r.toNat) (fun p => p.i) _ ⟨(lim a).length, [], 0⟩ ⟨Int.le_refl _, DivI.start a b hb0⟩ ⟨rfl, by simp, sub_eq (by simp)⟩ ?_
  rintro ⟨i, Q, r⟩ ⟨hr0, hI⟩
  simp only at hr0 hI
  have hr := hI.rlt
  have hle := hI.le
  have hql := hI.len
  refine AW_run ?_
  simp [-binV, -intV]
  refine ⟨fun h1 => ?_, fun h1 => ?_⟩
  · obtain ⟨m, rfl⟩ : ∃ m, i = m + 1 := ⟨i - 1, by omega⟩
    have hm : m < (lim a).length := by omega
    have hd := dg_lt a m
    obtain ⟨z, hz⟩ : ∃ z, z = r.toNat * 1000000000 + dg a m := ⟨_, rfl⟩
    have hN := hI.next (q := z / b) (r' := z % b) (by rw [hz]) (by rw [hz])
    have e1 : ((m + 1 : Nat) : Int) - 1 = m := by omega
    have w1 : IntKind.i64.wrap (r * 1000000000) = r * 1000000000 := i64_in (by omega) (by omega)
    have w2 : IntKind.i64.wrap (r * 1000000000 + dg a m) = z := by rw [i64_in (by omega) (by omega)]; omega
    have hz2 : z ≤ 9223372036854775807 := by omega
    simp [-binV, -intV, e1, lv_get _ _ hm, w1, w2]
    clear w1 w2 hz
    have b0 : ¬ b = 0 := by omega
    have hg' : bl g = none := by simpa using hg
    have w3 := wq (x := (z : Int)) (n := b) (by omega) (by omega) (by omega)
    have w4 : (z : Int).tdiv b = (z / b : Nat) := by rw [Int.tdiv_eq_ediv_of_nonneg (by omega)]; simp
    have w5 : (z : Int).tmod b = (z % b : Nat) := by rw [Int.tmod_eq_emod_of_nonneg (by omega)]; simp
    rw [w4] at w3
    have w3' : IntKind.i64.wrap ((z : Int) / b) = (z : Int) / b := by simpa using w3
    have q : (iv (List.replicate (m + 1) 0 ++ Q))[m]? = some [.int .i64 0] := by rw [iv_get _ _ (by simp; omega)]; simp
    have w6 : IntKind.i64.wrap ((m : Int) - 1) = (m : Int) - 1 := i64_in (by omega) (by omega)
    refine ⟨by omega, ?_⟩
    simp [-binV, -intV, w3', w4, w5, hm, b0, q, w6]
    rw [loopQ_normal]
    refine ⟨⟨m, ((z / b : Nat) : Int) :: Q, (z % b : Nat)⟩, ⟨by simp only; omega, by show DivI a b m _ (((z % b : Nat) : Int)).toNat; rw [Int.toNat_natCast]; exact hN⟩, by simp only; omega, rfl, by simp, sub_eq ?_⟩
    rw [← fill_set m _ 0 Q, ← iv_set]
    simp
  · have e : i = 0 := by omega
    subst e
    obtain ⟨h2, h3⟩ := hI.done
    have h4 : r = (a % b : Nat) := by omega
    have hg' : bl g = none := by simpa using hg
    try simp
    refine callP_gro 1 bl _ (by simp [hg']) (frz_own (ns := Q) hg0 hg' (by simp) (by simp [hql])) (l02Trim_ro _ hI.dig (by omega)) ?_
    simp [h2, h4]
    exact retRO [.sl (iv (lim (a / b))), .int .i64 (a % b : Nat)] 1 (by simp) rfl (by simp)

theorem l02Sub_ro (a b : Nat) (hab : b ≤ a) (ha : (lim a).length ≤ 1000000) : RO Tryz.prog 192 [.sl (iv (lim a)), .sl (iv (lim b))] (.sl (iv (lim (a - b)))) := by
  refine ro_of2 Tryz.func192 rfl rfl (by rw [Tryz.ntmps192]; simp) fun bl => ?_
  rw [Tryz.ntmps192, Tryz.results192]
  refine AW_run ?_
  simp
  intro g0 hg0 hb0
  refine AW_for (fun p : Int × ML => [(0, .sl (iv (lim a))), (1, .sl (iv (lim b))), (5, .lsl p.1 1 0 p.2.i), (6, .int .i64 p.2.br), (10, .sl (iv (lim a))), (11, .int .i64 (lim a).length), (12, .int .i64 p.2.i)]) (fun p => upd bl p.1 (some ⟨1, iv p.2.o⟩))
    (fun p => 0 ≤ p.1 ∧ bl p.1 = none ∧ MinusI a b p.2.i p.2.o p.2.br ∧ p.2.i ≤ (lim a).length) (fun p => (lim a).length - p.2.i) _ (g0, ⟨0, [], 0⟩) ⟨hg0, hb0, MinusI.start a b, by simp⟩ ⟨rfl, by simp, sub_eq (by simp [iv])⟩ ?_
  rintro ⟨g, i, o, br⟩ ⟨hg, hbg, hI, hi⟩
  simp only at hg hbg hI hi
  have hb1 := hI.x
  have hd1 := dg_lt a i
  have hd2 := dg_lt b i
  have hc1 := hI.c1
  have hol := hI.len
  refine AW_run ?_
  simp
  refine ⟨fun h1 => ?_, fun h1 => ?_⟩
  · have w1 : IntKind.i64.wrap ((dg a i : Int) - br) = dg a i - br := i64_in (by omega) (by omega)
    have w2 : IntKind.i64.wrap ((dg a i : Int) - br - dg b i) = dg a i - br - dg b i := i64_in (by omega) (by omega)
    have w3 : IntKind.i64.wrap ((i : Int) + 1) = i + 1 := i64_in (by omega) (by omega)
    simp [lv_get _ _ h1, w1]
    refine ⟨fun h2 => ?_, fun h2 => ?_⟩
    · simp [lv_get _ _ h2, w2]
      refine ⟨fun h3 => ?_, fun h3 => ?_⟩
      · have w4 : IntKind.i64.wrap ((dg a i : Int) - br - dg b i + 1000000000) = dg a i - br - dg b i + 1000000000 := i64_in (by omega) (by omega)
        try simp [w4, w3]
        intro g2 hg2 h2g hb2
        simp [w4, w3, h2g, Ne.symm h2g, appV, elsV, Int.not_lt.2 hg2, hol]
        refine ⟨by omega, fun g3 hg3 hb3 => ?_⟩
        have hb3' : bl g3 = none := by grind
        try simp [w4, w3]
        rw [loopQ_normal]
        refine ⟨(g3, ⟨i + 1, o ++ [((dg a i : Int) - br - dg b i + 1000000000 : Int)], 1⟩), ⟨hg3, hb3', hI.next1 (x := (dg a i : Int) - br - dg b i) rfl (by omega), by simp only; omega⟩, by simp only; omega, rfl, by simp, ?_⟩
        rw [iv_append]
        exact sub_put (by rw [← hol, iv_takeall]; simp [iv]) (by simp [hbg, hb2, h2g])
      · try simp [w3]
        intro g2 hg2 h2g hb2
        simp [w3, h2g, Ne.symm h2g, appV, elsV, Int.not_lt.2 hg2, hol]
        refine ⟨by omega, fun g3 hg3 hb3 => ?_⟩
        have hb3' : bl g3 = none := by grind
        try simp [w3]
        rw [loopQ_normal]
        refine ⟨(g3, ⟨i + 1, o ++ [((dg a i : Int) - br - dg b i : Int)], 0⟩), ⟨hg3, hb3', hI.next0 (x := (dg a i : Int) - br - dg b i) rfl (by omega), by simp only; omega⟩, by simp only; omega, rfl, by simp, ?_⟩
        rw [iv_append]
        exact sub_put (by rw [← hol, iv_takeall]; simp [iv]) (by simp [hbg, hb2, h2g])
    · have d0 : dg b i = 0 := dg_out (by omega)
      refine ⟨fun h3 => ?_, fun h3 => ?_⟩
      · have w4 : IntKind.i64.wrap ((dg a i : Int) - br + 1000000000) = dg a i - br + 1000000000 := i64_in (by omega) (by omega)
        try simp [w4, w3]
        intro g2 hg2 h2g hb2
        simp [w4, w3, h2g, Ne.symm h2g, appV, elsV, Int.not_lt.2 hg2, hol]
        refine ⟨by omega, fun g3 hg3 hb3 => ?_⟩
        have hb3' : bl g3 = none := by grind
        try simp [w4, w3]
        rw [loopQ_normal]
        refine ⟨(g3, ⟨i + 1, o ++ [((dg a i : Int) - br + 1000000000 : Int)], 1⟩), ⟨hg3, hb3', hI.next1 (x := (dg a i : Int) - br) (by omega) (by omega), by simp only; omega⟩, by simp only; omega, rfl, by simp, ?_⟩
        rw [iv_append]
        exact sub_put (by rw [← hol, iv_takeall]; simp [iv]) (by simp [hbg, hb2, h2g])
      · try simp [w3]
        intro g2 hg2 h2g hb2
        simp [w3, h2g, Ne.symm h2g, appV, elsV, Int.not_lt.2 hg2, hol]
        refine ⟨by omega, fun g3 hg3 hb3 => ?_⟩
        have hb3' : bl g3 = none := by grind
        try simp [w3]
        rw [loopQ_normal]
        refine ⟨(g3, ⟨i + 1, o ++ [((dg a i : Int) - br : Int)], 0⟩), ⟨hg3, hb3', hI.next0 (x := (dg a i : Int) - br) (by omega) (by omega), by simp only; omega⟩, by simp only; omega, rfl, by simp, ?_⟩
        rw [iv_append]
        exact sub_put (by rw [← hol, iv_takeall]; simp [iv]) (by simp [hbg, hb2, h2g])
  · have e : i = (lim a).length := by omega
    subst e
    have hv := hI.done hab (Nat.le_refl _)
    refine callP_gro 1 bl _ (by simp [hbg]) (frz_own (ns := o) hg hbg (by simp) hol) (l02Trim_ro _ hI.dig (by omega)) ?_
    simp [hv]
    exact retRO0 (by simp) rfl rfl

theorem spec_NatOf_ro (N : Nat) (hN : N ≤ 9223372036854775807) : RO Tryz.prog 159 [.int .i64 N] (.sl (iv (lim N))) := by
  have hL := lim_u64 (show N ≤ 18446744073709551615 by omega)
  refine ro_of2 Tryz.func159 rfl rfl (by rw [Tryz.ntmps159]; simp) fun bl => ?_
  rw [Tryz.ntmps159, Tryz.results159]
  refine AW_run ?_
  simp
  intro g0 hg0 hb0
  refine AW_for (fun p : Int × List Int × Nat => [(0, .int .i64 p.2.2), (3, .lsl p.1 1 0 p.2.1.length)]) (fun p => upd bl p.1 (some ⟨1, iv p.2.1⟩)) (fun p => lim N = p.2.1 ++ lim p.2.2 ∧ p.2.2 ≤ 9223372036854775807 ∧ bl p.1 = none ∧ 0 ≤ p.1) (fun p => p.2.2) _ (g0, [], N) ⟨by simp, hN, hb0, hg0⟩ ⟨rfl, by simp, sub_eq (by simp [iv])⟩ ?_
  rintro ⟨g, o, n⟩ ⟨hl, hn, hg, h0⟩
  simp only at hl hn hg h0
  have hlo : o.length ≤ 3 := by have := congrArg List.length hl; simp at this; omega
  refine AW_run ?_
  simp
  refine ⟨fun h => ?_, fun h => ?_⟩
  · have m0 : (n : Int).tmod 1000000000 = ((n % 1000000000 : Nat) : Int) := by rw [Int.tmod_eq_emod_of_nonneg (by omega)]; omega
    have q0 : (n : Int).tdiv 1000000000 = ((n / 1000000000 : Nat) : Int) := by rw [Int.tdiv_eq_ediv_of_nonneg (by omega)]; omega
    have w2 : IntKind.i64.wrap ((n : Int) / 1000000000) = (n : Int) / 1000000000 := i64_in (by omega) (by omega)
    intro g2 hg2 h2g hb2
    simp [h2g, Ne.symm h2g, appV, elsV, Int.not_lt.2 hg2, m0, q0, w2]
    refine ⟨by omega, fun g3 hg3 hb3 => ?_⟩
    have hb3' : bl g3 = none := by grind
    try simp [m0, q0, w2]
    rw [loopQ_normal]
    refine ⟨(g3, o ++ [((n % 1000000000 : Nat) : Int)], n / 1000000000), ⟨by rw [hl, lim_step h]; simp, by simp only; omega, hb3', hg3⟩, by simp only; omega, rfl, by simp, ?_⟩
    rw [iv_append]
    exact sub_put (by rw [iv_takeall]; simp [iv, m0]) (by simp [hg, hb2, h2g])
  · have e : n = 0 := by omega
    subst e
    rw [lim_zero, List.append_nil] at hl
    rw [hl]
    exact retRO [.lsl g 1 0 o.length] 1 (by simp) (frz_slice h0 hg (by simp) (by simp) (iv_cl o)) (by simp [hg])

theorem l02Plain_ro (a b : Nat) (ha : a ≤ 9223372036854775807) (hb : b ≤ 9223372036854775807) : RO Tryz.prog 164 [.int .i64 a, .int .i64 b] (.sl (iv (lim (Nat.gcd a b)))) := by
  refine ro_of2 Tryz.func164 rfl rfl (by rw [Tryz.ntmps164]; simp) fun bl => ?_
  rw [Tryz.ntmps164, Tryz.results164]
  refine AW_run ?_
  simp
  refine AW_for (fun p : Nat × Nat => [(0, .int .i64 p.1), (1, .int .i64 p.2)]) (fun _ => bl) (fun p => Nat.gcd p.1 p.2 = Nat.gcd a b ∧ p.1 ≤ 9223372036854775807 ∧ p.2 ≤ 9223372036854775807) (fun p => p.2) _ (a, b) ⟨rfl, ha, hb⟩ ⟨rfl, by simp, Sub.refl _⟩ ?_
  rintro ⟨x, y⟩ ⟨hg, hx, hy⟩
  simp only at hg hx hy
  refine AW_run ?_
  simp
  refine ⟨fun h => ?_, fun h => ?_⟩
  · have hy0 : ¬ y = 0 := by omega
    have hlt := Nat.mod_lt x h
    have m0 : (x : Int).tmod y = ((x % y : Nat) : Int) := by rw [Int.tmod_eq_emod_of_nonneg (by omega)]; simp
    simp [hy0, m0, loopQ_normal]
    refine ⟨y, x % y, ⟨?_, hy, by omega⟩, hlt, rfl, by simp, Sub.refl _⟩
    rw [← hg, Nat.gcd_comm x y, Nat.gcd_rec y x, Nat.gcd_comm]
  · have h0 : y = 0 := by omega
    subst h0
    rw [Nat.gcd_zero_right] at hg
    refine callP_ro (spec_NatOf_ro x hx) ?_
    rw [← hg]
    simp
    exact retRO0 (by simp) rfl rfl

end Go.Proofs.YthhjmaianlmfpaaGreat.Vm

namespace Go.Proofs.YthhjmaianlmfpaaGreat.Vm
open Go Go.Proofs
set_option linter.unusedSimpArgs false
set_option linter.unusedVariables false

theorem natOk_lim {n : Nat} (h : (lim n).length ≤ 60) : natOk (lim n) = true := by unfold natOk; simp [h]
theorem lim_max : lim 9223372036854775807 = [854775807, 223372036, 9] := by
  refine lim_of ?_ (by decide +kernel) (.inr (by decide +kernel))
  intro d hd
  simp at hd
  omega
theorem cmpN_gt {a b : Nat} : 0 < cmpN a b ↔ b < a := by unfold cmpN; split <;> (try split) <;> omega
theorem cmpN_le {a b : Nat} : cmpN a b ≤ 0 ↔ a ≤ b := by unfold cmpN; split <;> (try split) <;> omega
theorem val_drop_le (n k : Nat) : val ((lim n).drop k) ≤ n := by
  rcases Nat.lt_or_ge (lim n).length k with h | h
  · rw [List.drop_of_length_le (by omega)]; exact Nat.zero_le _
  · have := val_split (lim n) h
    rw [val_lim] at this
    have hp : 1 ≤ LB ^ k := Nat.pow_pos LB_pos
    have := Nat.mul_le_mul_right (val ((lim n).drop k)) hp
    omega
theorem NatToInt_ro (n : Nat) (hn : n ≤ 9223372036854775807) : RO Tryz.prog 163 [.sl (iv (lim n))] (.tup [.int .i64 n, .bool true]) := by
  have hL := lim_u64 (show n ≤ 18446744073709551615 by omega)
  refine ro_of2 Tryz.func163 rfl rfl (by rw [Tryz.ntmps163]; simp) fun bl => ?_
  rw [Tryz.ntmps163, Tryz.results163]
  refine AW_run ?_
  simp
  refine AW_wayS [(0, .sl (iv (lim n)))] _ bl 14 (.bool false) ⟨rfl, by simp, Sub.refl _⟩ rfl ?_ ?_
  · simp
    refine callP_ro (spec_NatOk_ro _ (by omega)) ?_
    simp [natOk_lim (show (lim n).length ≤ 60 by omega)]
    intro g hg0 hg
    refine callP_borrow 1 (ys := [.sl (iv (lim n)), .sl (iv (lim 9223372036854775807))]) ?_ (l02Cmp_ro n 9223372036854775807 (by omega) (by rw [lim_max]; simp)) rfl ?_
    · have er3 : List.range 3 = [0, 1, 2] := rfl
      simp [frzL, frz, lim_max, iv, V.cl, Int.not_lt.2 hg0, er3]
    simp [hg]
    have := cmpN_le.2 hn
    omega
  have w0 : IntKind.i64.wrap (((lim n).length : Int) - 1) = ((lim n).length : Int) - 1 := i64_in (by omega) (by omega)
  simp [w0]
  refine AW_for (fun p : Nat × Int => [(0, .sl (iv (lim n))), (4, .int .i64 p.2), (5, .int .i64 ((p.1 : Int) - 1))]) (fun _ => bl) (fun p => p.1 ≤ (lim n).length ∧ p.2 = (val ((lim n).drop p.1) : Nat)) (fun p => p.1) _ ((lim n).length, 0) ⟨Nat.le_refl _, by simp [val]⟩ ⟨rfl, by simp, Sub.refl _⟩ ?_
  rintro ⟨k, x⟩ ⟨hk, hx⟩
  simp only at hk hx
  refine AW_run ?_
  simp [-binV, -intV]
  refine ⟨fun h1 => ?_, fun h1 => ?_⟩
  · obtain ⟨m, rfl⟩ : ∃ m, k = m + 1 := ⟨k - 1, by omega⟩
    have hm : m < (lim n).length := by omega
    have e1 : ((m + 1 : Nat) : Int) - 1 = m := by omega
    have hv : val ((lim n).drop m) = dg n m + LB * val ((lim n).drop (m + 1)) := by
      rw [List.drop_eq_getElem_cons hm, val, lim_at hm, Int.toNat_natCast]
    have hle := val_drop_le n m
    have hLB : LB = 1000000000 := rfl
    rw [hLB] at hv
    have w1 : IntKind.i64.wrap (x * 1000000000) = x * 1000000000 := i64_in (by omega) (by omega)
    have w2 : IntKind.i64.wrap (x * 1000000000 + dg n m) = x * 1000000000 + dg n m := i64_in (by omega) (by omega)
    have w3 : IntKind.i64.wrap ((m : Int) - 1) = (m : Int) - 1 := i64_in (by omega) (by omega)
    simp [-binV, -intV, e1, lv_get _ _ hm, w1, w2, w3]
    refine ⟨by omega, ?_⟩
    rw [loopQ_normal]
    refine ⟨(m, x * 1000000000 + dg n m), ⟨by simp only; omega, by simp only; omega⟩, by simp only; omega, rfl, by simp, Sub.refl _⟩
  · have e : k = 0 := by omega
    subst e
    have hx2 : x = n := by rw [hx]; simp
    rw [hx2]
    exact retRO [.int .i64 n, .bool true] 1 (by simp) rfl (Sub.refl _)

structure DL2 where
  lo : Int
  hi : Int
theorem l02Digit_ro (r b n : Nat) (hn : (lim b).length = n + 1) (hbr : b ≤ r) (hrb : r < LB * b) (hl : n ≤ 300000) : RO Tryz.prog 195 [.sl (iv (lim r)), .sl (iv (lim b))] (.int .i64 (r / b : Nat)) := by
  have ht : 0 < dg b n := top_pos hn
  have htl := dg_lt b n
  have hb0 : 0 < b := by
    rcases Nat.eq_zero_or_pos b with h | h
    · rw [h, lim_zero] at hn; simp at hn
    · exact h
  have hlr : n + 1 ≤ (lim r).length := by have := lim_length_mono hbr; omega
  have hbl : b < LB ^ (n + 1) := lim_length_le.1 (by omega)
  have hlr2 : (lim r).length ≤ n + 2 := by
    refine lim_length_le.2 (Nat.lt_of_lt_of_le hrb ?_)
    rw [Nat.pow_succ, Nat.mul_comm]
    exact Nat.mul_le_mul_right _ (Nat.le_of_lt hbl)
  have hLB : LB = 1000000000 := rfl
  have er : r = (dg r (n + 1) * LB + dg r n) * LB ^ n + pv r n := by
    have h1 := pv_succ r n
    have h2 := pv_succ r (n + 1)
    rw [pv_out (by omega)] at h2
    have e1 : dg r (n + 1) * LB * LB ^ n = LB ^ n * LB * dg r (n + 1) := by ac_rfl
    have e2 : dg r n * LB ^ n = LB ^ n * dg r n := Nat.mul_comm _ _
    rw [Nat.pow_succ] at h2
    rw [Nat.add_mul]
    omega
  have eb : b = dg b n * LB ^ n + pv b n := by
    have h1 := pv_succ b n
    rw [pv_out (by omega)] at h1
    have e2 : dg b n * LB ^ n = LB ^ n * dg b n := Nat.mul_comm _ _
    omega
  obtain ⟨x, hx⟩ : ∃ x, x = dg r (n + 1) * LB + dg r n := ⟨_, rfl⟩
  have hlo : x / (dg b n + 1) ≤ r / b := by
    have := digit_lo (x := x) (rl := pv r n) (pv_lt b n) ht
    rw [hx, ← er, ← eb, ← hx] at this; exact this
  have hhi : r / b ≤ x / dg b n := by
    have := digit_hi (x := x) (bl := pv b n) (pv_lt r n) ht
    rw [hx, ← er, ← eb, ← hx] at this; exact this
  have hq : r / b ≤ 999999999 := by
    have : r / b < LB := by rw [Nat.div_lt_iff_lt_mul hb0]; exact hrb
    omega
  have hr1 := dg_lt r (n + 1)
  have hr0 := dg_lt r n
  have hxl : x ≤ 1000000000000000000 := by rw [hx, hLB]; omega
  refine ro_of2 Tryz.func195 rfl rfl (by rw [Tryz.ntmps195]; simp) fun bl => ?_
  rw [Tryz.ntmps195, Tryz.results195]
  obtain ⟨d1, hd1⟩ : ∃ d1 : Int, d1 = dg r (n + 1) := ⟨_, rfl⟩
  have w0 : IntKind.i64.wrap (((lim b).length : Int) - 1) = (n : Int) := by rw [i64_in (by omega) (by omega)]; omega
  have w1 : IntKind.i64.wrap (d1 * 1000000000) = d1 * 1000000000 := i64_in (by omega) (by omega)
  have w2 : IntKind.i64.wrap ((dg r n : Int) + d1 * 1000000000) = x := by rw [i64_in (by omega) (by omega), hx, hLB]; omega
  have w3 : IntKind.i64.wrap ((dg b n : Int) + 1) = (dg b n : Int) + 1 := i64_in (by omega) (by omega)
  have lr := lv_get r n (by omega)
  have lb := lv_get b n (by omega)
  have q1 : (iv (lim r))[(lim b).length]? = if (lim b).length < (lim r).length then some [.int .i64 d1] else none := by
    split
    · rename_i h; rw [lv_get _ _ h, hn, hd1]
    · rename_i h; rw [List.getElem?_eq_none (by simp; omega)]
  have y1 : (x : Int).tdiv ((dg b n : Int) + 1) = (x / (dg b n + 1) : Nat) := by rw [Int.tdiv_eq_ediv_of_nonneg (by omega)]; simp
  have y2 : (x : Int).tdiv (dg b n : Int) = (x / dg b n : Nat) := by rw [Int.tdiv_eq_ediv_of_nonneg (by omega)]; simp
  have y3 := wq (x := (x : Int)) (n := (dg b n : Int) + 1) (by omega) (by omega) (by omega)
  have y4 := wq (x := (x : Int)) (n := (dg b n : Int)) (by omega) (by omega) (by omega)
  rw [y1] at y3
  rw [y2] at y4
  obtain ⟨lo0, hlo0⟩ : ∃ l : Int, l = (x / (dg b n + 1) : Nat) := ⟨_, rfl⟩
  obtain ⟨hi0, hhi0⟩ : ∃ l : Int, l = (x / dg b n : Nat) := ⟨_, rfl⟩
  rw [← hlo0] at y1 y3
  rw [← hhi0] at y2 y4
  have z1 : ¬ (dg b n : Int) + 1 = 0 := by omega
  have z2 : ¬ dg b n = 0 := by omega
  obtain ⟨D, hD⟩ : ∃ D : Int, D = (r / b : Nat) := ⟨_, rfl⟩
  rw [← hD]
  have hD0 : 0 ≤ D := by rw [hD]; exact Int.natCast_nonneg _
  have hDq : D ≤ 999999999 := by rw [hD]; generalize r / b = z at hq ⊢; omega
  have hDlo : lo0 ≤ D := by rw [hlo0, hD]; generalize r / b = z at hlo ⊢; generalize x / (dg b n + 1) = z2 at hlo ⊢; omega
  have hDhi : D ≤ hi0 := by rw [hhi0, hD]; generalize r / b = z at hhi ⊢; generalize x / dg b n = z2 at hhi ⊢; omega
  have hlo00 : 0 ≤ lo0 := by rw [hlo0]; exact Int.natCast_nonneg _
  refine AW_runA ?_
  simp
  refine AW_runA ?_
  simp
  refine AW_runA ?_
  simp [w0, lr]
  refine AW_mid (fun _ : Unit => [(0, .sl (iv (lim r))), (1, .sl (iv (lim b))), (5, .int .i64 (lim b).length), (6, .int .i64 x)]) (fun _ => bl) (fun _ => True) 63 ?_ ?_
  · refine AW_run ?_
    simp [-binV, -intV]
    refine ⟨fun h => ?_, fun h => ?_⟩
    · have q2 : (lim r)[(lim b).length]'h = d1 := by rw [lim_at h, hn, hd1]
      simp [-binV, -intV, q1, h, q2, w1, w2]
      rw [midQ_normal]
      exact ⟨(), trivial, rfl, by simp, Sub.refl _⟩
    · have e0 : dg r (n + 1) = 0 := dg_out (by omega)
      have ex : dg r n = x := by rw [hx, e0]; simp
      rw [midQ_normal]
      exact ⟨(), trivial, rfl, by simp [ex], Sub.refl _⟩
  rintro _ _
  refine AW_run ?_
  simp [w0, lb, w3, y1, y2, y3, y4, z1, z2, minV]
  refine AW_for (fun p : DL2 => [(0, .sl (iv (lim r))), (1, .sl (iv (lim b))), (7, .int .i64 p.lo), (8, .int .i64 p.hi)]) (fun _ => bl) (fun p => 0 ≤ p.lo ∧ p.lo ≤ D ∧ D ≤ p.hi ∧ p.hi ≤ 999999999) (fun p => (p.hi - p.lo).toNat) _ ⟨lo0, if hi0 < 999999999 then hi0 else 999999999⟩ ⟨hlo00, hDlo, by simp only; split <;> omega, by simp only; split <;> omega⟩ ⟨rfl, by simp [minV], Sub.refl _⟩ ?_
  rintro ⟨lo, hi⟩ ⟨a1, a2, a3, a4⟩
  simp only at a1 a2 a3 a4
  refine AW_run ?_
  simp
  refine ⟨fun h => ?_, fun h => ?_⟩
  · have v1 : IntKind.i64.wrap (lo + hi) = lo + hi := i64_in (by omega) (by omega)
    have v2 : IntKind.i64.wrap (lo + hi + 1) = lo + hi + 1 := i64_in (by omega) (by omega)
    have v3 := wq (x := lo + hi + 1) (n := 2) (by omega) (by omega) (by omega)
    have v4 : (lo + hi + 1).tdiv 2 = (((lo + hi + 1) / 2).toNat : Nat) := by rw [Int.tdiv_eq_ediv_of_nonneg (by omega)]; omega
    rw [v4] at v3
    obtain ⟨q, hqq⟩ : ∃ q : Nat, q = ((lo + hi + 1) / 2).toNat := ⟨_, rfl⟩
    rw [← hqq] at v3 v4
    have hq2 : (q : Int) = (lo + hi + 1) / 2 := by omega
    have hqle : q ≤ 999999999 := by omega
    simp [v1, v2, v3, v4]
    refine callP_ro (spec_NatOf_ro q (by omega)) ?_
    simp
    have lq : (lim q).length ≤ 3 := lim_u64 (by omega)
    refine callP_ro (l02Mul_ro b q (by omega) (by omega)) ?_
    simp
    have lbq := len_mul (k := 300002) (l := 3) (show (lim b).length ≤ 300002 by omega) lq
    refine callP_ro (l02Cmp_ro _ _ (by omega) (by omega)) ?_
    simp [cmpN_le]
    have hdh := digit_half (r := r) (q := q) hb0
    refine ⟨fun h2 => ?_, fun h2 => ?_⟩
    · rw [loopQ_normal]
      have h3 := hdh.1 h2
      refine ⟨⟨q, hi⟩, ⟨by simp only; omega, ?_, a3, a4⟩, by simp only; omega, rfl, by simp, Sub.refl _⟩
      simp only
      rw [hD]
      generalize r / b = z at h3 ⊢
      omega
    · have v5 : IntKind.i64.wrap ((q : Int) - 1) = (q : Int) - 1 := i64_in (by omega) (by omega)
      simp [v5]
      rw [loopQ_normal]
      have h3 : ¬ q ≤ r / b := fun hh => by have := hdh.2 hh; omega
      refine ⟨⟨lo, (q : Int) - 1⟩, ⟨a1, a2, ?_, by simp only; omega⟩, by simp only; omega, rfl, by simp, Sub.refl _⟩
      simp only
      rw [hD]
      generalize r / b = z at h3 ⊢
      omega
  · have : lo = D := by omega
    rw [this]
    exact retRO0 (by simp) rfl rfl

theorem len_digit {r d k : Nat} (hr : (lim r).length ≤ k) (hd : d < 1000000000) : (lim (r * 1000000000 + d)).length ≤ k + 1 := by
  refine lim_length_le.2 ?_
  have h5 := lim_length_le.1 hr
  have e : LB ^ (k + 1) = LB ^ k * 1000000000 := Nat.pow_succ ..
  rw [e]
  generalize LB ^ k = P at h5 ⊢
  omega
structure SD where
  g : Int
  i : Nat
  Q : List Int
  r : Nat
theorem l02Div_ro (a b : Nat) (hb0 : 0 < b) (ha : (lim a).length ≤ 200000) (hbl : (lim b).length ≤ 200000) : RO Tryz.prog 165 [.sl (iv (lim a)), .sl (iv (lim b))] (.tup [.sl (iv (lim (a / b))), .sl (iv (lim (a % b)))]) := by
  refine ro_of2 Tryz.func165 rfl rfl (by rw [Tryz.ntmps165]; simp) fun bl => ?_
  rw [Tryz.ntmps165, Tryz.results165]
  refine AW_runA ?_
  simp
  refine AW_runA ?_
  simp
  refine ⟨fun h1 => ?_, fun h1 => ?_⟩
  · have h1' : (lim b).length = 1 := by omega
    obtain ⟨b1, b2, b3⟩ := len1 h1'
    simp [lv_get b 0 (by omega), b1]
    refine callP_ro (l02Small_ro a b (by omega) b3 b2) ?_
    have hr : a % b < b := Nat.mod_lt _ b3
    obtain ⟨r, hr2⟩ : ∃ r, r = a % b := ⟨_, rfl⟩
    rw [← hr2] at hr ⊢
    simp
    refine callP_ro (spec_NatOf_ro r (by omega)) ?_
    simp
    exact retRO [.sl (iv (lim (a / b))), .sl (iv (lim r))] 1 (by simp) rfl (Sub.refl _)
  have hbz : (lim b).length ≠ 0 := fun h0 => by have := lim_nil.1 (List.length_eq_zero_iff.1 h0); omega
  obtain ⟨n, hn⟩ : ∃ n, (lim b).length = n + 1 := ⟨(lim b).length - 1, by omega⟩
  have w0 : IntKind.i64.wrap (((lim a).length : Int) - 1) = ((lim a).length : Int) - 1 := i64_in (by omega) (by omega)
  refine AW_run ?_
  simp
  refine ⟨by omega, by unfold maxLen; omega, fun g8 hg8 hb8 g9 hg9 h98 hb9 => ?_⟩
  have er : List.replicate ((lim a).length) [V.int IntKind.i64 0] = iv (List.replicate ((lim a).length) 0) := by simp [iv]
  simp [er, w0]
  have hb8' : bl g8 = none := by simpa using hb8
  refine AW_frzAt 1 9 (.sl (iv (lim 0))) (upd bl g8 (some ⟨1, iv (List.replicate (lim a).length 0)⟩)) (by simp [h98, hb9]) ?_ ?_
  · rw [lim_zero]
    exact frz_slice hg9 (by simp [h98, hb9]) (by simp; rfl) rfl rfl
  refine AW_for (fun p : SL => [(0, .sl (iv (lim a))), (1, .sl (iv (lim b))), (8, .lsl g8 1 0 (lim a).length), (9, .sl (iv (lim p.r.toNat))), (10, .int .i64 ((p.i : Int) - 1))]) (fun p => upd bl g8 (some ⟨1, iv (List.replicate p.i 0 ++ p.Q)⟩))
    (fun p => DivI a b p.i p.Q p.r.toNat) (fun p => p.i) _ ⟨(lim a).length, [], 0⟩ (DivI.start a b hb0) ⟨rfl, by simp, sub_eq (by simp)⟩ ?_
  rintro ⟨i, Q, r⟩ hI
  simp only at hI
  have hr := hI.rlt
  have hle := hI.le
  have hql := hI.len
  generalize r.toNat = r at *
  refine AW_run ?_
  simp
  refine ⟨fun h1 => ?_, fun h1 => ?_⟩
  · obtain ⟨m, rfl⟩ : ∃ m, i = m + 1 := ⟨i - 1, by omega⟩
    have hm : m < (lim a).length := by omega
    have hd := dg_lt a m
    obtain ⟨z, hz⟩ : ∃ z, z = r * 1000000000 + dg a m := ⟨_, rfl⟩
    have hN := hI.next (q := z / b) (r' := z % b) (by rw [hz]) (by rw [hz])
    have e1 : ((m + 1 : Nat) : Int) - 1 = m := by omega
    have er1 : List.range 1 = [0] := rfl
    have hrl : (lim r).length ≤ 200000 := len_mono (Nat.le_of_lt hr) hbl
    simp [e1, lv_get _ _ hm]
    refine ⟨by omega, ?_⟩
    intro g2 hg2 h28 hb2
    have hall : ((iv (lim r)).all fun c => c.length == 1 && c.all V.one) = true := by simp [iv]
    simp [h28, Ne.symm h28, appV, elsV, Int.not_lt.2 hg2, hall, er1]
    refine ⟨by omega, fun g3 hg3 hb3 => ?_⟩
    have hb3' : g3 ≠ g8 ∧ bl g3 = none := by grind
    have hv : val ((dg a m : Int) :: lim r) = z := by
      have hLB : LB = 1000000000 := rfl
      rw [val, val_lim, hLB, hz]; simp; omega
    have hD : Dig ((dg a m : Int) :: lim r) := fun d hd2 => by
      rcases List.mem_cons.1 hd2 with rfl | hd2
      · omega
      · exact lim_dig r d hd2
    refine callP_gro 1 (upd bl g8 (some ⟨1, iv (List.replicate (m + 1) 0 ++ Q)⟩)) _ ?_ (frz_own (ns := (dg a m : Int) :: lim r) hg3 (by simp [hb3'.1, hb3'.2]) (by simp [iv]) (by simp)) (l02Trim_ro _ hD (by simp; omega)) ?_
    · intro u y hu
      simp only [upd_apply, rem_apply] at hu ⊢
      grind
    rw [hv]
    have hzr : (lim z).length ≤ 200001 := by rw [hz]; exact len_digit hrl hd
    simp
    refine callP_ro (l02Cmp_ro z b (by omega) (by omega)) ?_
    have w3 : IntKind.i64.wrap ((m : Int) - 1) = (m : Int) - 1 := i64_in (by omega) (by omega)
    simp [cmpN_lt]
    refine ⟨fun h5 => ?_, fun h5 => ?_⟩
    · rw [Nat.div_eq_of_lt h5, Nat.mod_eq_of_lt h5] at hN
      simp [w3]
      rw [loopQ_normal]
      refine ⟨⟨m, 0 :: Q, z⟩, by simpa using hN, by simp only; omega, rfl, by simp, sub_eq ?_⟩
      rw [← fill_none]
    · have hzb : z < LB * b := by
        have hLB : LB = 1000000000 := rfl
        rw [hLB, hz]; omega
      refine callP_ro (l02Digit_ro z b n hn h5 hzb (by omega)) ?_
      have q5 : (iv (List.replicate (m + 1) 0 ++ Q))[m]? = some [.int .i64 0] := by rw [iv_get _ _ (by simp; omega)]; simp
      have hqq : z / b ≤ 999999999 := by
        have : z / b < LB := by rw [Nat.div_lt_iff_lt_mul hb0]; exact hzb
        have hLB : LB = 1000000000 := rfl
        omega
      obtain ⟨q, hq⟩ : ∃ q, q = z / b := ⟨_, rfl⟩
      have hmod : z - b * q = z % b := by rw [hq]; have := Nat.div_add_mod z b; omega
      have hle2 : b * q ≤ z := by rw [hq]; exact Nat.mul_div_le z b
      rw [← hq] at hqq hN ⊢
      simp [q5, hm]
      refine callP_ro (spec_NatOf_ro q (by omega)) ?_
      simp
      have lq : (lim q).length ≤ 3 := lim_u64 (by omega)
      refine callP_ro (l02Mul_ro b q (by omega) (by omega)) ?_
      simp
      refine callP_ro (l02Sub_ro z (b * q) hle2 (by omega)) ?_
      rw [hmod]
      simp [w3]
      rw [loopQ_normal]
      refine ⟨⟨m, (q : Int) :: Q, (z % b : Nat)⟩, by simp only [Int.toNat_natCast]; exact hN, by simp only; omega, rfl, by simp only [Int.toNat_natCast]; simp, sub_eq ?_⟩
      rw [← fill_set m _ 0 Q, ← iv_set]
  · have e : i = 0 := by omega
    subst e
    obtain ⟨h2, h3⟩ := hI.done
    refine callP_gro 1 bl _ (by simp [hb8']) (frz_own (ns := Q) hg8 hb8' (by simp) (by simp [hql])) (l02Trim_ro _ hI.dig (by omega)) ?_
    rw [h2, h3]
    simp
    exact retRO [.sl (iv (lim (a / b))), .sl (iv (lim (a % b)))] 1 (by simp) rfl (by simp)

theorem frz_any {bl bl0 : Int → Option Blk} {g : Int} {ns : List Int} (h0 : 0 ≤ g ∨ ns = []) (hg : bl0 g = none) (hb : bl g = some ⟨1, iv ns⟩) : frz (dropB bl bl0) 1 (.lsl g 1 0 ns.length) = some (.sl (iv ns)) := by
  rcases Int.lt_or_le g 0 with h | h
  · have : ns = [] := by rcases h0 with h0 | h0; omega; exact h0
    subst this
    unfold frz
    rw [if_pos h]; rfl
  · exact frz_slice h hg hb (by simp) (iv_cl ns)
theorem l02Gcd_ro (a b : Nat) (ha : (lim a).length ≤ 200000) (hb : (lim b).length ≤ 200000) : RO Tryz.prog 118 [.sl (iv (lim a)), .sl (iv (lim b))] (.sl (iv (lim (Nat.gcd a b)))) := by
  have hall : ∀ n : Nat, ((iv (lim n)).all fun c => c.length == 1 && c.all V.one) = true := fun n => by simp [iv]
  have hnil : ∀ n : Nat, iv (lim n) = [] → lim n = [] := fun n h => by simpa [iv] using h
  refine ro_of2 Tryz.func118 rfl rfl (by rw [Tryz.ntmps118]; simp) fun bl => ?_
  rw [Tryz.ntmps118, Tryz.results118]
  refine AW_run ?_
  simp
  intro g0 hg0 hb0
  simp [appV, elsV, hall, Int.not_lt.2 hg0]
  refine ⟨by omega, fun g1 hg1 hb1 g2 hg2 n21 hb2 => ?_⟩
  have hb2' : bl g2 = none := by grind
  have hb1' : bl g1 = none := by grind
  try simp [appV, elsV, hall, Int.not_lt.2 hg2]
  refine ⟨by omega, fun g3 hg3 hb3 => ?_⟩
  have n31 : g3 ≠ g1 := by grind
  have hb3' : bl g3 = none := by grind
  refine AW_frzAt 1 5 (.sl (iv (lim a))) (upd bl g3 (some ⟨1, iv (lim b)⟩)) ?_ ?_ ?_
  · intro u y hu
    simp only [upd_apply, rem_apply] at hu ⊢
    grind
  · exact frz_any (hg1.imp id (hnil a)) (by simp [Ne.symm n31, hb1']) (by simp [n21, Ne.symm n21, n31, Ne.symm n31])
  refine AW_frzAt 1 6 (.sl (iv (lim b))) bl (by simp [hb3']) ?_ ?_
  · exact frz_any (hg3.imp id (hnil b)) hb3' (by simp)
  refine AW_for (fun p : Nat × Nat => [(5, .sl (iv (lim p.1))), (6, .sl (iv (lim p.2)))]) (fun _ => bl) (fun p => Nat.gcd p.1 p.2 = Nat.gcd a b ∧ (lim p.1).length ≤ 200000 ∧ (lim p.2).length ≤ 200000) (fun p => p.2) _ (a, b) ⟨rfl, ha, hb⟩ ⟨rfl, by simp, Sub.refl _⟩ ?_
  rintro ⟨x, y⟩ ⟨hg, hx, hy⟩
  simp only at hg hx hy
  refine AW_run ?_
  simp
  refine ⟨fun h => ?_, fun h => ?_⟩
  · have hy0 : 0 < y := (len_pos_iff y).1 (by simpa using h)
    refine AW_way0 [(5, .sl (iv (lim x))), (6, .sl (iv (lim y)))] _ bl 29 (.bool (decide ((lim x).length < 3) && decide ((lim y).length < 3))) ⟨rfl, by simp, Sub.refl _⟩ rfl ?_ ?_
    · simp
      refine ⟨fun h3 => ?_, fun h3 h4 => by omega⟩
      rw [Bool.eq_iff_iff]; simp; omega
    simp
    refine ⟨fun h1 h2 => ?_, fun h1 => ?_⟩
    · have bx : x ≤ 9223372036854775807 := by
        have := lim_length_le.1 (show (lim x).length ≤ 2 by omega)
        have e : LB ^ 2 = 1000000000000000000 := by decide +kernel
        omega
      have by' : y ≤ 9223372036854775807 := by
        have := lim_length_le.1 (show (lim y).length ≤ 2 by omega)
        have e : LB ^ 2 = 1000000000000000000 := by decide +kernel
        omega
      refine callP_ro (NatToInt_ro x bx) ?_
      simp
      refine callP_ro (NatToInt_ro y by') ?_
      simp
      refine callP_ro (l02Plain_ro x y bx by') ?_
      rw [hg]
      simp
      exact retRO0 (by simp) rfl rfl
    · refine callP_ro (l02Div_ro x y hy0 hx hy) ?_
      simp
      rw [loopQ_normal]
      have hlt := Nat.mod_lt x hy0
      refine ⟨(y, x % y), ⟨?_, hy, ?_⟩, hlt, rfl, by simp, Sub.refl _⟩
      · rw [← hg, Nat.gcd_comm x y, Nat.gcd_rec y x, Nat.gcd_comm]
      · exact Nat.le_trans (lim_length_mono (Nat.le_of_lt hlt)) hy
  · have h0 : y = 0 := lim_nil.1 (by simpa using h)
    subst h0
    rw [Nat.gcd_zero_right] at hg
    rw [← hg]
    exact retRO0 (by simp) rfl rfl

end Go.Proofs.YthhjmaianlmfpaaGreat.Vm

namespace Go.Proofs.YthhjmaianlmfpaaGreat.Vm
open Go Go.Proofs
set_option linter.unusedSimpArgs false
set_option linter.unusedVariables false

theorem frz_pair {bl bl0 : Int → Option Blk} {g : Int} {ns : List Int} {b : Bool} (h0 : 0 ≤ g ∨ ns = []) (hg : bl0 g = none) (hb : bl g = some ⟨1, iv ns⟩) : frz (dropB bl bl0) 2 (.agg [.bool b, .lsl g 1 0 ns.length]) = some (.agg [.bool b, .sl (iv ns)]) := by
  have h1 := frz_any h0 hg hb
  have h2 : frz (dropB bl bl0) 1 (.bool b) = some (.bool b) := by simp [frz]
  rw [frz_agg]
  simp only [List.mapM_cons, List.mapM_nil, h1, h2]
  rfl
theorem l03Make_ro (neg : Bool) (m : Nat) (hm : (lim m).length ≤ 60) : RO Tryz.prog 134 [.bool neg, .sl (iv (lim m))] (.agg (biC (sg neg m))) := by
  have hall : ((iv (lim m)).all fun c => c.length == 1 && c.all V.one) = true := by simp [iv]
  refine ro_of2 Tryz.func134 rfl rfl (by rw [Tryz.ntmps134]; simp) fun bl => ?_
  rw [Tryz.ntmps134, Tryz.results134]
  refine AW_run ?_
  simp
  intro g hg0 hg
  refine callP_ro (l02Cap_ro (lim m) (lim_dig m) (by omega)) ?_
  rw [val_lim, if_pos hm]
  simp
  cases neg
  all_goals
    refine AW_region (Ops_of ?_)
    simp
    intro g1 hg1 h1g hb1
    simp [h1g, Ne.symm h1g, appV, elsV, Int.not_lt.2 hg1, hall]
    refine ⟨by omega, fun g2 hg2 hb2 => ?_⟩
    have h2g : g2 ≠ g := by grind
    have hb2' : bl g2 = none := by grind
    have hnn : 0 ≤ g2 ∨ lim m = [] := hg2.imp id (fun h => by simpa [iv] using h)
    simp [h1g, Ne.symm h1g, h2g, Ne.symm h2g]
  · refine retRO [.agg [.bool false, .lsl g2 1 0 (lim m).length]] 2 (by simp [h1g, Ne.symm h1g, h2g, Ne.symm h2g]) ?_ (by simp [hg, hb1, hb2', h1g, h2g])
    rw [biC_sg]
    exact frz_pair hnn hb2' (by simp [h2g])
  · refine retRO [.agg [.bool (decide (0 < (lim m).length)), .lsl g2 1 0 (lim m).length]] 2 (by simp [h1g, Ne.symm h1g, h2g, Ne.symm h2g]) ?_ (by simp [hg, hb1, hb2', h1g, h2g])
    rw [biC_sg]
    exact frz_pair hnn hb2' (by simp [h2g])

theorem l04One_ro (n : Nat) : RO Tryz.prog 117 [.sl (iv (lim n))] (.bool (decide (n = 1))) := by
  refine ro_of2 Tryz.func117 rfl rfl (by rw [Tryz.ntmps117]; simp) fun bl => ?_
  rw [Tryz.ntmps117, Tryz.results117]
  refine AW_run ?_
  simp
  refine AW_way0 [(0, .sl (iv (lim n)))] _ bl 2 (.bool (decide (n = 1))) ⟨rfl, by simp, Sub.refl _⟩ rfl ?_ ?_
  · simp
    by_cases h : (lim n).length = 1
    · obtain ⟨k1, k2, k3⟩ := len1 h
      simp [h, lv_get n 0 (by omega), k1, eq_dec]
      rw [lim_at (by omega), k1]
      omega
    · have hn : n ≠ 1 := fun e => h (by rw [e, lim1]; rfl)
      have h2 : ¬ ((lim n).length : Int) = 1 := by omega
      simp [h, h2, hn]
  simp
  exact retRO0 (by simp) rfl rfl

theorem spec_RatOk_ro (r : RT) (hm : r.m.length ≤ 140737488351232) (hd : r.d.length ≤ 140737488351232) : RO Tryz.prog 55 [.agg r.c] (.bool (decide r.ok)) := by
  refine ro_of2 Tryz.func55 rfl rfl (by rw [Tryz.ntmps55]; simp) fun bl => ?_
  rw [Tryz.ntmps55, Tryz.results55]
  refine AW_run ?_
  simp [RT.c]
  intro g hg0 hg
  refine AW_way [(1, .loc g 3 0 0)] _ (upd bl g (some ⟨3, [[.bool r.neg, .sl (iv r.m), .sl (iv r.d)]]⟩)) 31 (.bool r.bad) (upd bl g (some ⟨3, [[.bool r.neg, .sl (iv r.m), .sl (iv r.d)]]⟩)) ⟨rfl, by simp, Sub.refl _⟩ rfl ?_ ?_
  · simp
    refine callP_ro (spec_BigIntOk_ro r.neg r.m hm) ?_
    simp [RT.bad]
    refine ⟨fun h => by simp [h], fun h => ?_⟩
    refine callP_ro (spec_NatOk_ro r.d hd) ?_
    simp [h]
    refine ⟨fun a => by simp [a], fun a => ⟨fun b => by simp [b], fun b => ⟨fun c => .inr (by omega), fun c => ?_⟩⟩⟩
    have c2 : ¬ 24 < r.d.length := by omega
    simp [a, b, c2]
    omega
  simp
  refine ⟨fun h => ?_, fun h => ?_⟩
  · refine retRO [.bool false] 0 (by simp) ?_ (by simp [hg])
    have : ¬ r.ok := fun hk => by have := (RT.ok_iff.1 hk).1; rw [h] at this; cases this
    simp [frz, this]
  · obtain ⟨l1, l2, l3, l4⟩ := RT.lims h
    rw [l1, l2]
    refine callP_ro (l02Gcd_ro (val r.m) (val r.d) (by rw [← l1]; omega) (by rw [← l2]; omega)) ?_
    simp
    refine callP_ro (l04One_ro _) ?_
    simp
    refine retRO [.bool (decide (Nat.gcd (val r.m) (val r.d) = 1))] 0 (by simp) ?_ (by simp [hg])
    simp [frz, RT.ok_iff, h]

/-- The sign of a fraction; 0 for none. -/
def sgq (x : Option Rat) : Int := match x with | some q => q.num.sign | none => 0
theorem RatSign_ro (r : RT) (hm : r.m.length ≤ 140737488351232) (hd : r.d.length ≤ 140737488351232) : RO Tryz.prog 70 [.agg r.c] (.int .i64 (sgq (rd r))) := by
  have key : (decide r.ok = false ∨ r.m = [] → sgq (rd r) = 0) ∧ (r.ok → r.m ≠ [] → sgq (rd r) = if r.neg then -1 else 1) := by
    have none_of : ¬ r.ok → rd r = none := fun h => by unfold rd; rw [if_neg h]
    constructor
    · rintro (h | h)
      · rw [none_of (by simpa using h)]; rfl
      · cases hq : rd r with
        | none => rfl
        | some q =>
          obtain ⟨hr, _⟩ := rd_some hq
          have : q.num = 0 := by
            have : lim q.num.natAbs = [] := by rw [← h, hr]; rfl
            have := lim_nil.1 this; omega
          simp [sgq, this]
    · intro h hm
      obtain ⟨q, hq⟩ : ∃ q, rd r = some q := ⟨_, by unfold rd; rw [if_pos h]⟩
      obtain ⟨hr, _⟩ := rd_some hq
      rw [hq]
      have h1 : q.num ≠ 0 := fun h0 => hm (by rw [hr]; show lim q.num.natAbs = []; rw [h0]; exact lim_zero)
      have h2 : r.neg = decide (q.num < 0) := by rw [hr]; rfl
      rw [h2]
      by_cases h3 : q.num < 0
      · simp [sgq, h3, Int.sign_eq_neg_one_of_neg h3]
      · simp [sgq, h3, Int.sign_eq_one_of_pos (show 0 < q.num by omega)]
  refine ro_of2 Tryz.func70 rfl rfl (by rw [Tryz.ntmps70]; simp) fun bl => ?_
  rw [Tryz.ntmps70, Tryz.results70]
  refine AW_run ?_
  simp [RT.c]
  intro g hg0 hg
  refine AW_way [(1, .loc g 3 0 0)] _ (upd bl g (some ⟨3, [[.bool r.neg, .sl (iv r.m), .sl (iv r.d)]]⟩)) 3 (.bool (!decide r.ok || decide (r.m = []))) (upd bl g (some ⟨3, [[.bool r.neg, .sl (iv r.m), .sl (iv r.d)]]⟩)) ⟨rfl, by simp, Sub.refl _⟩ rfl ?_ ?_
  · simp
    refine callP_ro (spec_RatOk_ro r hm hd) ?_
    simp [len_dec]
    by_cases h : r.ok <;> simp [h]
  simp
  refine ⟨fun h => ?_, fun h1 h2 => ⟨fun h3 => ?_, fun h3 => ?_⟩⟩
  · exact retRO [.int .i64 0] 0 (by simp) (by rw [key.1 (by simpa using h)]; simp [frz]) (by simp [hg])
  · exact retRO [.int .i64 (-1)] 0 (by simp) (by rw [key.2 h1 h2, h3]; simp [frz]) (by simp [hg])
  · exact retRO [.int .i64 1] 0 (by simp) (by rw [key.2 h1 h2, h3]; simp [frz]) (by simp [hg])

end Go.Proofs.YthhjmaianlmfpaaGreat.Vm

namespace Go.Proofs.YthhjmaianlmfpaaGreat.Vm
open Go Go.Proofs
set_option linter.unusedSimpArgs false
set_option linter.unusedVariables false

theorem bne_dec (a b : Int) : (a != b) = !decide (a = b) := by rw [Bool.eq_iff_iff]; simp
structure SP where
  lo : RT
  hi : RT
  nl : Bool
  nh : Bool
def SP.c (s : SP) : List V := [.bool s.lo.neg, .sl (iv s.lo.m), .sl (iv s.lo.d), .bool s.hi.neg, .sl (iv s.hi.m), .sl (iv s.hi.d), .bool s.nl, .bool s.nh]
/-- No list of a form is longer than that. -/
def RT.le (r : RT) (k : Nat) : Prop := r.m.length ≤ k ∧ r.d.length ≤ k
def SP.le (s : SP) (k : Nat) : Prop := s.lo.le k ∧ s.hi.le k
def spBad (s : SP) : Bool := match rd s.lo, rd s.hi with
  | some a, some b => (s.nl && decide (a.num.sign ≠ 0)) || (s.nh && decide (b.num.sign ≠ 0))
  | _, _ => true
def spFine (s : SP) : Bool := match rd s.lo, rd s.hi with
  | some a, some b => (s.nl || s.nh) || decide (cmpR a b ≤ 0)
  | _, _ => false
def spOk (s : SP) : Bool := !spBad s && spFine s
/-! ### Spans in the reference -/
end Go.Proofs.YthhjmaianlmfpaaGreat.Vm

namespace Go.Proofs.YthhjmaianlmfpaaGreat.Vm
open Go Go.Proofs
set_option linter.unusedSimpArgs false
set_option linter.unusedVariables false

theorem l03Add_ro (x y : Int) (hx : (lim x.natAbs).length ≤ 59) (hy : (lim y.natAbs).length ≤ 59) : RO Tryz.prog 160 [.agg (biC x), .agg (biC y)] (.agg (biC (x + y))) := by
  have hb := len_add hx hy
  refine ro_of2 Tryz.func160 rfl rfl (by rw [Tryz.ntmps160]; simp) fun bl => ?_
  rw [Tryz.ntmps160, Tryz.results160]
  refine AW_runA ?_
  rw [biC_def x, biC_def y]
  simp
  intro g hg0 hg g2 hg2 h2g hb2 g3 hg3 h32 h3g hb3
  refine AW_run ?_
  simp [h2g, Ne.symm h2g, h32, Ne.symm h32, h3g, Ne.symm h3g]
  refine ⟨fun hs => ?_, fun hs => ?_⟩
  · refine AW_mixedB mixedO (upd (upd bl g (some ⟨2, [[.bool (decide (x < 0)), .sl (iv (lim x.natAbs))]]⟩)) g2 (some ⟨2, [[.bool (decide (y < 0)), .sl (iv (lim y.natAbs))]]⟩)) (by simp [h32, h3g, hb3]) [0, 1, 2, 3, 4, 5, 6, 7] 1 (by kernel_rfl) ?_
    simp [h2g, Ne.symm h2g, h32, Ne.symm h32, h3g, Ne.symm h3g]
    refine hcQ_ro (l02Add_ro _ _ (by omega) (by omega)) ?_
    simp [h2g, Ne.symm h2g, h32, Ne.symm h32, h3g, Ne.symm h3g]
    refine hcQ_ro (l03Make_ro _ _ (by omega)) ?_
    simp [h2g, Ne.symm h2g, h32, Ne.symm h32, h3g, Ne.symm h3g]
    refine DAny_one (i := 8) (by kernel_rfl) rfl rfl ?_
    simp [h2g, Ne.symm h2g, h32, Ne.symm h32, h3g, Ne.symm h3g]
    refine ⟨by simp [h32, h3g, hb3], DAny_done (by kernel_rfl) ?_⟩
    rw [sg_add_same hs]
    simp [h2g, Ne.symm h2g, h32, Ne.symm h32, h3g, Ne.symm h3g]
    exact retRO [.agg (biC (x + y))] 1 (by simp [biC, h2g, Ne.symm h2g, h32, Ne.symm h32, h3g, Ne.symm h3g]) retAgg (by simp [hg, hb2, hb3])

  refine callP_ro (l02Cmp_ro _ _ (by omega) (by omega)) ?_
  simp [h2g, Ne.symm h2g, h32, Ne.symm h32, h3g, Ne.symm h3g, cmpN_ge]
  refine ⟨fun hle => ?_, fun hle => ?_⟩
  · refine AW_mixedB mixedO (upd (upd bl g (some ⟨2, [[.bool (decide (x < 0)), .sl (iv (lim x.natAbs))]]⟩)) g2 (some ⟨2, [[.bool (decide (y < 0)), .sl (iv (lim y.natAbs))]]⟩)) (by simp [h32, h3g, hb3]) [0, 1, 2, 3, 4, 5, 6, 7] 1 (by kernel_rfl) ?_
    simp [h2g, Ne.symm h2g, h32, Ne.symm h32, h3g, Ne.symm h3g]
    refine hcQ_ro (l02Sub_ro _ _ hle (by omega)) ?_
    simp [h2g, Ne.symm h2g, h32, Ne.symm h32, h3g, Ne.symm h3g]
    refine hcQ_ro (l03Make_ro _ _ (len_mono (Nat.sub_le _ _) (by omega))) ?_
    simp [h2g, Ne.symm h2g, h32, Ne.symm h32, h3g, Ne.symm h3g]
    refine DAny_one (i := 8) (by kernel_rfl) rfl rfl ?_
    simp [h2g, Ne.symm h2g, h32, Ne.symm h32, h3g, Ne.symm h3g]
    refine ⟨by simp [h32, h3g, hb3], DAny_done (by kernel_rfl) ?_⟩
    rw [sg_add_left hs hle]
    simp [h2g, Ne.symm h2g, h32, Ne.symm h32, h3g, Ne.symm h3g]
    exact retRO [.agg (biC (x + y))] 1 (by simp [biC, h2g, Ne.symm h2g, h32, Ne.symm h32, h3g, Ne.symm h3g]) retAgg (by simp [hg, hb2, hb3])

  · refine AW_mixedB mixedO (upd (upd bl g (some ⟨2, [[.bool (decide (x < 0)), .sl (iv (lim x.natAbs))]]⟩)) g2 (some ⟨2, [[.bool (decide (y < 0)), .sl (iv (lim y.natAbs))]]⟩)) (by simp [h32, h3g, hb3]) [0, 1, 2, 3, 4, 5, 6, 7] 1 (by kernel_rfl) ?_
    simp [h2g, Ne.symm h2g, h32, Ne.symm h32, h3g, Ne.symm h3g]
    refine hcQ_ro (l02Sub_ro _ _ (by omega) (by omega)) ?_
    simp [h2g, Ne.symm h2g, h32, Ne.symm h32, h3g, Ne.symm h3g]
    refine hcQ_ro (l03Make_ro _ _ (len_mono (Nat.sub_le _ _) (by omega))) ?_
    simp [h2g, Ne.symm h2g, h32, Ne.symm h32, h3g, Ne.symm h3g]
    refine DAny_one (i := 8) (by kernel_rfl) rfl rfl ?_
    simp [h2g, Ne.symm h2g, h32, Ne.symm h32, h3g, Ne.symm h3g]
    refine ⟨by simp [h32, h3g, hb3], DAny_done (by kernel_rfl) ?_⟩
    rw [sg_add_left (x := y) (y := x) (fun hh => hs ⟨hh.2, hh.1⟩) (by omega), Int.add_comm y x]
    simp [h2g, Ne.symm h2g, h32, Ne.symm h32, h3g, Ne.symm h3g]
    exact retRO [.agg (biC (x + y))] 1 (by simp [biC, h2g, Ne.symm h2g, h32, Ne.symm h32, h3g, Ne.symm h3g]) retAgg (by simp [hg, hb2, hb3])

/-- What the reference makes of a sign, a numerator and a denominator. -/
def lowQ (neg : Bool) (a b : Nat) : Option Rat := if b = 0 then none else fit (mkRat (sg neg a) b)
theorem lowQ_ok (neg : Bool) (a b : Nat) : okQ (lowQ neg a b) := by
  unfold lowQ; split
  · intro q h; cases h
  · exact okQ_fit _
theorem frz_rat {bl bl0 : Int → Option Blk} {g : Int} {ns ms : List Int} {b : Bool} (h0 : 0 ≤ g ∨ ns = []) (hg : bl0 g = none) (hb : bl g = some ⟨1, iv ns⟩) : frz (dropB bl bl0) 2 (.agg [.bool b, .sl (iv ms), .lsl g 1 0 ns.length]) = some (.agg [.bool b, .sl (iv ms), .sl (iv ns)]) := by
  have h1 := frz_any h0 hg hb
  have h2 : frz (dropB bl bl0) 1 (.bool b) = some (.bool b) := by simp [frz]
  have h3 : frz (dropB bl bl0) 1 (.sl (iv ms)) = some (.sl (iv ms)) := by simp [frz]
  rw [frz_agg]
  simp only [List.mapM_cons, List.mapM_nil, h1, h2, h3]
  rfl
theorem rq_low (neg : Bool) (a b : Nat) (hb : b ≠ 0) : (rq (mkRat (sg neg a) b)).c = biC (sg neg (a / Nat.gcd a b)) ++ [.sl (iv (lim (b / Nat.gcd a b)))] := by
  have hg : 0 < Nat.gcd a b := Nat.gcd_pos_of_pos_right _ (by omega)
  rw [rq_mk _ hb, RT.c, sg_abs, biC_def, sg_abs]
  simp only [List.cons_append, List.nil_append]
  rw [sg_neg, sg_neg]
  have : (0 < a / Nat.gcd a b) ↔ 0 < a := by
    constructor
    · intro h; rcases Nat.eq_zero_or_pos a with h0 | h0
      · rw [h0] at h; simp at h
      · exact h0
    · intro h; exact Nat.div_pos (Nat.gcd_le_left _ h) hg
  rw [decide_eq_decide.2 this]
theorem l04Low_ro (neg : Bool) (a b : Nat) (ha : (lim a).length ≤ 60) (hb : (lim b).length ≤ 60) : RO Tryz.prog 161 [.bool neg, .sl (iv (lim a)), .sl (iv (lim b))] (.agg (ro (lowQ neg a b)).c) := by
  have hall : ∀ m, ((iv (lim m)).all fun c => c.length == 1 && c.all V.one) = true := fun m => by simp [iv]
  refine ro_of2 Tryz.func161 rfl rfl (by rw [Tryz.ntmps161]; simp) fun bl => ?_
  rw [Tryz.ntmps161, Tryz.results161]
  refine AW_runA ?_
  simp
  intro g hg0 hg
  refine AW_runA ?_
  simp
  refine callP_ro (l02Trim_ro (lim a) (lim_dig a) (by omega)) ?_
  rw [val_lim]
  simp
  refine AW_runA ?_
  simp
  refine callP_ro (l02Trim_ro (lim b) (lim_dig b) (by omega)) ?_
  rw [val_lim]
  simp
  refine AW_runA ?_
  simp
  refine ⟨fun h => ?_, fun h => ?_⟩
  · have hb0 : b = 0 := by simpa [lim_nil] using h
    exact retRO [.agg [.bool false, .nils, .nils]] 1 (by simp) (by simp [frz, lowQ, hb0, ro, rz, RT.c, V.cl, iv]) (by simp [hg])
  have hb0 : b ≠ 0 := fun e => h (by rw [e, lim_zero])
  have hg1 := Nat.gcd_pos_of_pos_right a (show 0 < b by omega)
  refine AW_mid (fun _ : Unit => [(0, .bool neg), (6, .loc g 3 0 0), (7, .sl (iv (lim (a / Nat.gcd a b)))), (8, .sl (iv (lim (b / Nat.gcd a b))))]) (fun _ => upd bl g (some ⟨3, [[.bool false, .nils, .nils]]⟩)) (fun _ => True) 55 ?_ ?_
  · refine AW_run ?_
    simp
    refine callP_ro (l04One_ro _) ?_
    simp
    refine ⟨fun h1 => ?_, fun h1 => ?_⟩
    · refine callP_ro (l02Gcd_ro _ _ (by omega) (by omega)) ?_
      simp
      refine callP_ro (l04One_ro _) ?_
      simp
      refine ⟨fun h2 => ?_, fun h2 => ?_⟩
      · have hgl := gcd_len ha hb
        refine callP_ro (l02Div_ro a (Nat.gcd a b) hg1 (by omega) (by omega)) ?_
        simp
        refine callP_ro (l02Div_ro b (Nat.gcd a b) hg1 (by omega) (by omega)) ?_
        simp [midQ_normal]
        exact ⟨rfl, by simp, Sub.refl _⟩
      · simp [midQ_normal]
        exact ⟨rfl, by simp [h2], Sub.refl _⟩
    · have h2 : Nat.gcd a b = 1 := by rw [h1]; exact Nat.gcd_one_right a
      simp [midQ_normal]
      exact ⟨rfl, by simp [h2], Sub.refl _⟩
  intro _ _
  have e2 := rq_low neg a b hb0
  have hx : (lim (a / Nat.gcd a b)).length ≤ 60 := len_mono (Nat.div_le_self _ _) ha
  have hy : (lim (b / Nat.gcd a b)).length ≤ 60 := len_mono (Nat.div_le_self _ _) hb
  have hr : ro (lowQ neg a b) = if (lim (a / Nat.gcd a b)).length ≤ 24 ∧ (lim (b / Nat.gcd a b)).length ≤ 24 then rq (mkRat (sg neg a) b) else rz := by
    have e3 := rq_mk (sg neg a) hb0
    have e4 : fits (mkRat (sg neg a) b) ↔ (lim (a / Nat.gcd a b)).length ≤ 24 ∧ (lim (b / Nat.gcd a b)).length ≤ 24 := by
      have e5 := congrArg RT.m e3
      have e6 := congrArg RT.d e3
      simp only [rq, sg_abs] at e5 e6
      unfold fits
      rw [e5, e6]
    unfold lowQ fit
    rw [if_neg hb0]
    by_cases hf : fits (mkRat (sg neg a) b)
    · rw [if_pos hf, if_pos (e4.1 hf)]; rfl
    · rw [if_neg hf, if_neg (fun h => hf (e4.2 h))]; rfl
  obtain ⟨x, ex⟩ : ∃ x, a / Nat.gcd a b = x := ⟨_, rfl⟩
  obtain ⟨y, ey⟩ : ∃ y, b / Nat.gcd a b = y := ⟨_, rfl⟩
  rw [ex, ey] at hr e2
  rw [ex] at hx
  rw [ey] at hy
  rw [ex, ey, hr]
  refine AW_run ?_
  simp
  refine AW_way [(0, .bool neg), (6, .loc g 3 0 0), (7, .sl (iv (lim x))), (8, .sl (iv (lim y)))] _ _ 46 (.bool (!decide ((lim x).length ≤ 24 ∧ (lim y).length ≤ 24))) (upd bl g (some ⟨3, [[.bool false, .nils, .nils]]⟩)) ⟨rfl, by simp, Sub.refl _⟩ rfl ?_ ?_
  · simp
    refine ⟨fun h => ?_, fun h => ?_⟩
    · omega
    · rw [Bool.eq_iff_iff]
      simp
      omega
  by_cases hc : (lim x).length ≤ 24 ∧ (lim y).length ≤ 24
  · simp only [hc, and_self, decide_true, Bool.not_true, if_true]
    simp
    refine callP_ro (l03Make_ro neg x (by omega)) ?_
    simp
    intro g1 hg1 h1g hb1
    simp [h1g, Ne.symm h1g, appV, elsV, Int.not_lt.2 hg1, hall]
    refine ⟨by omega, fun g2 hg2 hb2 => ?_⟩
    have h2g : g2 ≠ g := by grind
    have hb2' : bl g2 = none := by grind
    have hnn : 0 ≤ g2 ∨ lim y = [] := hg2.imp id (fun h => by simpa [iv] using h)
    simp [h1g, Ne.symm h1g, h2g, Ne.symm h2g, biC_def, sg_abs]
    refine retRO [.agg [.bool (decide (sg neg x < 0)), .sl (iv (lim x)), .lsl g2 1 0 (lim y).length]] 2 (by simp [h1g, Ne.symm h1g, h2g, Ne.symm h2g]) ?_ (by simp [hg, hb1, hb2', h1g, h2g])
    rw [e2, biC_def, sg_abs]
    exact frz_rat hnn hb2' (by simp [h2g])
  · simp only [hc, decide_false, Bool.not_false, if_false]
    simp
    exact retRO [.agg [.bool false, .nils, .nils]] 1 (by simp) (by simp [frz, rz, RT.c, V.cl, iv]) (by simp [hg])

/-! ### Numerators and denominators of what may be none -/
def nm (x : Option Rat) : Int := match x with | some q => q.num | none => 0
def dn (x : Option Rat) : Nat := match x with | some q => q.den | none => 0
theorem ro_c (x : Option Rat) : (ro x).c = [.bool (decide (nm x < 0)), .sl (iv (lim (nm x).natAbs)), .sl (iv (lim (dn x)))] := by
  cases x
  · show rz.c = _
    rw [show nm none = 0 from rfl, show dn none = 0 from rfl, Int.natAbs_zero, lim_zero]; rfl
  · rfl
theorem okQ_len {x : Option Rat} (h : okQ x) : (lim (nm x).natAbs).length ≤ 24 ∧ (lim (dn x)).length ≤ 24 := by
  cases x with
  | none => rw [show nm none = 0 from rfl, show dn none = 0 from rfl, Int.natAbs_zero, lim_zero]; simp
  | some q => exact h q rfl
theorem okQ_neg {x : Option Rat} (h : okQ x) : okQ (x.map (- ·)) := by
  intro q hq
  cases x with
  | none => cases hq
  | some a =>
    cases hq
    have := h a rfl
    unfold fits at this ⊢
    rw [show (-a).num = -a.num from rfl, show (-a).den = a.den from rfl, Int.natAbs_neg]; exact this
theorem nm_neg (x : Option Rat) : nm (x.map (- ·)) = - nm x := by cases x with | none => rfl | some q => rfl
theorem dn_neg (x : Option Rat) : dn (x.map (- ·)) = dn x := by cases x with | none => rfl | some q => rfl

theorem l04Neg_ro (x : Option Rat) (hx : okQ x) : RO Tryz.prog 78 [.agg (ro x).c] (.agg (ro (x.map (- ·))).c) := by
  obtain ⟨hm, hd⟩ := okQ_len hx
  have hall : ∀ m, ((iv (lim m)).all fun c => c.length == 1 && c.all V.one) = true := fun m => by simp [iv]
  refine ro_of2 Tryz.func78 rfl rfl (by rw [Tryz.ntmps78]; simp) fun bl => ?_
  rw [Tryz.ntmps78, Tryz.results78]
  refine AW_runA ?_
  rw [ro_c x]
  simp
  intro g hg0 hg g2 hg2 h2g hb2
  refine AW_run ?_
  simp
  refine AW_mixedB mixedO (upd bl g (some ⟨3, [[.bool (decide (nm x < 0)), .sl (iv (lim (nm x).natAbs)), .sl (iv (lim (dn x)))]]⟩)) (by simp [h2g, hb2]) [0, 1, 2, 3, 4, 5, 6, 7, 9, 10] 4 (by kernel_rfl) ?_
  simp [h2g, Ne.symm h2g]
  refine hcQ_ro (l03Make_ro _ _ (by omega)) ?_
  rw [sg_opp]
  simp [h2g, Ne.symm h2g]
  refine DAny_one (i := 8) (by kernel_rfl) rfl rfl ?_
  simp [h2g, Ne.symm h2g]
  intro g3 hg3 h32 h3g hb3
  refine ⟨by simp [h2g, Ne.symm h2g, hb2, h3g, h32, hb3], DAny_one (i := 11) (by kernel_rfl) rfl rfl ?_⟩
  simp [h2g, Ne.symm h2g, h3g, Ne.symm h3g, h32, Ne.symm h32, appV, elsV, Int.not_lt.2 hg3, hall]
  refine ⟨by omega, fun g4 hg4 hb4 => ?_⟩
  have h4g : g4 ≠ g := by grind
  have h42 : g4 ≠ g2 := by grind
  have hb4' : bl g4 = none := by grind
  have hnn : 0 ≤ g4 ∨ lim (dn x) = [] := hg4.imp id (fun h => by simpa [iv] using h)
  refine ⟨by simp [h2g, Ne.symm h2g, hb2, h3g, h32, hb3, h4g, h42, hb4'], DAny_one (i := 12) (by kernel_rfl) rfl rfl ?_⟩
  simp [h2g, Ne.symm h2g, h3g, Ne.symm h3g, h32, Ne.symm h32, h4g, Ne.symm h4g, h42, Ne.symm h42, biC_def]
  refine ⟨by simp [h2g, Ne.symm h2g, hb2, h3g, h32, hb3, h4g, h42, hb4'], DAny_one (i := 13) (by kernel_rfl) rfl rfl ?_⟩
  simp [h2g, Ne.symm h2g, h3g, Ne.symm h3g, h32, Ne.symm h32, h4g, Ne.symm h4g, h42, Ne.symm h42]
  refine ⟨by simp [h2g, Ne.symm h2g, hb2, h3g, h32, hb3, h4g, h42, hb4'], DAny_done (by kernel_rfl) ?_⟩
  simp
  refine retRO [.agg [.bool (decide (-nm x < 0)), .sl (iv (lim (nm x).natAbs)), .lsl g4 1 0 (lim (dn x)).length]] 2 (by simp [h2g, Ne.symm h2g, h4g, Ne.symm h4g, h42, Ne.symm h42]) ?_ (by simp [hg, hb2, hb3, hb4', h2g, h4g, h42])
  rw [ro_c, nm_neg, dn_neg, Int.natAbs_neg]
  exact frz_rat hnn hb4' (by simp [h4g, h42])

theorem l04Mul_ro (x y : Option Rat) (hx : okQ x) (hy : okQ y) : RO Tryz.prog 114 [.agg (ro x).c, .agg (ro y).c] (.agg (ro (op2 (· * ·) x y)).c) := by
  obtain ⟨hm, hd⟩ := okQ_len hx
  obtain ⟨hm2, hd2⟩ := okQ_len hy
  have n1 := len_mul hm hm2
  have n2 := len_mul hd hd2
  have e : lowQ (decide (nm x < 0) != decide (nm y < 0)) ((nm x).natAbs * (nm y).natAbs) (dn x * dn y) = op2 (· * ·) x y := by
    unfold lowQ op2
    rw [sg_mul]
    cases x with
    | none => simp [dn]
    | some a =>
      cases y with
      | none => simp [dn]
      | some b =>
        rw [if_neg (show ¬ dn (some a) * dn (some b) = 0 from Nat.mul_ne_zero a.den_nz b.den_nz)]
        simp only [nm, dn]
        rw [← Rat.mul_def']
  refine ro_of2 Tryz.func114 rfl rfl (by rw [Tryz.ntmps114]; simp) fun bl => ?_
  rw [Tryz.ntmps114, Tryz.results114]
  refine AW_runA ?_
  rw [ro_c x, ro_c y]
  simp
  intro g hg0 hg g2 hg2 h2g hb2 g3 hg3 h32 h3g hb3
  refine AW_run ?_
  simp
  refine AW_mixedB mixedO (upd (upd bl g (some ⟨3, [[.bool (decide (nm x < 0)), .sl (iv (lim (nm x).natAbs)), .sl (iv (lim (dn x)))]]⟩)) g2 (some ⟨3, [[.bool (decide (nm y < 0)), .sl (iv (lim (nm y).natAbs)), .sl (iv (lim (dn y)))]]⟩)) (by simp [h32, h3g, hb3]) [0, 1, 2, 3, 4, 5, 6, 7, 8, 9, 10, 11, 12, 13, 14, 15, 16, 17, 18, 19] 1 (by kernel_rfl) ?_
  simp [h2g, Ne.symm h2g, h32, Ne.symm h32, h3g, Ne.symm h3g]
  refine hcQ_ro (l02Mul_ro _ _ (by omega) (by omega)) ?_
  simp [h2g, Ne.symm h2g, h32, Ne.symm h32, h3g, Ne.symm h3g]
  refine hcQ_ro (l02Mul_ro _ _ (by omega) (by omega)) ?_
  simp [h2g, Ne.symm h2g, h32, Ne.symm h32, h3g, Ne.symm h3g]
  refine hcQ_ro (l04Low_ro _ _ _ (by omega) (by omega)) ?_
  rw [e]
  simp [h2g, Ne.symm h2g, h32, Ne.symm h32, h3g, Ne.symm h3g]
  refine DAny_one (i := 20) (by kernel_rfl) rfl rfl ?_
  rw [ro_c (op2 _ x y)]
  simp [h2g, Ne.symm h2g, h32, Ne.symm h32, h3g, Ne.symm h3g]
  refine ⟨by simp [h32, h3g, hb3], DAny_done (by kernel_rfl) ?_⟩
  simp [h2g, Ne.symm h2g, h32, Ne.symm h32, h3g, Ne.symm h3g]
  exact retRO [.agg (ro (op2 (· * ·) x y)).c] 1 (by rw [ro_c (op2 _ x y)]; simp [h2g, Ne.symm h2g, h32, Ne.symm h32, h3g, Ne.symm h3g]) (by rw [ro_c (op2 _ x y)]; simp [frz, V.cl]) (by simp [hg, hb2, hb3])

theorem l04Add_ro (x y : Option Rat) (hx : okQ x) (hy : okQ y) : RO Tryz.prog 113 [.agg (ro x).c, .agg (ro y).c] (.agg (ro (op2 (· + ·) x y)).c) := by
  obtain ⟨hm, hd⟩ := okQ_len hx
  obtain ⟨hm2, hd2⟩ := okQ_len hy
  have n1 := len_mul hm hd2
  have n2 := len_mul hm2 hd
  have n3 := len_mul hd hd2
  have e0 : ∀ (a : Int) (b : Nat), sg (decide (a < 0)) (a.natAbs * b) = a * b := fun a b => by
    have := sg_mul a b
    have h0 : decide (((b : Nat) : Int) < 0) = false := decide_eq_false (by omega)
    rw [h0, Bool.bne_false, Int.natAbs_natCast] at this
    exact this
  have e : ∀ n : Int, n = nm x * dn y + nm y * dn x → lowQ (decide (n < 0)) n.natAbs (dn x * dn y) = op2 (· + ·) x y := fun n hn => by
    unfold lowQ op2
    rw [sg_self, hn]
    cases x with
    | none => simp [dn]
    | some a =>
      cases y with
      | none => simp [dn]
      | some b =>
        rw [if_neg (show ¬ dn (some a) * dn (some b) = 0 from Nat.mul_ne_zero a.den_nz b.den_nz)]
        simp only [nm, dn]
        rw [← Rat.add_def']
  have o1 := l04One_ro (dn x)
  have o2 := l04One_ro (dn y)
  refine ro_of2 Tryz.func113 rfl rfl (by rw [Tryz.ntmps113]; simp) fun bl => ?_
  rw [Tryz.ntmps113, Tryz.results113]
  refine AW_runA ?_
  rw [ro_c x, ro_c y]
  simp
  intro g hg0 hg g2 hg2 h2g hb2 g3 hg3 h32 h3g hb3
  refine AW_run ?_
  simp
  refine AW_way [(2, .loc g 3 0 0), (3, .loc g2 3 0 0), (4, .loc g3 3 0 0)] _ _ 16 (.bool (decide (dn x = 1) && decide (dn y = 1))) (upd (upd (upd bl g (some ⟨3, [[.bool (decide (nm x < 0)), .sl (iv (lim (nm x).natAbs)), .sl (iv (lim (dn x)))]]⟩)) g2 (some ⟨3, [[.bool (decide (nm y < 0)), .sl (iv (lim (nm y).natAbs)), .sl (iv (lim (dn y)))]]⟩)) g3 (some ⟨3, [[.bool false, .nils, .nils]]⟩)) ⟨rfl, by simp, Sub.refl _⟩ rfl ?_ ?_
  · simp [h2g, Ne.symm h2g, h32, Ne.symm h32, h3g, Ne.symm h3g]
    refine callP_ro o1 ?_
    simp [h2g, Ne.symm h2g, h32, Ne.symm h32, h3g, Ne.symm h3g]
    refine ⟨fun h => ?_, fun h => ?_⟩
    · refine callP_ro o2 ?_
      simp [h]
    · simp [h]
  have w : ro (op2 (· + ·) x y) = ro (op2 (· + ·) x y) := rfl
  by_cases hone : dn x = 1 ∧ dn y = 1
  · have e1 := e (nm x + nm y) (by rw [hone.1, hone.2]; simp)
    rw [hone.1, hone.2] at e1
    have l1 : (lim (nm x + nm y).natAbs).length ≤ 25 := len_mono (Int.natAbs_add_le _ _) (len_add hm hm2)
    simp [hone.1, hone.2, h2g, Ne.symm h2g, h32, Ne.symm h32, h3g, Ne.symm h3g]
    refine callP_ro (l03Add_ro (nm x) (nm y) (by omega) (by omega)) ?_
    simp [h2g, Ne.symm h2g, h32, Ne.symm h32, h3g, Ne.symm h3g]
    intro g4 hg4
    intros
    have h4g : ¬ g4 = g := by assumption
    have h42 : ¬ g4 = g2 := by assumption
    have h43 : ¬ g4 = g3 := by assumption
    have hb4 : bl g4 = none := by assumption
    simp [h2g, Ne.symm h2g, h32, Ne.symm h32, h3g, Ne.symm h3g, h4g, Ne.symm h4g, h42, Ne.symm h42, h43, Ne.symm h43, biC_def]
    intro g5 hg5
    intros
    have h5g : ¬ g5 = g := by assumption
    have h52 : ¬ g5 = g2 := by assumption
    have h53 : ¬ g5 = g3 := by assumption
    have h54 : ¬ g5 = g4 := by assumption
    have hb5 : bl g5 = none := by assumption
    refine callP_gro 1 (upd (upd (upd (upd bl g (some ⟨3, [[.bool (decide (nm x < 0)), .sl (iv (lim (nm x).natAbs)), .sl (iv (lim 1))]]⟩)) g2 (some ⟨3, [[.bool (decide (nm y < 0)), .sl (iv (lim (nm y).natAbs)), .sl (iv (lim 1))]]⟩)) g3 (some ⟨3, [[.bool false, .nils, .nils]]⟩)) g4 (some ⟨2, [[.bool (decide (nm x + nm y < 0)), .sl (iv (lim (nm x + nm y).natAbs))]]⟩)) [.bool (decide (nm x + nm y < 0)), .sl (iv (lim (nm x + nm y).natAbs)), .sl (iv (lim 1))] (by simp [h2g, Ne.symm h2g, h32, Ne.symm h32, h3g, Ne.symm h3g, h4g, Ne.symm h4g, h42, Ne.symm h42, h43, Ne.symm h43, h5g, Ne.symm h5g, h52, Ne.symm h52, h53, Ne.symm h53, h54, Ne.symm h54, hb5]) (by simp [frz, dropB, V.cl, lim1, iv, Int.not_lt.2 hg5, h2g, Ne.symm h2g, h32, Ne.symm h32, h3g, Ne.symm h3g, h4g, Ne.symm h4g, h42, Ne.symm h42, h43, Ne.symm h43, h5g, Ne.symm h5g, h52, Ne.symm h52, h53, Ne.symm h53, h54, Ne.symm h54, hb5]) (l04Low_ro _ _ 1 (by omega) (by rw [lim1]; simp)) ?_
    rw [show lowQ (decide (nm x + nm y < 0)) (nm x + nm y).natAbs 1 = op2 (· + ·) x y from e1, ro_c (op2 _ x y)]
    simp [h2g, Ne.symm h2g, h32, Ne.symm h32, h3g, Ne.symm h3g, h4g, Ne.symm h4g, h42, Ne.symm h42, h43, Ne.symm h43, h5g, Ne.symm h5g, h52, Ne.symm h52, h53, Ne.symm h53, h54, Ne.symm h54]
    exact retRO [.agg (ro (op2 (· + ·) x y)).c] 1 (by rw [ro_c (op2 _ x y)]; simp [h2g, Ne.symm h2g, h32, Ne.symm h32, h3g, Ne.symm h3g, h4g, Ne.symm h4g, h42, Ne.symm h42, h43, Ne.symm h43, h5g, Ne.symm h5g, h52, Ne.symm h52, h53, Ne.symm h53, h54, Ne.symm h54]) (by rw [ro_c (op2 _ x y)]; simp [frz, V.cl]) (by simp [hg, hb2, hb3, hb4, hb5])
  · have hone2 : (decide (dn x = 1) && decide (dn y = 1)) = false := by
      rw [Bool.eq_false_iff]; simpa using hone
    rw [hone2]
    simp
    refine AW_mixedB mixedO (upd (upd (upd bl g (some ⟨3, [[.bool (decide (nm x < 0)), .sl (iv (lim (nm x).natAbs)), .sl (iv (lim (dn x)))]]⟩)) g2 (some ⟨3, [[.bool (decide (nm y < 0)), .sl (iv (lim (nm y).natAbs)), .sl (iv (lim (dn y)))]]⟩)) g3 (some ⟨3, [[.bool false, .nils, .nils]]⟩)) (Sub.refl _) [0, 1, 2, 3, 4, 5, 6, 7, 8, 9] 2 (by kernel_rfl) ?_
    simp [h2g, Ne.symm h2g, h32, Ne.symm h32, h3g, Ne.symm h3g]
    refine hcQ_ro (l02Mul_ro _ _ (by omega) (by omega)) ?_
    simp [h2g, Ne.symm h2g, h32, Ne.symm h32, h3g, Ne.symm h3g]
    refine hcQ_ro (l03Make_ro _ _ (by omega)) ?_
    rw [e0]
    simp [h2g, Ne.symm h2g, h32, Ne.symm h32, h3g, Ne.symm h3g]
    refine DAny_one (i := 10) (by kernel_rfl) rfl rfl ?_
    simp [h2g, Ne.symm h2g, h32, Ne.symm h32, h3g, Ne.symm h3g]
    intro g4 hg4
    intros
    have h4g : ¬ g4 = g := by assumption
    have h42 : ¬ g4 = g2 := by assumption
    have h43 : ¬ g4 = g3 := by assumption
    have hb4 : bl g4 = none := by assumption
    refine ⟨by simp [h2g, Ne.symm h2g, h32, Ne.symm h32, h3g, Ne.symm h3g, h4g, Ne.symm h4g, h42, Ne.symm h42, h43, Ne.symm h43, hb2, hb3, hb4], DAny_one (i := 11) (by kernel_rfl) rfl rfl ?_⟩
    simp [h2g, Ne.symm h2g, h32, Ne.symm h32, h3g, Ne.symm h3g, h4g, Ne.symm h4g, h42, Ne.symm h42, h43, Ne.symm h43, biC_def]
    refine ⟨by simp [h2g, Ne.symm h2g, h32, Ne.symm h32, h3g, Ne.symm h3g, h4g, Ne.symm h4g, h42, Ne.symm h42, h43, Ne.symm h43, hb2, hb3, hb4], DAny_done (by kernel_rfl) ?_⟩
    simp [h2g, Ne.symm h2g, h32, Ne.symm h32, h3g, Ne.symm h3g, h4g, Ne.symm h4g, h42, Ne.symm h42, h43, Ne.symm h43]
    refine AW_run ?_
    refine AW_mixedB mixedO (upd (upd (upd (upd bl g (some ⟨3, [[.bool (decide (nm x < 0)), .sl (iv (lim (nm x).natAbs)), .sl (iv (lim (dn x)))]]⟩)) g2 (some ⟨3, [[.bool (decide (nm y < 0)), .sl (iv (lim (nm y).natAbs)), .sl (iv (lim (dn y)))]]⟩)) g3 (some ⟨3, [[.bool false, .nils, .nils]]⟩)) g4 (some ⟨2, [[.bool (decide (nm x * dn y < 0)), .sl (iv (lim (nm x * dn y).natAbs))]]⟩)) (Sub.refl _) [0, 1, 2, 3, 4, 5, 6, 7, 8, 9] 2 (by kernel_rfl) ?_
    simp [h2g, Ne.symm h2g, h32, Ne.symm h32, h3g, Ne.symm h3g, h4g, Ne.symm h4g, h42, Ne.symm h42, h43, Ne.symm h43]
    refine hcQ_ro (l02Mul_ro _ _ (by omega) (by omega)) ?_
    simp [h2g, Ne.symm h2g, h32, Ne.symm h32, h3g, Ne.symm h3g, h4g, Ne.symm h4g, h42, Ne.symm h42, h43, Ne.symm h43]
    refine hcQ_ro (l03Make_ro _ _ (by omega)) ?_
    rw [e0]
    simp [h2g, Ne.symm h2g, h32, Ne.symm h32, h3g, Ne.symm h3g, h4g, Ne.symm h4g, h42, Ne.symm h42, h43, Ne.symm h43]
    refine DAny_one (i := 10) (by kernel_rfl) rfl rfl ?_
    simp [h2g, Ne.symm h2g, h32, Ne.symm h32, h3g, Ne.symm h3g, h4g, Ne.symm h4g, h42, Ne.symm h42, h43, Ne.symm h43]
    intro g5 hg5
    intros
    have h5g : ¬ g5 = g := by assumption
    have h52 : ¬ g5 = g2 := by assumption
    have h53 : ¬ g5 = g3 := by assumption
    have h54 : ¬ g5 = g4 := by assumption
    have hb5 : bl g5 = none := by assumption
    refine ⟨by simp [h2g, Ne.symm h2g, h32, Ne.symm h32, h3g, Ne.symm h3g, h4g, Ne.symm h4g, h42, Ne.symm h42, h43, Ne.symm h43, h5g, Ne.symm h5g, h52, Ne.symm h52, h53, Ne.symm h53, h54, Ne.symm h54, hb2, hb3, hb4, hb5], DAny_one (i := 11) (by kernel_rfl) rfl rfl ?_⟩
    simp [h2g, Ne.symm h2g, h32, Ne.symm h32, h3g, Ne.symm h3g, h4g, Ne.symm h4g, h42, Ne.symm h42, h43, Ne.symm h43, h5g, Ne.symm h5g, h52, Ne.symm h52, h53, Ne.symm h53, h54, Ne.symm h54, biC_def]
    refine ⟨by simp [h2g, Ne.symm h2g, h32, Ne.symm h32, h3g, Ne.symm h3g, h4g, Ne.symm h4g, h42, Ne.symm h42, h43, Ne.symm h43, h5g, Ne.symm h5g, h52, Ne.symm h52, h53, Ne.symm h53, h54, Ne.symm h54, hb2, hb3, hb4, hb5], DAny_done (by kernel_rfl) ?_⟩
    simp [h2g, Ne.symm h2g, h32, Ne.symm h32, h3g, Ne.symm h3g, h4g, Ne.symm h4g, h42, Ne.symm h42, h43, Ne.symm h43, h5g, Ne.symm h5g, h52, Ne.symm h52, h53, Ne.symm h53, h54, Ne.symm h54]
    refine callP_ro (l03Add_ro (nm x * dn y) (nm y * dn x) (by rw [Int.natAbs_mul, Int.natAbs_natCast]; omega) (by rw [Int.natAbs_mul, Int.natAbs_natCast]; omega)) ?_
    simp [h2g, Ne.symm h2g, h32, Ne.symm h32, h3g, Ne.symm h3g, h4g, Ne.symm h4g, h42, Ne.symm h42, h43, Ne.symm h43, h5g, Ne.symm h5g, h52, Ne.symm h52, h53, Ne.symm h53, h54, Ne.symm h54, biC_def]
    intro g6 hg6
    intros
    have h6g : ¬ g6 = g := by assumption
    have h62 : ¬ g6 = g2 := by assumption
    have h63 : ¬ g6 = g3 := by assumption
    have h64 : ¬ g6 = g4 := by assumption
    have h65 : ¬ g6 = g5 := by assumption
    have hb6 : bl g6 = none := by assumption
    try simp [h2g, Ne.symm h2g, h32, Ne.symm h32, h3g, Ne.symm h3g, h4g, Ne.symm h4g, h42, Ne.symm h42, h43, Ne.symm h43, h5g, Ne.symm h5g, h52, Ne.symm h52, h53, Ne.symm h53, h54, Ne.symm h54, h6g, Ne.symm h6g, h62, Ne.symm h62, h63, Ne.symm h63, h64, Ne.symm h64, h65, Ne.symm h65]
    refine AW_run ?_
    refine AW_mixedB mixedO (upd (upd (upd (upd (upd bl g (some ⟨3, [[.bool (decide (nm x < 0)), .sl (iv (lim (nm x).natAbs)), .sl (iv (lim (dn x)))]]⟩)) g2 (some ⟨3, [[.bool (decide (nm y < 0)), .sl (iv (lim (nm y).natAbs)), .sl (iv (lim (dn y)))]]⟩)) g4 (some ⟨2, [[.bool (decide (nm x * dn y < 0)), .sl (iv (lim (nm x * dn y).natAbs))]]⟩)) g5 (some ⟨2, [[.bool (decide (nm y * dn x < 0)), .sl (iv (lim (nm y * dn x).natAbs))]]⟩)) g6 (some ⟨2, [[.bool (decide (nm x * dn y + nm y * dn x < 0)), .sl (iv (lim (nm x * dn y + nm y * dn x).natAbs))]]⟩)) (by intro z b hz; simp only [upd_apply] at hz ⊢; grind) [0, 1, 2, 3, 4, 5, 6, 7, 8, 9] 1 (by kernel_rfl) ?_
    simp [h2g, Ne.symm h2g, h32, Ne.symm h32, h3g, Ne.symm h3g, h4g, Ne.symm h4g, h42, Ne.symm h42, h43, Ne.symm h43, h5g, Ne.symm h5g, h52, Ne.symm h52, h53, Ne.symm h53, h54, Ne.symm h54, h6g, Ne.symm h6g, h62, Ne.symm h62, h63, Ne.symm h63, h64, Ne.symm h64, h65, Ne.symm h65]
    refine hcQ_ro (l02Mul_ro _ _ (by omega) (by omega)) ?_
    simp [h2g, Ne.symm h2g, h32, Ne.symm h32, h3g, Ne.symm h3g, h4g, Ne.symm h4g, h42, Ne.symm h42, h43, Ne.symm h43, h5g, Ne.symm h5g, h52, Ne.symm h52, h53, Ne.symm h53, h54, Ne.symm h54, h6g, Ne.symm h6g, h62, Ne.symm h62, h63, Ne.symm h63, h64, Ne.symm h64, h65, Ne.symm h65]
    refine hcQ_ro (l04Low_ro _ _ _ ?_ (by omega)) ?_
    · exact len_mono (Int.natAbs_add_le _ _) (by rw [Int.natAbs_mul, Int.natAbs_mul, Int.natAbs_natCast, Int.natAbs_natCast]; have := len_add n1 n2; omega)
    rw [e _ rfl, ro_c (op2 _ x y)]
    simp [h2g, Ne.symm h2g, h32, Ne.symm h32, h3g, Ne.symm h3g, h4g, Ne.symm h4g, h42, Ne.symm h42, h43, Ne.symm h43, h5g, Ne.symm h5g, h52, Ne.symm h52, h53, Ne.symm h53, h54, Ne.symm h54, h6g, Ne.symm h6g, h62, Ne.symm h62, h63, Ne.symm h63, h64, Ne.symm h64, h65, Ne.symm h65]
    refine DAny_one (i := 10) (by kernel_rfl) rfl rfl ?_
    simp [h2g, Ne.symm h2g, h32, Ne.symm h32, h3g, Ne.symm h3g, h4g, Ne.symm h4g, h42, Ne.symm h42, h43, Ne.symm h43, h5g, Ne.symm h5g, h52, Ne.symm h52, h53, Ne.symm h53, h54, Ne.symm h54, h6g, Ne.symm h6g, h62, Ne.symm h62, h63, Ne.symm h63, h64, Ne.symm h64, h65, Ne.symm h65]
    refine ⟨by intro z b hz; simp only [upd_apply] at hz ⊢; grind, DAny_done (by kernel_rfl) ?_⟩
    simp [h2g, Ne.symm h2g, h32, Ne.symm h32, h3g, Ne.symm h3g, h4g, Ne.symm h4g, h42, Ne.symm h42, h43, Ne.symm h43, h5g, Ne.symm h5g, h52, Ne.symm h52, h53, Ne.symm h53, h54, Ne.symm h54, h6g, Ne.symm h6g, h62, Ne.symm h62, h63, Ne.symm h63, h64, Ne.symm h64, h65, Ne.symm h65]
    exact retRO [.agg (ro (op2 (· + ·) x y)).c] 1 (by rw [ro_c (op2 _ x y)]; simp [h2g, Ne.symm h2g, h32, Ne.symm h32, h3g, Ne.symm h3g, h4g, Ne.symm h4g, h42, Ne.symm h42, h43, Ne.symm h43, h5g, Ne.symm h5g, h52, Ne.symm h52, h53, Ne.symm h53, h54, Ne.symm h54, h6g, Ne.symm h6g, h62, Ne.symm h62, h63, Ne.symm h63, h64, Ne.symm h64, h65, Ne.symm h65]) (by rw [ro_c (op2 _ x y)]; simp [frz, V.cl]) (by simp [hg, hb2, hb3, hb4, hb5, hb6])

/-! ### For all forms, valid or not -/
theorem rd_ro {x : Option Rat} (h : okQ x) : rd (ro x) = x := by
  cases x with
  | none => exact rd_rz
  | some q => exact rd_rq (h q rfl)
theorem RatSub_ro (r s : RT) (hr : r.le 1048576) (hs : s.le 1048576) : RO Tryz.prog 82 [.agg r.c, .agg s.c] (.agg (ro (op2 (· - ·) (rd r) (rd s))).c) := by
  have k1 := spec_RatOk_ro r (by have := hr.1; omega) (by have := hr.2; omega)
  have k2 := spec_RatOk_ro s (by have := hs.1; omega) (by have := hs.2; omega)
  refine ro_of2 Tryz.func82 rfl rfl (by rw [Tryz.ntmps82]; simp) fun bl => ?_
  rw [Tryz.ntmps82, Tryz.results82]
  refine AW_runA ?_
  rw [ro_c (op2 _ _ _)]
  simp [RT.c]
  intro g hg0 hg g2 hg2 h2g hb2 g3 hg3 h32 h3g hb3
  refine AW_run ?_
  simp
  refine AW_way [(2, .loc g 3 0 0), (3, .loc g2 3 0 0), (4, .loc g3 3 0 0)] _ (upd (upd (upd bl g (some ⟨3, [r.c]⟩)) g2 (some ⟨3, [s.c]⟩)) g3 (some ⟨3, [[.bool false, .nils, .nils]]⟩)) 12 (.bool (!decide r.ok || !decide s.ok)) (upd (upd (upd bl g (some ⟨3, [r.c]⟩)) g2 (some ⟨3, [s.c]⟩)) g3 (some ⟨3, [[.bool false, .nils, .nils]]⟩)) ⟨rfl, by simp, sub_eq (by simp [RT.c])⟩ rfl ?_ ?_
  · simp [RT.c, h2g, Ne.symm h2g, h32, Ne.symm h32, h3g, Ne.symm h3g]
    refine callP_ro k1 ?_
    simp [h2g, Ne.symm h2g, h32, Ne.symm h32, h3g, Ne.symm h3g]
    refine ⟨fun h => ?_, fun h => ?_⟩
    · simp [h]
    · simp [h, h2g, Ne.symm h2g, h32, Ne.symm h32, h3g, Ne.symm h3g]
      refine callP_ro k2 ?_
      simp [h]
  by_cases h1 : r.ok
  · by_cases h2 : s.ok
    · obtain ⟨a, ea⟩ : ∃ q, rd r = some q := ⟨_, by unfold rd; rw [if_pos h1]⟩
      obtain ⟨b, eb⟩ : ∃ q, rd s = some q := ⟨_, by unfold rd; rw [if_pos h2]⟩
      obtain ⟨ra, fa⟩ := rd_some ea
      obtain ⟨sb, fb⟩ := rd_some eb
      have oa : okQ (some a) := fun q h => by cases h; exact fa
      have ob : okQ (some b) := fun q h => by cases h; exact fb
      have c1 := l04Neg_ro (some b) ob
      have c2 := l04Add_ro (some a) (some (-b)) oa (okQ_neg ob)
      have er : op2 (· + ·) (some a) (some (-b)) = op2 (· - ·) (rd r) (rd s) := by
        rw [ea, eb]; unfold op2; simp only; rw [Rat.sub_eq_add_neg]
      rw [er] at c2
      clear er
      generalize op2 (· - ·) (rd r) (rd s) = z at c2 ⊢
      rw [ro_c z] at c2
      rw [show (ro (some b)) = s from sb.symm] at c1
      rw [show (ro (some a)) = r from ra.symm] at c2
      simp [h1, h2]
      refine AW_mixedB mixedO (upd (upd bl g (some ⟨3, [r.c]⟩)) g2 (some ⟨3, [s.c]⟩)) (by simp [RT.c, h2g, Ne.symm h2g, h32, Ne.symm h32, h3g, Ne.symm h3g, hb3]) [0, 1, 2, 3] 1 (by kernel_rfl) ?_
      simp [h2g, Ne.symm h2g, h32, Ne.symm h32, h3g, Ne.symm h3g, RT.c]
      refine hcQ_ro c1 ?_
      simp [h2g, Ne.symm h2g, h32, Ne.symm h32, h3g, Ne.symm h3g]
      refine hcQ_ro c2 ?_
      simp [h2g, Ne.symm h2g, h32, Ne.symm h32, h3g, Ne.symm h3g]
      refine DAny_one (i := 4) (by kernel_rfl) rfl rfl ?_
      simp [h2g, Ne.symm h2g, h32, Ne.symm h32, h3g, Ne.symm h3g]
      refine ⟨by simp [h32, h3g, hb3], DAny_done (by kernel_rfl) ?_⟩
      simp [h2g, Ne.symm h2g, h32, Ne.symm h32, h3g, Ne.symm h3g]
      exact retRO [.agg [.bool (decide (nm z < 0)), .sl (iv (lim (nm z).natAbs)), .sl (iv (lim (dn z)))]] 1 (by simp [h2g, Ne.symm h2g, h32, Ne.symm h32, h3g, Ne.symm h3g]) (by simp [frz, V.cl]) (by simp [hg, hb2, hb3])
    · have eb : rd s = none := by unfold rd; rw [if_neg h2]
      have er : op2 (· - ·) (rd r) (rd s) = none := by rw [eb]; cases rd r <;> rfl
      rw [er]
      simp [h1, h2]
      exact retRO [.agg [.bool false, .nils, .nils]] 1 (by simp [h2g, Ne.symm h2g, h32, Ne.symm h32, h3g, Ne.symm h3g]) (by simp [frz, nm, dn, V.cl, iv, lim_zero]) (by simp [hg, hb2, hb3])
  · have eb : rd r = none := by unfold rd; rw [if_neg h1]
    have er : op2 (· - ·) (rd r) (rd s) = none := by rw [eb]; rfl
    rw [er]
    simp [h1]
    exact retRO [.agg [.bool false, .nils, .nils]] 1 (by simp [h2g, Ne.symm h2g, h32, Ne.symm h32, h3g, Ne.symm h3g]) (by simp [frz, nm, dn, V.cl, iv, lim_zero]) (by simp [hg, hb2, hb3])

end Go.Proofs.YthhjmaianlmfpaaGreat.Vm

namespace Go.Proofs.YthhjmaianlmfpaaGreat.Vm
open Go Go.Proofs
set_option linter.unusedSimpArgs false
set_option linter.unusedVariables false

theorem u64_in2 {n : Int} (h0 : 0 ≤ n) (h1 : n ≤ 18446744073709551615) : IntKind.u64.wrap n = n := IntWalk.u64_in _ ⟨by omega, by omega⟩
theorem integer_ro (n : Int) (hn : -9223372036854775808 ≤ n ∧ n ≤ 9223372036854775807) : RO Tryz.prog 133 [.int .i64 n] (.agg (biC n)) := by
  refine ro_of2 Tryz.func133 rfl rfl (by rw [Tryz.ntmps133]; simp) fun bl => ?_
  rw [Tryz.ntmps133, Tryz.results133]
  refine AW_run ?_
  simp
  intro g hg0 hg
  refine ⟨fun h => ?_, fun h => ?_⟩
  · have e : IntKind.u64.wrap (IntKind.u64.wrap (IntKind.i64.wrap (-IntKind.i64.wrap (n + 1))) + 1) = (n.natAbs : Int) := by
      have w1 : IntKind.i64.wrap (n + 1) = n + 1 := i64_in (by omega) (by omega)
      have w2 : IntKind.i64.wrap (-(n + 1)) = -(n + 1) := i64_in (by omega) (by omega)
      have w3 : IntKind.u64.wrap (-(n + 1)) = -(n + 1) := u64_in2 (by omega) (by omega)
      have w4 : IntKind.u64.wrap (-(n + 1) + 1) = -(n + 1) + 1 := u64_in2 (by omega) (by omega)
      rw [w1, w2, w3, w4]
      omega
    rw [e]
    refine callP_ro (limbsOf_ro n.natAbs (by omega)) ?_
    simp
    refine callP_ro (signed_ro true n.natAbs) ?_
    have e2 : sg true n.natAbs = n := by unfold sg; simp; omega
    rw [e2, biC_def]
    simp
    exact retRO [.agg (biC n)] 1 (by simp [biC_def]) (by simp [frz, biC_def, V.cl]) (by simp [hg])
  · have e : IntKind.u64.wrap n = (n.natAbs : Int) := by rw [u64_in2 (by omega) (by omega)]; omega
    rw [e]
    refine callP_ro (limbsOf_ro n.natAbs (by omega)) ?_
    simp
    refine callP_ro (signed_ro false n.natAbs) ?_
    have e2 : sg false n.natAbs = n := by unfold sg; simp; omega
    rw [e2, biC_def]
    simp
    exact retRO [.agg (biC n)] 1 (by simp [biC_def]) (by simp [frz, biC_def, V.cl]) (by simp [hg])
theorem BigIntOf_ro (n : Int) (hn : -9223372036854775808 < n ∧ n ≤ 9223372036854775807) : RO Tryz.prog 112 [.int .i64 n] (.agg (biC n)) := by
  have hl : (lim n.natAbs).length ≤ 60 := lim_length_le.2 (Nat.lt_of_le_of_lt (show n.natAbs ≤ 9223372036854775808 by omega) (by decide +kernel))
  refine ro_of2 Tryz.func112 rfl rfl (by rw [Tryz.ntmps112]; simp) fun bl => ?_
  rw [Tryz.ntmps112, Tryz.results112]
  refine AW_run ?_
  simp
  intro g hg0 hg
  have h0 : ¬ n = -9223372036854775808 := by omega
  simp [h0]
  refine ⟨fun h => ?_, fun h => ?_⟩
  · have e : IntKind.i64.wrap (-n) = (n.natAbs : Int) := by rw [i64_in (by omega) (by omega)]; omega
    try rw [e]
    refine callP_ro (spec_NatOf_ro n.natAbs (by omega)) ?_
    simp
    refine callP_ro (l03Make_ro true n.natAbs hl) ?_
    have e2 : sg true n.natAbs = n := by unfold sg; simp; omega
    rw [e2, biC_def]
    simp
    exact retRO [.agg (biC n)] 1 (by simp [biC_def]) (by simp [frz, biC_def, V.cl]) (by simp [hg])
  · have e : n = (n.natAbs : Int) := by omega
    have hN := spec_NatOf_ro n.natAbs (by omega)
    rw [← e] at hN
    refine callP_ro hN ?_
    simp
    refine callP_ro (l03Make_ro false n.natAbs hl) ?_
    have e2 : sg false n.natAbs = n := by unfold sg; simp; omega
    rw [e2, biC_def]
    simp
    exact retRO [.agg (biC n)] 1 (by simp [biC_def]) (by simp [frz, biC_def, V.cl]) (by simp [hg])

theorem rq_int (n : Int) : (rq (n : Rat)).c = [.bool (decide (n < 0)), .sl (iv (lim n.natAbs)), .sl [[.int .i64 1]]] := by
  rw [rqc_def]
  show [V.bool (decide (n < 0)), V.sl (iv (lim n.natAbs)), V.sl (iv (lim 1))] = _
  rw [lim1]; rfl
theorem okQ_int {n : Int} (hn : -9223372036854775808 ≤ n ∧ n ≤ 9223372036854775807) : okQ (some (n : Rat)) := fun q h => by
  cases h; exact fits_int (by omega)
theorem RatFromInt_ro (n : Int) (hn : -9223372036854775808 < n ∧ n ≤ 9223372036854775807) : RO Tryz.prog 51 [.int .i64 n] (.agg (ro (some (n : Rat))).c) := by
  refine ro_of2 Tryz.func51 rfl rfl (by rw [Tryz.ntmps51]; simp) fun bl => ?_
  rw [Tryz.ntmps51, Tryz.results51]
  refine AW_run ?_
  rw [show (ro (some (n : Rat))).c = _ from rq_int n]
  simp
  intro g hg0 hg
  refine callP_ro (BigIntOf_ro n hn) ?_
  simp [biC_def]
  intro g1 hg1 h1g hb1
  simp [h1g, Ne.symm h1g]
  refine retRO [.agg [.bool (decide (n < 0)), .sl (iv (lim n.natAbs)), .lsl g1 1 0 1]] 2 (by simp [h1g, Ne.symm h1g]) ?_ (by simp [hg, hb1])
  exact frz_rat (ns := [1]) (.inl hg1) hb1 (by simp [h1g, iv])
theorem whole_ro (n : Int) (hn : -9223372036854775808 ≤ n ∧ n ≤ 9223372036854775807) : RO Tryz.prog 75 [.int .i64 n] (fv (some (n : Rat))) := by
  refine ro_of2 Tryz.func75 rfl rfl (by rw [Tryz.ntmps75]; simp) fun bl => ?_
  rw [Tryz.ntmps75, Tryz.results75]
  refine AW_run ?_
  rw [show fv (some (n : Rat)) = .ptr (rq (n : Rat)).c from rfl, rq_int n]
  simp
  refine callP_ro (integer_ro n hn) ?_
  simp [biC_def]
  intro g1 hg1 hb1 g2 hg2 h21 hb2
  refine retRO [.loc g2 3 0 0] 2 (by simp [h21, Ne.symm h21]) ?_ (by simp [hb1, hb2])
  have h1 := frz_rat (bl0 := bl) (ms := lim n.natAbs) (b := decide (n < 0)) (ns := [1]) (g := g1) (.inl hg1) hb1 (bl := upd (upd bl g1 (some ⟨1, iv [1]⟩)) g2 (some ⟨3, [[.bool (decide (n < 0)), .sl (iv (lim n.natAbs)), .lsl g1 1 0 1]]⟩)) (by simp [h21, Ne.symm h21])
  rw [frz_agg] at h1
  show frz _ 2 (.loc g2 3 0 0) = _
  rw [frz_loc0 (e := [.bool (decide (n < 0)), .sl (iv (lim n.natAbs)), .lsl g1 1 0 1]) (by simp [dropB, hb2])]
  obtain ⟨e', he, h2⟩ := Option.map_eq_some_iff.1 h1
  cases h2
  exact (congrArg (Option.map V.ptr) he).trans rfl

theorem RatAdd_ro (r s : RT) (hr : r.le 1048576) (hs : s.le 1048576) : RO Tryz.prog 53 [.agg r.c, .agg s.c] (.agg (ro (op2 (· + ·) (rd r) (rd s))).c) := by
  have k1 := spec_RatOk_ro r (by have := hr.1; omega) (by have := hr.2; omega)
  have k2 := spec_RatOk_ro s (by have := hs.1; omega) (by have := hs.2; omega)
  refine ro_of2 Tryz.func53 rfl rfl (by rw [Tryz.ntmps53]; simp) fun bl => ?_
  rw [Tryz.ntmps53, Tryz.results53]
  refine AW_runA ?_
  rw [ro_c (op2 _ _ _)]
  simp [RT.c]
  intro g hg0 hg g2 hg2 h2g hb2 g3 hg3 h32 h3g hb3
  refine AW_run ?_
  simp
  refine AW_way [(2, .loc g 3 0 0), (3, .loc g2 3 0 0), (4, .loc g3 3 0 0)] _ (upd (upd (upd bl g (some ⟨3, [r.c]⟩)) g2 (some ⟨3, [s.c]⟩)) g3 (some ⟨3, [[.bool false, .nils, .nils]]⟩)) 12 (.bool (!decide r.ok || !decide s.ok)) (upd (upd (upd bl g (some ⟨3, [r.c]⟩)) g2 (some ⟨3, [s.c]⟩)) g3 (some ⟨3, [[.bool false, .nils, .nils]]⟩)) ⟨rfl, by simp, sub_eq (by simp [RT.c])⟩ rfl ?_ ?_
  · simp [RT.c, h2g, Ne.symm h2g, h32, Ne.symm h32, h3g, Ne.symm h3g]
    refine callP_ro k1 ?_
    simp [h2g, Ne.symm h2g, h32, Ne.symm h32, h3g, Ne.symm h3g]
    refine ⟨fun h => ?_, fun h => ?_⟩
    · simp [h]
    · simp [h, h2g, Ne.symm h2g, h32, Ne.symm h32, h3g, Ne.symm h3g]
      refine callP_ro k2 ?_
      simp [h]
  by_cases h1 : r.ok
  · by_cases h2 : s.ok
    · obtain ⟨a, ea⟩ : ∃ q, rd r = some q := ⟨_, by unfold rd; rw [if_pos h1]⟩
      obtain ⟨b, eb⟩ : ∃ q, rd s = some q := ⟨_, by unfold rd; rw [if_pos h2]⟩
      obtain ⟨ra, fa⟩ := rd_some ea
      obtain ⟨sb, fb⟩ := rd_some eb
      have oa : okQ (some a) := fun q h => by cases h; exact fa
      have ob : okQ (some b) := fun q h => by cases h; exact fb
      have c2 := l04Add_ro (some a) (some b) oa ob
      rw [← ea, ← eb] at c2
      generalize op2 (· + ·) (rd r) (rd s) = z at c2 ⊢
      rw [ro_c z] at c2
      rw [ea, eb, show (ro (some a)) = r from ra.symm, show (ro (some b)) = s from sb.symm] at c2
      simp [h1, h2, RT.c, h2g, Ne.symm h2g, h32, Ne.symm h32, h3g, Ne.symm h3g]
      refine callP_ro c2 ?_
      simp [h2g, Ne.symm h2g, h32, Ne.symm h32, h3g, Ne.symm h3g]
      exact retRO [.agg [.bool (decide (nm z < 0)), .sl (iv (lim (nm z).natAbs)), .sl (iv (lim (dn z)))]] 1 (by simp [h2g, Ne.symm h2g, h32, Ne.symm h32, h3g, Ne.symm h3g]) (by simp [frz, V.cl]) (by simp [hg, hb2, hb3])
    · have eb : rd s = none := by unfold rd; rw [if_neg h2]
      have er : op2 (· + ·) (rd r) (rd s) = none := by rw [eb]; cases rd r <;> rfl
      rw [er]
      simp [h1, h2]
      exact retRO [.agg [.bool false, .nils, .nils]] 1 (by simp [h2g, Ne.symm h2g, h32, Ne.symm h32, h3g, Ne.symm h3g]) (by simp [frz, nm, dn, V.cl, iv, lim_zero]) (by simp [hg, hb2, hb3])
  · have eb : rd r = none := by unfold rd; rw [if_neg h1]
    have er : op2 (· + ·) (rd r) (rd s) = none := by rw [eb]; rfl
    rw [er]
    simp [h1]
    exact retRO [.agg [.bool false, .nils, .nils]] 1 (by simp [h2g, Ne.symm h2g, h32, Ne.symm h32, h3g, Ne.symm h3g]) (by simp [frz, nm, dn, V.cl, iv, lim_zero]) (by simp [hg, hb2, hb3])

theorem RatMul_ro (r s : RT) (hr : r.le 1048576) (hs : s.le 1048576) : RO Tryz.prog 54 [.agg r.c, .agg s.c] (.agg (ro (op2 (· * ·) (rd r) (rd s))).c) := by
  have k1 := spec_RatOk_ro r (by have := hr.1; omega) (by have := hr.2; omega)
  have k2 := spec_RatOk_ro s (by have := hs.1; omega) (by have := hs.2; omega)
  refine ro_of2 Tryz.func54 rfl rfl (by rw [Tryz.ntmps54]; simp) fun bl => ?_
  rw [Tryz.ntmps54, Tryz.results54]
  refine AW_runA ?_
  rw [ro_c (op2 _ _ _)]
  simp [RT.c]
  intro g hg0 hg g2 hg2 h2g hb2 g3 hg3 h32 h3g hb3
  refine AW_run ?_
  simp
  refine AW_way [(2, .loc g 3 0 0), (3, .loc g2 3 0 0), (4, .loc g3 3 0 0)] _ (upd (upd (upd bl g (some ⟨3, [r.c]⟩)) g2 (some ⟨3, [s.c]⟩)) g3 (some ⟨3, [[.bool false, .nils, .nils]]⟩)) 12 (.bool (!decide r.ok || !decide s.ok)) (upd (upd (upd bl g (some ⟨3, [r.c]⟩)) g2 (some ⟨3, [s.c]⟩)) g3 (some ⟨3, [[.bool false, .nils, .nils]]⟩)) ⟨rfl, by simp, sub_eq (by simp [RT.c])⟩ rfl ?_ ?_
  · simp [RT.c, h2g, Ne.symm h2g, h32, Ne.symm h32, h3g, Ne.symm h3g]
    refine callP_ro k1 ?_
    simp [h2g, Ne.symm h2g, h32, Ne.symm h32, h3g, Ne.symm h3g]
    refine ⟨fun h => ?_, fun h => ?_⟩
    · simp [h]
    · simp [h, h2g, Ne.symm h2g, h32, Ne.symm h32, h3g, Ne.symm h3g]
      refine callP_ro k2 ?_
      simp [h]
  by_cases h1 : r.ok
  · by_cases h2 : s.ok
    · obtain ⟨a, ea⟩ : ∃ q, rd r = some q := ⟨_, by unfold rd; rw [if_pos h1]⟩
      obtain ⟨b, eb⟩ : ∃ q, rd s = some q := ⟨_, by unfold rd; rw [if_pos h2]⟩
      obtain ⟨ra, fa⟩ := rd_some ea
      obtain ⟨sb, fb⟩ := rd_some eb
      have oa : okQ (some a) := fun q h => by cases h; exact fa
      have ob : okQ (some b) := fun q h => by cases h; exact fb
      have c2 := l04Mul_ro (some a) (some b) oa ob
      rw [← ea, ← eb] at c2
      generalize op2 (· * ·) (rd r) (rd s) = z at c2 ⊢
      rw [ro_c z] at c2
      rw [ea, eb, show (ro (some a)) = r from ra.symm, show (ro (some b)) = s from sb.symm] at c2
      simp [h1, h2, RT.c, h2g, Ne.symm h2g, h32, Ne.symm h32, h3g, Ne.symm h3g]
      refine callP_ro c2 ?_
      simp [h2g, Ne.symm h2g, h32, Ne.symm h32, h3g, Ne.symm h3g]
      exact retRO [.agg [.bool (decide (nm z < 0)), .sl (iv (lim (nm z).natAbs)), .sl (iv (lim (dn z)))]] 1 (by simp [h2g, Ne.symm h2g, h32, Ne.symm h32, h3g, Ne.symm h3g]) (by simp [frz, V.cl]) (by simp [hg, hb2, hb3])
    · have eb : rd s = none := by unfold rd; rw [if_neg h2]
      have er : op2 (· * ·) (rd r) (rd s) = none := by rw [eb]; cases rd r <;> rfl
      rw [er]
      simp [h1, h2]
      exact retRO [.agg [.bool false, .nils, .nils]] 1 (by simp [h2g, Ne.symm h2g, h32, Ne.symm h32, h3g, Ne.symm h3g]) (by simp [frz, nm, dn, V.cl, iv, lim_zero]) (by simp [hg, hb2, hb3])
  · have eb : rd r = none := by unfold rd; rw [if_neg h1]
    have er : op2 (· * ·) (rd r) (rd s) = none := by rw [eb]; rfl
    rw [er]
    simp [h1]
    exact retRO [.agg [.bool false, .nils, .nils]] 1 (by simp [h2g, Ne.symm h2g, h32, Ne.symm h32, h3g, Ne.symm h3g]) (by simp [frz, nm, dn, V.cl, iv, lim_zero]) (by simp [hg, hb2, hb3])

end Go.Proofs.YthhjmaianlmfpaaGreat.Vm

namespace Go.Proofs.YthhjmaianlmfpaaGreat.Vm
open Go Go.Proofs
set_option linter.unusedSimpArgs false
set_option linter.unusedVariables false

theorem celT_int : Tryz.prog.cellsOf 3 = 1 := by kernel_rfl
theorem celT_bool : Tryz.prog.cellsOf 4 = 1 := by kernel_rfl
theorem celT_string : Tryz.prog.cellsOf 9 = 1 := by kernel_rfl
theorem celT_Joint : Tryz.prog.cellsOf 144 = 4 := by kernel_rfl

theorem len2 {cs : List V} (h : cs.length = 2) : ∃ a b, cs = [a, b] := by
  match cs, h with
  | [a, b], _ => exact ⟨a, b, rfl⟩
theorem len3 {cs : List V} (h : cs.length = 3) : ∃ a b c, cs = [a, b, c] := by
  match cs, h with
  | [a, b, c], _ => exact ⟨a, b, c, rfl⟩
theorem len4 {cs : List V} (h : cs.length = 4) : ∃ a b c d, cs = [a, b, c, d] := by
  match cs, h with
  | [a, b, c, d], _ => exact ⟨a, b, c, d, rfl⟩

theorem j_of_co {cs : List V} (h : CO Tryz.prog 144 cs) : ∃ j : J, cs = j.c ∧ j.fit := by
  obtain ⟨hl, hf⟩ := co_struct Tryz.underlying144 h
  rw [celT_Joint] at hl
  obtain ⟨a, b, c, d, rfl⟩ := len4 hl
  simp [celT_int, celT_bool, celT_string] at hf
  obtain ⟨h0, h1, h2, h3⟩ := hf
  obtain ⟨s, h0, hs⟩ := co_str Tryz.underlying9 h0
  obtain ⟨x, h1, hx⟩ := co_int Tryz.underlying3 h1
  obtain ⟨y, h2, hy⟩ := co_int Tryz.underlying3 h2
  obtain ⟨f, h3⟩ := co_bool Tryz.underlying4 h3
  cases h0; cases h1; cases h2; cases h3
  exact ⟨⟨s, x, y, f⟩, rfl, hs, wf_i64 hx, wf_i64 hy⟩

theorem bytes_int : Tryz.prog.bytesOf 3 = 8 := by kernel_rfl

theorem iv_of_co {cs : List V} (h : CO Tryz.prog 43 cs) : ∃ ns : List Int, cs = [.sl (iv ns)] ∧ ns.length ≤ 17592186043904 ∧ ∀ n, n ∈ ns → -9223372036854775808 ≤ n ∧ n ≤ 9223372036854775807 := by
  obtain ⟨xs, rfl, hx, hl⟩ := co_slice Tryz.underlying43 h
  rw [bytes_int] at hl
  have : ∃ ns : List Int, xs = iv ns ∧ ∀ n, n ∈ ns → -9223372036854775808 ≤ n ∧ n ≤ 9223372036854775807 := by
    clear hl h
    induction xs with
    | nil => exact ⟨[], rfl, fun n hn => by cases hn⟩
    | cons x xs ih =>
      obtain ⟨ns, rfl, hns⟩ := ih fun y hy => hx y (List.mem_cons_of_mem _ hy)
      obtain ⟨n, rfl, hn⟩ := co_int Tryz.underlying3 (hx x List.mem_cons_self)
      refine ⟨n :: ns, rfl, fun m hm => ?_⟩
      rcases List.mem_cons.1 hm with rfl | hm
      · exact wf_i64 hn
      · exact hns m hm
  obtain ⟨ns, rfl, hns⟩ := this
  exact ⟨ns, rfl, by simp at hl; omega, hns⟩

end Go.Proofs.YthhjmaianlmfpaaGreat.Vm

namespace Go.Proofs.YthhjmaianlmfpaaGreat.Vm
open Go Go.Proofs
set_option linter.unusedSimpArgs false
set_option linter.unusedVariables false

theorem celT_Member : Tryz.prog.cellsOf 152 = 3 := by kernel_rfl
theorem celT_Structure : Tryz.prog.cellsOf 25 = 2 := by kernel_rfl
theorem celT_Joints : Tryz.prog.cellsOf 22 = 1 := by kernel_rfl
theorem celT_Members : Tryz.prog.cellsOf 23 = 1 := by kernel_rfl
theorem bytes_Joint : 1 ≤ Tryz.prog.bytesOf 144 := by
  have : Tryz.prog.bytesOf 144 = 40 := by kernel_rfl
  omega
theorem bytes_Member : 1 ≤ Tryz.prog.bytesOf 152 := by
  have : Tryz.prog.bytesOf 152 = 24 := by kernel_rfl
  omega

def In64 (n : Int) : Prop := -9223372036854775808 ≤ n ∧ n ≤ 9223372036854775807
structure Mb.fit (m : Mb) : Prop where
  a : In64 m.a
  b : In64 m.b
  kind : In64 m.kind
structure Str.fit (s : Str) : Prop where
  js : s.js.length ≤ 140737488351232
  ms : s.ms.length ≤ 140737488351232
  names : ∀ j, j ∈ s.js → j.name.size ≤ 140737488351232
  joints : ∀ j, j ∈ s.js → j.fit
  members : ∀ m, m ∈ s.ms → m.fit

theorem m_of_co {cs : List V} (h : CO Tryz.prog 152 cs) : ∃ m : Mb, cs = m.c ∧ m.fit := by
  obtain ⟨hl, hf⟩ := co_struct Tryz.underlying152 h
  rw [celT_Member] at hl
  obtain ⟨a, b, c, rfl⟩ := len3 hl
  simp [celT_int, celT_bool, celT_string] at hf
  obtain ⟨h0, h1, h2⟩ := hf
  obtain ⟨x, h0, hx⟩ := co_int Tryz.underlying3 h0
  obtain ⟨y, h1, hy⟩ := co_int Tryz.underlying3 h1
  obtain ⟨z, h2, hz⟩ := co_int Tryz.underlying3 h2
  cases h0; cases h1; cases h2
  exact ⟨⟨x, y, z⟩, rfl, wf_i64 hx, wf_i64 hy, wf_i64 hz⟩

theorem jv_of {xs : List (List V)} (hx : ∀ x, x ∈ xs → CO Tryz.prog 144 x) : ∃ js : List J, xs = jv js ∧ ∀ j, j ∈ js → j.fit := by
  induction xs with
  | nil => exact ⟨[], rfl, fun n hn => by cases hn⟩
  | cons x xs ih =>
    obtain ⟨ns, rfl, hns⟩ := ih fun y hy => hx y (List.mem_cons_of_mem _ hy)
    obtain ⟨n, rfl, hn⟩ := j_of_co (hx x List.mem_cons_self)
    refine ⟨n :: ns, rfl, fun m hm => ?_⟩
    rcases List.mem_cons.1 hm with rfl | hm
    · exact hn
    · exact hns m hm
theorem mv_of {xs : List (List V)} (hx : ∀ x, x ∈ xs → CO Tryz.prog 152 x) : ∃ js : List Mb, xs = mv js ∧ ∀ j, j ∈ js → j.fit := by
  induction xs with
  | nil => exact ⟨[], rfl, fun n hn => by cases hn⟩
  | cons x xs ih =>
    obtain ⟨ns, rfl, hns⟩ := ih fun y hy => hx y (List.mem_cons_of_mem _ hy)
    obtain ⟨n, rfl, hn⟩ := m_of_co (hx x List.mem_cons_self)
    refine ⟨n :: ns, rfl, fun m hm => ?_⟩
    rcases List.mem_cons.1 hm with rfl | hm
    · exact hn
    · exact hns m hm

theorem len_of {xs : List (List V)} {b n : Nat} (hl : xs.length * b ≤ n) (hb : 1 ≤ b) : xs.length ≤ n := Nat.le_trans (Nat.le_mul_of_pos_right _ hb) hl

theorem str_of_co {cs : List V} (h : CO Tryz.prog 25 cs) : ∃ s : Str, cs = s.c ∧ s.fit := by
  obtain ⟨hl, hf⟩ := co_struct Tryz.underlying25 h
  rw [celT_Structure] at hl
  obtain ⟨a, b, rfl⟩ := len2 hl
  simp [celT_Joints, celT_Members] at hf
  obtain ⟨h0, h1⟩ := hf
  obtain ⟨x, h0, hx, hlx⟩ := co_slice Tryz.underlying22 h0
  obtain ⟨y, h1, hy, hly⟩ := co_slice Tryz.underlying23 h1
  cases h0; cases h1
  obtain ⟨js, rfl, hjs⟩ := jv_of hx
  obtain ⟨ms, rfl, hms⟩ := mv_of hy
  exact ⟨⟨js, ms⟩, rfl, by simpa using len_of hlx bytes_Joint, by simpa using len_of hly bytes_Member, fun j hj => (hjs j hj).1, hjs, hms⟩

end Go.Proofs.YthhjmaianlmfpaaGreat.Vm

namespace Go.Proofs.YthhjmaianlmfpaaGreat.Vm
open Go Go.Proofs
set_option linter.unusedSimpArgs false
set_option linter.unusedVariables false

theorem szBigInt_ro (neg : Bool) (m : List Int) (left : Int) (hl : -1 ≤ left ∧ left ≤ 1048576) (hm : m.length ≤ 140737488351232) : RO Tryz.prog 110 [.agg [.bool neg, .sl (iv m)], .int .i64 left] (.int .i64 (less left m.length)) := by
  refine ro_of2 Tryz.func110 rfl rfl (by rw [Tryz.ntmps110]; simp) fun bl => ?_
  rw [Tryz.ntmps110, Tryz.results110]
  refine AW_run ?_
  simp
  intro g hg0 hg
  refine callP_ro (szIntS_ro m left hl hm) ?_
  simp
  refine ⟨fun h => ?_, fun h => ?_⟩
  · have : less left m.length = -1 := by unfold less at h ⊢; split at h <;> split <;> omega
    exact retRO [.int .i64 (-1)] 0 (by simp) (by simp [frz, this]) (by simp [hg])
  · exact retRO [.int .i64 (less left m.length)] 0 (by simp) (by simp [frz]) (by simp [hg])
theorem less_n {left : Int} {n : Nat} (h : 0 ≤ less left n) : (n : Int) ≤ left := by unfold less at h; split at h <;> omega
theorem less_neg {left : Int} {n : Nat} (h : less left n < 0) : less left n = -1 := by unfold less at h ⊢; split at h <;> split <;> omega
def szR (r : RT) (left : Int) : Int := if less left r.m.length < 0 then -1 else less (less left r.m.length) r.d.length
theorem szR_le {r : RT} {left : Int} (hl : -1 ≤ left ∧ left ≤ 1048576) : -1 ≤ szR r left ∧ szR r left ≤ 1048576 := by
  unfold szR; split
  · omega
  · exact less_le (less_le hl)
theorem szR_n {r : RT} {left : Int} (hl : -1 ≤ left ∧ left ≤ 1048576) (h : 0 ≤ szR r left) : r.le 1048576 := by
  unfold szR at h
  split at h
  · omega
  · have h1 := less_n (show 0 ≤ less left r.m.length by omega)
    have h2 := less_n h
    have := (less_le (n := r.m.length) hl).2
    exact ⟨by omega, by omega⟩
theorem szRat_ro (r : RT) (left : Int) (hl : -1 ≤ left ∧ left ≤ 1048576) (hr : r.le 140737488351232) : RO Tryz.prog 48 [.agg r.c, .int .i64 left] (.int .i64 (szR r left)) := by
  refine ro_of2 Tryz.func48 rfl rfl (by rw [Tryz.ntmps48]; simp) fun bl => ?_
  rw [Tryz.ntmps48, Tryz.results48]
  refine AW_run ?_
  simp [RT.c]
  intro g hg0 hg
  refine callP_ro (szBigInt_ro r.neg r.m left hl hr.1) ?_
  simp
  refine ⟨fun h => ?_, fun h => ?_⟩
  · exact retRO [.int .i64 (-1)] 0 (by simp) (by simp [frz, szR, h]) (by simp [hg])
  · refine callP_ro (szIntS_ro r.d _ (less_le hl) hr.2) ?_
    have hn : ¬ less left r.m.length < 0 := by omega
    simp
    refine ⟨fun h2 => ?_, fun h2 => ?_⟩
    · exact retRO [.int .i64 (-1)] 0 (by simp) (by simp [frz, szR, hn, less_neg h2]) (by simp [hg])
    · exact retRO [.int .i64 (szR r left)] 0 (by simp [szR, hn]) (by simp [frz]) (by simp [hg])
def szSp (s : SP) (left : Int) : Int := if szR s.lo left < 0 then -1 else szR s.hi (szR s.lo left)
theorem szR_neg {r : RT} {left : Int} (h : szR r left < 0) : szR r left = -1 := by
  unfold szR at h ⊢
  split at h
  · rw [if_pos (by assumption)]
  · rename_i hn; rw [if_neg hn]; exact less_neg h
theorem szSp_le {s : SP} {left : Int} (hl : -1 ≤ left ∧ left ≤ 1048576) : -1 ≤ szSp s left ∧ szSp s left ≤ 1048576 := by
  unfold szSp; split
  · omega
  · exact szR_le (szR_le hl)
theorem szSp_n {s : SP} {left : Int} (hl : -1 ≤ left ∧ left ≤ 1048576) (h : 0 ≤ szSp s left) : s.le 1048576 := by
  unfold szSp at h
  split at h
  · omega
  · exact ⟨szR_n hl (by omega), szR_n (szR_le hl) h⟩
/-! ### Copies -/
theorem toBigInt_ro (neg : Bool) (m : List Int) (hm : m.length ≤ 1048576) : RO Tryz.prog 121 [.agg [.bool neg, .sl (iv m)]] (.agg [.bool neg, .sl (iv m)]) := by
  refine ro_of2 Tryz.func121 rfl rfl (by rw [Tryz.ntmps121]; simp) fun bl => ?_
  rw [Tryz.ntmps121, Tryz.results121]
  refine AW_run ?_
  simp
  intro g1 hg1 hb1 g2 hg2 h21 hb2 g3 hg3 h32 h31 hb3
  try simp [h21, h31, h32, Ne.symm h21, Ne.symm h31, Ne.symm h32]
  refine callP_ro (toIntS_ro m hm) ?_
  simp [h21, h31, h32, Ne.symm h21, Ne.symm h31, Ne.symm h32]
  exact retRO [.agg [.bool neg, .sl (iv m)]] 1 (by simp [h21, h31, h32, Ne.symm h21, Ne.symm h31, Ne.symm h32]) rfl (by simp [hb1, hb2, hb3])
theorem toRat_ro (r : RT) (hr : r.le 1048576) : RO Tryz.prog 58 [.agg r.c] (.agg r.c) := by
  refine ro_of2 Tryz.func58 rfl rfl (by rw [Tryz.ntmps58]; simp) fun bl => ?_
  rw [Tryz.ntmps58, Tryz.results58]
  refine AW_run ?_
  simp [RT.c]
  intro g1 hg1 hb1 g2 hg2 h21 hb2 g3 hg3 h32 h31 hb3
  try simp [h21, h31, h32, Ne.symm h21, Ne.symm h31, Ne.symm h32]
  refine callP_ro (toBigInt_ro r.neg r.m hr.1) ?_
  simp [h21, h31, h32, Ne.symm h21, Ne.symm h31, Ne.symm h32]
  refine callP_ro (toIntS_ro r.d hr.2) ?_
  simp [h21, h31, h32, Ne.symm h21, Ne.symm h31, Ne.symm h32]
  exact retRO [.agg [.bool r.neg, .sl (iv r.m), .sl (iv r.d)]] 1 (by simp [h21, h31, h32, Ne.symm h21, Ne.symm h31, Ne.symm h32]) rfl (by simp [hb1, hb2, hb3])
/-! ### Comparisons with itself -/
theorem eqBigInt_ro (neg : Bool) (m : List Int) (hm : m.length ≤ 140737488351232) : RO Tryz.prog 86 [.agg [.bool neg, .sl (iv m)], .agg [.bool neg, .sl (iv m)]] (.bool true) := by
  refine ro_of2 Tryz.func86 rfl rfl (by rw [Tryz.ntmps86]; simp) fun bl => ?_
  rw [Tryz.ntmps86, Tryz.results86]
  refine AW_run ?_
  simp
  intro g1 hg1 hb1 g2 hg2 h21 hb2
  try simp [h21, Ne.symm h21]
  refine callP_ro (eqIntS_ro m m hm) ?_
  simp
  exact retRO [.bool true] 0 (by simp) rfl (by simp [hb1, hb2])
theorem eqRat_ro (r : RT) (hr : r.le 140737488351232) : RO Tryz.prog 33 [.agg r.c, .agg r.c] (.bool true) := by
  refine ro_of2 Tryz.func33 rfl rfl (by rw [Tryz.ntmps33]; simp) fun bl => ?_
  rw [Tryz.ntmps33, Tryz.results33]
  refine AW_run ?_
  simp [RT.c]
  intro g1 hg1 hb1 g2 hg2 h21 hb2
  try simp [h21, Ne.symm h21]
  refine callP_ro (eqBigInt_ro r.neg r.m hr.1) ?_
  simp [h21, Ne.symm h21]
  refine callP_ro (eqIntS_ro r.d r.d hr.2) ?_
  simp
  exact retRO [.bool true] 0 (by simp) rfl (by simp [hb1, hb2])
end Go.Proofs.YthhjmaianlmfpaaGreat.Vm

namespace Go.Proofs.YthhjmaianlmfpaaGreat.Vm
open Go Go.Proofs
set_option linter.unusedSimpArgs false
set_option linter.unusedVariables false

theorem own_pair {bl : Int → Option Blk} {d e : D} {vs : List V} {gs : List Int} : OwnL bl [d, e] vs gs ↔ ∃ v w g1 g2, vs = [v, w] ∧ gs = g1 ++ g2 ∧ (∀ g, g ∈ g1 → g ∉ g2) ∧ OwnD bl d v g1 ∧ OwnD bl e w g2 := by
  rw [OwnL]
  constructor
  · rintro ⟨v, vs', g1, g2, rfl, rfl, h1, h2, h3⟩
    rw [OwnL] at h3
    obtain ⟨w, vs'', g3, g4, rfl, rfl, h4, h5, h6⟩ := h3
    rw [OwnL] at h6
    obtain ⟨rfl, rfl⟩ := h6
    rw [List.append_nil] at h1 ⊢
    exact ⟨v, w, g1, g3, rfl, rfl, h1, h2, h5⟩
  · rintro ⟨v, w, g1, g2, rfl, rfl, h1, h2, h3⟩
    refine ⟨v, [w], g1, g2, rfl, rfl, h1, h2, ?_⟩
    rw [OwnL]
    exact ⟨w, [], g2, [], rfl, by simp, by simp, h3, by rw [OwnL]; exact ⟨rfl, rfl⟩⟩
theorem OwnD.one {bl : Int → Option Blk} {sz : Nat} {rows : List (List V)} {v : V} {gs : List Int} (h : OwnD bl (fl sz rows) v gs) : v.one = true ∧ v.cells = [v] := by
  unfold fl at h
  rw [OwnD] at h
  rcases h with ⟨_, rfl, _⟩ | ⟨g, els, gs', rfl, _⟩ <;> exact ⟨rfl, rfl⟩
theorem frz_iv {bl : Int → Option Blk} {ns : List Int} {v : V} {gs : List Int} (h : OwnD bl (fl 1 (iv ns)) v gs) (n : Nat) : frz bl (n + 1) v = some (.sl (iv ns)) := by
  rw [h.frz (fl_dep _ _ _), fl_fz]
theorem sc_iv (ns : List Int) : (fl 1 (iv ns)).sc = true := fl_sc (iv_ow ns)
theorem new_keep {bl bl' : Int → Option Blk} {gs : List Int} (h2 : ∀ g, g ∈ gs → bl g = none) (h3 : ∀ g, g ∉ gs → bl' g = bl g) {x : Int} {b : Blk} (hx : bl x = some b) : bl' x = some b :=
  Made.sub (d := default) (v := default) h2 h3 x b hx
theorem OwnD.keep {bl bl' : Int → Option Blk} {d : D} {v : V} {gs : List Int} (h : OwnD bl d v gs) (hg : ∀ x, x ∈ gs → ∀ b, bl x = some b → bl' x = some b) : OwnD bl' d v gs := h.frame fun x hx => by
  obtain ⟨b, hb⟩ := h.has x hx
  rw [hb, hg x hx b hb]
theorem OwnL.keep {bl bl' : Int → Option Blk} {d : List D} {v : List V} {gs : List Int} (h : OwnL bl d v gs) (hg : ∀ x, x ∈ gs → ∀ b, bl x = some b → bl' x = some b) : OwnL bl' d v gs := h.frame fun x hx => by
  obtain ⟨b, hb⟩ := h.has x hx
  rw [hb, hg x hx b hb]
theorem OwnL.not {bl : Int → Option Blk} {d : List D} {v : List V} {gs : List Int} (h : OwnL bl d v gs) {g : Int} (hg : bl g = none) : g ∉ gs := fun hh => by
  obtain ⟨b, hb⟩ := h.has g hh
  rw [hg] at hb; cases hb
theorem OwnD.not {bl : Int → Option Blk} {d : D} {v : V} {gs : List Int} (h : OwnD bl d v gs) {g : Int} (hg : bl g = none) : g ∉ gs := fun hh => by
  obtain ⟨b, hb⟩ := h.has g hh
  rw [hg] at hb; cases hb
theorem sub_new {bl bl' : Int → Option Blk} {g : Int} {b : Option Blk} (hs : Sub bl bl') (hg : bl' g = none) : Sub bl (upd bl' g b) := hs.upd (fresh_of hs hg) b
theorem OwnR.keep {bl bl' : Int → Option Blk} {sz : Nat} {d : List (List D)} {v : List (List V)} {gs : List Int} (h : OwnR bl sz d v gs) (hg : ∀ x, x ∈ gs → ∀ b, bl x = some b → bl' x = some b) : OwnR bl' sz d v gs := h.frame fun x hx => by
  obtain ⟨b, hb⟩ := h.has x hx
  rw [hb, hg x hx b hb]
theorem OwnR.not {bl : Int → Option Blk} {sz : Nat} {d : List (List D)} {v : List (List V)} {gs : List Int} (h : OwnR bl sz d v gs) {g : Int} (hg : bl g = none) : g ∉ gs := fun hh => by
  obtain ⟨b, hb⟩ := h.has g hh
  rw [hg] at hb; cases hb
theorem OwnR.snoc {bl : Int → Option Blk} {sz : Nat} {r : List D} {e : List V} {g2 : List Int} (hr : OwnL bl r e g2) (hl : e.length = sz) (ho : e.all V.one = true) : ∀ {rs : List (List D)} {els : List (List V)} {g1 : List Int}, OwnR bl sz rs els g1 → (∀ x, x ∈ g1 → x ∉ g2) → OwnR bl sz (rs ++ [r]) (els ++ [e]) (g1 ++ g2)
  | [], els, g1, h, hd => by
    rw [OwnR] at h
    obtain ⟨rfl, rfl⟩ := h
    show OwnR bl sz [r] [e] g2
    rw [OwnR]
    exact ⟨e, [], g2, [], rfl, by simp, by simp, hl, ho, hr, by rw [OwnR]; exact ⟨rfl, rfl⟩⟩
  | r1 :: rs, els, g1, h, hd => by
    rw [OwnR] at h
    obtain ⟨e1, els', ga, gb, rfl, rfl, h3, h4, h5, h6, h7⟩ := h
    have ih := OwnR.snoc hr hl ho h7 fun x hx => hd x (by simp [hx])
    show OwnR bl sz (r1 :: (rs ++ [r])) (e1 :: (els' ++ [e])) (ga ++ gb ++ g2)
    rw [OwnR]
    refine ⟨e1, els' ++ [e], ga, gb ++ g2, rfl, by simp, fun x hx hx2 => ?_, h4, h5, h6, ih⟩
    rcases List.mem_append.1 hx2 with hx2 | hx2
    · exact h3 x hx hx2
    · exact hd x (by simp [hx]) hx2
theorem OwnR.at {bl : Int → Option Blk} {sz : Nat} : ∀ {rs : List (List D)} {els : List (List V)} {gs : List Int} (i : Nat) (hi : i < rs.length), OwnR bl sz rs els gs →
    ∃ e gi, els[i]? = some e ∧ OwnL bl rs[i] e gi ∧ e.length = sz ∧ e.all V.one = true ∧ (∀ x, x ∈ gi → x ∈ gs) ∧
      ∀ bl' r' e', OwnL bl' r' e' gi → e'.length = sz → e'.all V.one = true → (∀ x, x ∈ gs → x ∉ gi → ∀ y, bl x = some y → bl' x = some y) → OwnR bl' sz (rs.set i r') (els.set i e') gs
  | [], els, gs, i, hi, _ => by simp at hi
  | r :: rs, els, gs, 0, hi, h => by
    rw [OwnR] at h
    obtain ⟨e, els', g1, g2, rfl, rfl, h3, h4, h5, h6, h7⟩ := h
    refine ⟨e, g1, rfl, h6, h4, h5, fun x hx => by simp [hx], fun bl' r' e' a1 a2 a3 a4 => ?_⟩
    show OwnR bl' sz (r' :: rs) (e' :: els') (g1 ++ g2)
    rw [OwnR]
    exact ⟨e', els', g1, g2, rfl, rfl, h3, a2, a3, a1, h7.keep fun x hx b hb => a4 x (by simp [hx]) (fun h => h3 x h hx) b hb⟩
  | r :: rs, els, gs, i + 1, hi, h => by
    rw [OwnR] at h
    obtain ⟨e, els', g1, g2, rfl, rfl, h3, h4, h5, h6, h7⟩ := h
    obtain ⟨e2, gi, b1, b2, b3, b4, b5, b6⟩ := OwnR.at (rs := rs) i (by simpa using hi) h7
    refine ⟨e2, gi, by simpa using b1, by simpa using b2, b3, b4, fun x hx => by simp [b5 x hx], fun bl' r' e' a1 a2 a3 a4 => ?_⟩
    show OwnR bl' sz (r :: rs.set i r') (e :: els'.set i e') (g1 ++ g2)
    rw [OwnR]
    refine ⟨e, els'.set i e', g1, g2, rfl, rfl, h3, h4, h5, h6.keep fun x hx b hb => a4 x (by simp [hx]) (fun h => h3 x hx (b5 x h)) b hb, b6 bl' r' e' a1 a2 a3 fun x hx hn y hy => a4 x (by simp [hx]) hn y hy⟩
theorem grow_get (els : List (List V)) (z : List V) (n : Nat) (h : els.length < n) : (els ++ List.replicate (n - els.length) z)[els.length]? = some z := by
  rw [List.getElem?_append_right (Nat.le_refl _), Nat.sub_self, List.getElem?_replicate, if_pos (by omega)]
theorem grow_set (els : List (List V)) (z x : List V) (n : Nat) (h : els.length < n) : (els ++ List.replicate (n - els.length) z).set els.length x = (els ++ [x]) ++ List.replicate (n - (els ++ [x]).length) z := by
  rw [List.set_append_right _ _ (Nat.le_refl _), Nat.sub_self]
  obtain ⟨m, hm⟩ : ∃ m, n - els.length = m + 1 := ⟨n - els.length - 1, by omega⟩
  have h2 : n - (els ++ [x]).length = m := by simp; omega
  rw [hm, h2, List.replicate_succ]
  simp
theorem grow_set' (els : List (List V)) (z x : List V) (n : Nat) (h : els.length < n) : els ++ (List.replicate (n - els.length) z).set 0 x = (els ++ [x]) ++ List.replicate (n - (els ++ [x]).length) z := by
  rw [← grow_set els z x n h, List.set_append_right _ _ (Nat.le_refl _), Nat.sub_self]
theorem own_single {bl : Int → Option Blk} {d : D} {v : V} {gs : List Int} : OwnL bl [d] [v] gs ↔ OwnD bl d v gs := by
  rw [OwnL]
  constructor
  · rintro ⟨v', vs', g1, g2, h1, rfl, _, h2, h3⟩
    cases h1
    rw [OwnL] at h3
    rw [h3.2, List.append_nil]; exact h2
  · intro h
    exact ⟨v, [], gs, [], rfl, by simp, by simp, h, by rw [OwnL]; exact ⟨rfl, rfl⟩⟩
theorem sub_new' {bl bl' : Int → Option Blk} {g : Int} {b : Option Blk} (hg : bl g = none) (hs : Sub bl bl') : Sub bl (upd bl' g b) := hs.upd hg b
structure Grow where
  els : List (List V)
  gs : List Int
  b : Int → Option Blk
theorem own_cons {bl : Int → Option Blk} {d : D} {ds : List D} {v : V} {vs : List V} {g1 g2 : List Int} (h1 : OwnD bl d v g1) (h2 : OwnL bl ds vs g2) (hd : ∀ g, g ∈ g1 → g ∉ g2) : OwnL bl (d :: ds) (v :: vs) (g1 ++ g2) := by
  rw [OwnL]; exact ⟨v, vs, g1, g2, rfl, rfl, hd, h1, h2⟩
theorem own_nil {bl : Int → Option Blk} : OwnL bl [] [] [] := by rw [OwnL]; exact ⟨rfl, rfl⟩
theorem own_int {bl : Int → Option Blk} (n : Int) : OwnD bl (.c (.int .i64 n)) (.int .i64 n) [] := by rw [OwnD]; exact ⟨rfl, rfl, rfl⟩
theorem own_bool {bl : Int → Option Blk} (b : Bool) : OwnD bl (.c (.bool b)) (.bool b) [] := by rw [OwnD]; exact ⟨rfl, rfl, rfl⟩

end Go.Proofs.YthhjmaianlmfpaaGreat.Vm

namespace Go.Proofs.YthhjmaianlmfpaaGreat.Vm
open Go Go.Proofs
set_option linter.unusedSimpArgs false
set_option linter.unusedVariables false

/-- Rows written over from the beginning. -/
def over (ys xs : List (List V)) (i : Nat) : List (List V) := ys.take i ++ xs.drop i
@[simp] theorem over_zero (ys xs : List (List V)) : over ys xs 0 = xs := by simp [over]
theorem over_length (ys xs : List (List V)) (i : Nat) (hl : ys.length = xs.length) : (over ys xs i).length = xs.length := by simp [over]; omega
theorem over_all (ys xs : List (List V)) (i : Nat) (hl : ys.length = xs.length) (hi : xs.length ≤ i) : over ys xs i = ys := by
  simp [over, List.take_of_length_le (show ys.length ≤ i by omega), List.drop_of_length_le hi]
theorem over_get (ys xs : List (List V)) (i : Nat) (hl : ys.length = xs.length) (hi : i < xs.length) : (over ys xs i)[i]? = some xs[i] := by
  unfold over
  rw [List.getElem?_append_right (by simp; omega), List.length_take, Nat.min_eq_left (by omega), Nat.sub_self, List.getElem?_drop]
  simp [hi]
theorem over_getE (ys xs : List (List V)) (i : Nat) (hl : ys.length = xs.length) (hi : i < xs.length) : (over ys xs i)[i]'(by rw [over_length ys xs i hl]; exact hi) = xs[i] := by
  have := over_get ys xs i hl hi
  rw [List.getElem?_eq_getElem (by rw [over_length ys xs i hl]; exact hi)] at this
  exact Option.some.inj this
theorem over_set (ys xs : List (List V)) (i : Nat) (hl : ys.length = xs.length) (hi : i < ys.length) (x : List V) (hx : x = ys[i]) : (over ys xs i).set i x = over ys xs (i + 1) := by
  subst hx
  apply List.ext_getElem?
  intro j
  have hz : ∀ k, k ≤ ys.length → ∀ j, (over ys xs k)[j]? = if j < k then ys[j]? else xs[j]? := by
    intro k hk j
    unfold over
    by_cases hj : j < k
    · rw [if_pos hj, List.getElem?_append_left (by simp; omega), List.getElem?_take_of_lt hj]
    · rw [if_neg hj, List.getElem?_append_right (by simp; omega), List.length_take, Nat.min_eq_left hk, List.getElem?_drop]
      congr 1; omega
  rw [List.getElem?_set, hz i (by omega), hz (i + 1) (by omega), over_length _ _ _ hl]
  by_cases hij : i = j
  · subst hij; simp [hi]; omega
  · rw [if_neg hij]
    by_cases h1 : j < i
    · simp [h1, show j < i + 1 by omega]
    · simp [h1, show ¬ j < i + 1 by omega]

def marks (k : Int) (n : Nat) : List Int := (List.range n).map fun (i : Nat) => k + i
@[simp] theorem marks_length (k : Int) (n : Nat) : (marks k n).length = n := by simp [marks]
@[simp] theorem marks_getE (k : Int) (n i : Nat) (h : i < (marks k n).length) : (marks k n)[i] = k + i := by simp [marks]
theorem marks_at (k : Int) (n i : Nat) (h : i < n) : (iv (marks k n))[i]'(by simpa using h) = [.int .i64 (k + i)] := by simp [marks]

theorem markIntS_cp {bl : Int → Option Blk} {K : V → (Int → Option Blk) → Prop} (xs : List Int) (k : Int) (v : V) (gs : List Int) (h : OwnD bl (fl 1 (iv xs)) v gs) (hk : -1 ≤ k ∧ k + xs.length ≤ 4611686018427387904)
    (hK : ∀ bl', OwnD bl' (fl 1 (iv (marks k xs.length))) v gs → (∀ g, g ∉ gs → bl' g = bl g) → K (.int .i64 (k + xs.length)) bl') : CallP Tryz.prog 30 [v, .int .i64 k] bl K := by
  refine callP_of Tryz.func30 rfl rfl (by rw [Tryz.ntmps30]; simp) ?_
  rw [Tryz.ntmps30, Tryz.results30]
  refine AW_run ?_
  rcases own_iv.1 h with ⟨rfl, rfl, rfl⟩ | ⟨g, rfl, rfl, hb, hg0⟩
  · simp
    refine AW_for (fun _ : Unit => [(0, .nils), (1, .int .i64 k), (5, .int .i64 0)]) (fun _ => bl) (fun _ => True) (fun _ => 0) _ () trivial ⟨rfl, by simp, Sub.refl _⟩ ?_
    intro _ _
    refine AW_run ?_
    simp
    rw [retK_ret]
    refine ⟨[.int .i64 k], by simp, ?_⟩
    have := hK bl (own_iv.2 (.inl ⟨rfl, rfl, rfl⟩)) (fun _ _ => rfl)
    simpa using this
  · simp
    refine AW_for (fun i : Nat => [(0, .lsl g 1 0 xs.length), (1, .int .i64 (k + i)), (5, .int .i64 i)]) (fun i => upd bl g (some ⟨1, over (iv (marks k xs.length)) (iv xs) i⟩)) (fun i => i ≤ xs.length) (fun i => xs.length - i) _ 0 (Nat.zero_le _) ⟨rfl, by simp, sub_eq ?_⟩ ?_
    · funext x
      simp only [upd_apply]
      split
      · rename_i hx; subst hx; simp [hb]
      · rfl
    intro i hi
    refine AW_run ?_
    simp
    refine ⟨fun h1 => ?_, fun h1 => ?_⟩
    · have h2 : i < (iv xs).length := by simpa using h1
      have hge : 0 ≤ g := by
        rcases Int.lt_or_le g 0 with hlt | hge
        · have := hg0 hlt; subst this; simp at h1
        · exact hge
      have hgi := over_get (iv (marks k xs.length)) (iv xs) i (by simp) h2
      simp (disch := omega) [h1, hgi, i64_in, loopQ_normal]
      refine ⟨i + 1, by omega, by omega, rfl, by simp; omega, sub_eq ?_⟩
      rw [over_set _ _ _ (by simp) (by simpa using h1) _ (by simp [marks])]
    · have hi' : i = xs.length := by omega
      subst hi'
      rw [retK_ret]
      refine ⟨[.int .i64 (k + xs.length)], by simp, ?_⟩
      refine hK _ (own_iv.2 (.inr ⟨g, by simp, rfl, ?_, fun h => by have := hg0 h; subst this; rfl⟩)) (fun g' hg' => ?_)
      · simp; rw [over_all _ _ _ (by simp) (by simp)]
      · simp at hg'; simp [hg']

theorem heldIntS_ro (n : Nat) (k : Int) (hk : -1 ≤ k ∧ k + n ≤ 4611686018427387904) : RO Tryz.prog 66 [.sl (iv (marks k n)), .int .i64 k] (.int .i64 (k + n)) := by
  refine ro_of2 Tryz.func66 rfl rfl (by rw [Tryz.ntmps66]; simp) fun bl => ?_
  rw [Tryz.ntmps66, Tryz.results66]
  refine AW_run ?_
  simp
  refine AW_for (fun i : Nat => [(0, .sl (iv (marks k n))), (1, .int .i64 (k + i)), (5, .int .i64 i)]) (fun _ => bl) (fun i => i ≤ n) (fun i => n - i) _ 0 (Nat.zero_le _) ⟨rfl, by simp, Sub.refl _⟩ ?_
  intro i hi
  refine AW_run ?_
  simp
  refine ⟨fun h1 => ?_, fun h1 => ?_⟩
  · have h2 : i < (iv (marks k n)).length := by simpa using h1
    simp (disch := omega) [h1, i64_in, loopQ_normal]
    refine ⟨i + 1, by omega, by omega, rfl, by simp; omega, Sub.refl _⟩
  · have hi' : i = n := by omega
    subst hi'
    exact retRO0 (by simp) rfl rfl

theorem toIntS_nw (a : List Int) (ha : a.length ≤ 1048576) : NW Tryz.prog 23 [.sl (iv a)] (fl 1 (iv a)) := by
  refine nw_of Tryz.func23 rfl rfl (by rw [Tryz.ntmps23]; simp) fun bl => ?_
  rw [Tryz.ntmps23, Tryz.results23]
  refine AW_run ?_
  simp
  refine ⟨by omega, by unfold maxLen; omega, fun g hg0 hg => ?_⟩
  refine AW_for (fun i : Nat => [(0, .sl (iv a)), (3, .lsl g 1 0 a.length), (4, .int .i64 i)]) (fun i => upd bl g (some ⟨1, part (iv a) [.int .i64 0] i⟩)) (fun i => i ≤ a.length) (fun i => a.length - i) _ 0 (Nat.zero_le _) ⟨rfl, by simp, sub_eq (by simp)⟩ ?_
  intro i hi
  refine AW_run ?_
  simp
  refine ⟨fun h => ?_, fun h => ?_⟩
  · have hi' : i < (iv a).length := by simpa using h
    simp (disch := omega) [h, part_get _ _ _ hi', i64_in, loopQ_normal]
    refine ⟨i + 1, by omega, by omega, rfl, by simp, sub_eq ?_⟩
    simp only [upd_idem]
    rw [part_set _ _ _ hi']
    simp
  · refine retNW [.lsl g 1 0 a.length] [g] (by simp) ?_ (by simpa using hg) (by simp [hg])
    rw [part_all _ _ _ (by simpa using h)]
    exact own_iv.2 (.inr ⟨g, rfl, rfl, by simp, by omega⟩)

end Go.Proofs.YthhjmaianlmfpaaGreat.Vm

namespace Go.Proofs.YthhjmaianlmfpaaGreat.Vm
open Go Go.Proofs
set_option linter.unusedSimpArgs false
set_option linter.unusedVariables false

def dB (neg : Bool) (m : List Int) : List D := [.c (.bool neg), fl 1 (iv m)]
def dR (r : RT) : List D := [.c (.bool r.neg), fl 1 (iv r.m), fl 1 (iv r.d)]
theorem own_bi {bl : Int → Option Blk} {neg : Bool} {m : List Int} {v : V} {gs : List Int} : OwnD bl (.a (dB neg m)) v gs ↔ ∃ vm, v = .agg [.bool neg, vm] ∧ OwnD bl (fl 1 (iv m)) vm gs := by
  rw [OwnD]; unfold dB
  constructor
  · rintro ⟨vs, rfl, h⟩
    rw [OwnL] at h
    obtain ⟨v, vs', g1, g2, rfl, rfl, _, h1, h2⟩ := h
    rw [OwnD] at h1
    obtain ⟨rfl, _, rfl⟩ := h1
    obtain ⟨w, rfl⟩ : ∃ w, vs' = [w] := by
      have := h2.length
      match vs', this with
      | [w], _ => exact ⟨w, rfl⟩
    exact ⟨w, rfl, own_single.1 h2⟩
  · rintro ⟨vm, rfl, h⟩
    exact ⟨_, rfl, own_cons (own_bool _) (own_single.2 h) (fun x hx => by cases hx)⟩
theorem own_rtL {bl : Int → Option Blk} {r : RT} {vs : List V} {gs : List Int} : OwnL bl (dR r) vs gs ↔ ∃ vm vd gm gd, vs = [.bool r.neg, vm, vd] ∧ gs = gm ++ gd ∧ (∀ g, g ∈ gm → g ∉ gd) ∧ OwnD bl (fl 1 (iv r.m)) vm gm ∧ OwnD bl (fl 1 (iv r.d)) vd gd := by
  unfold dR
  constructor
  · intro h
    rw [OwnL] at h
    obtain ⟨v, vs', g1, g2, rfl, rfl, _, h1, h2⟩ := h
    rw [OwnD] at h1
    obtain ⟨rfl, _, rfl⟩ := h1
    obtain ⟨vm, vd, gm, gd, rfl, rfl, hd, h3, h4⟩ := own_pair.1 h2
    exact ⟨vm, vd, gm, gd, rfl, rfl, hd, h3, h4⟩
  · rintro ⟨vm, vd, gm, gd, rfl, rfl, hd, h3, h4⟩
    exact own_cons (g1 := []) (g2 := gm ++ gd) (own_bool _) (own_pair.2 ⟨vm, vd, gm, gd, rfl, rfl, hd, h3, h4⟩) (fun x hx => by cases hx)
theorem own_rt {bl : Int → Option Blk} {r : RT} {v : V} {gs : List Int} : OwnD bl (.a (dR r)) v gs ↔ ∃ vm vd gm gd, v = .agg [.bool r.neg, vm, vd] ∧ gs = gm ++ gd ∧ (∀ g, g ∈ gm → g ∉ gd) ∧ OwnD bl (fl 1 (iv r.m)) vm gm ∧ OwnD bl (fl 1 (iv r.d)) vd gd := by
  rw [OwnD]
  constructor
  · rintro ⟨vs, rfl, h⟩
    obtain ⟨vm, vd, gm, gd, rfl, h2⟩ := own_rtL.1 h
    exact ⟨vm, vd, gm, gd, rfl, h2⟩
  · rintro ⟨vm, vd, gm, gd, rfl, h2⟩
    exact ⟨_, rfl, own_rtL.2 ⟨vm, vd, gm, gd, rfl, h2⟩⟩
theorem dR_fz (r : RT) : D.fzL (dR r) = r.c := by simp [dR, D.fzL, D.fz, RT.c]
theorem dRT_fz (r : RT) : (D.a (dR r)).fz = .agg r.c := by rw [D.fz, dR_fz]
theorem dR_dep (r : RT) (n : Nat) : D.depL (n + 1) (dR r) := by simp [dR, D.depL, D.dep, fl_dep]
theorem dRT_dep (r : RT) (n : Nat) : (D.a (dR r)).dep (n + 2) := by rw [D.dep]; exact ⟨by omega, dR_dep r n⟩
theorem dR_sc (r : RT) : D.scL (dR r) = true := by simp [dR, D.scL, D.sc, V.ow, sc_iv]
theorem dRT_sc (r : RT) : (D.a (dR r)).sc = true := by rw [D.sc]; exact dR_sc r
theorem frz_rt {bl : Int → Option Blk} {r : RT} {v : V} {gs : List Int} (h : OwnD bl (.a (dR r)) v gs) (n : Nat) : frz bl (n + 2) v = some (.agg r.c) := by
  rw [h.frz (dRT_dep r n), dRT_fz]

/-! ### Copies -/
theorem toBigInt_nw (neg : Bool) (m : List Int) (hm : m.length ≤ 1048576) : NW Tryz.prog 121 [.agg [.bool neg, .sl (iv m)]] (.a (dB neg m)) := by
  refine nw_of Tryz.func121 rfl rfl (by rw [Tryz.ntmps121]; simp) fun bl => ?_
  rw [Tryz.ntmps121, Tryz.results121]
  refine AW_run ?_
  simp
  intro g1 hg1 hb1 g2 hg2 h21 hb2 g3 hg3 h32 h31 hb3
  try simp [h21, h31, h32, Ne.symm h21, Ne.symm h31, Ne.symm h32]
  refine callP_new (toIntS_nw m hm) fun v gs b o f fr => ?_
  obtain ⟨c1, c2⟩ := o.one
  have e1 : ∀ x, x ∈ gs → x ≠ g1 ∧ x ≠ g2 ∧ x ≠ g3 ∧ bl x = none := fun x hx => by have := f x hx; simp [upd_apply] at this; grind
  have n1 : b g1 = _ := fr g1 fun h => (e1 g1 h).1 rfl
  have n2 : b g2 = _ := fr g2 fun h => (e1 g2 h).2.1 rfl
  have n3 : b g3 = _ := fr g3 fun h => (e1 g3 h).2.2.1 rfl
  simp [h21, h31, h32, Ne.symm h21, Ne.symm h31, Ne.symm h32] at n1 n2 n3
  simp [h21, h31, h32, Ne.symm h21, Ne.symm h31, Ne.symm h32, n1, n2, n3, c1, c2]
  have hsub : Sub bl b := fun x y hy => by
    have z1 : x ≠ g1 := fun h => by rw [h, hb1] at hy; cases hy
    have z2 : x ≠ g2 := fun h => by rw [h, hb2] at hy; cases hy
    have z3 : x ≠ g3 := fun h => by rw [h, hb3] at hy; cases hy
    exact new_keep f fr (by simp [upd_apply, z1, z2, z3, hy])
  refine retNW [.agg [.bool neg, v]] gs ?_ ?_ (fun x hx => (e1 x hx).2.2.2) ?_
  · simp [h21, h31, h32, Ne.symm h21, Ne.symm h31, Ne.symm h32, n1, n2, n3]
  · exact own_bi.2 ⟨v, rfl, o.frame fun x hx => by simp [upd_apply, (e1 x hx).2.1, (e1 x hx).2.2.1]⟩
  · simp [hb1, hb2, hb3, hsub]

theorem own_append {bl : Int → Option Blk} : ∀ {ds es : List D} {vs : List V} {gs : List Int}, OwnL bl (ds ++ es) vs gs ↔ ∃ v1 v2 g1 g2, vs = v1 ++ v2 ∧ gs = g1 ++ g2 ∧ (∀ g, g ∈ g1 → g ∉ g2) ∧ OwnL bl ds v1 g1 ∧ OwnL bl es v2 g2
  | [], es, vs, gs => by
    constructor
    · intro h; exact ⟨[], vs, [], gs, rfl, rfl, fun x hx => (by cases hx), own_nil, h⟩
    · rintro ⟨v1, v2, g1, g2, rfl, rfl, _, h1, h2⟩
      rw [OwnL] at h1
      obtain ⟨rfl, rfl⟩ := h1
      exact h2
  | d :: ds, es, vs, gs => by
    rw [List.cons_append]
    constructor
    · intro h
      rw [OwnL] at h
      obtain ⟨v, vs', g1, g2, rfl, rfl, hd, h1, h2⟩ := h
      obtain ⟨v1, v2, g3, g4, rfl, rfl, hd2, h3, h4⟩ := own_append.1 h2
      refine ⟨v :: v1, v2, g1 ++ g3, g4, rfl, by simp, fun x hx h => ?_, own_cons h1 h3 (fun x hx h => hd x hx (List.mem_append_left _ h)), h4⟩
      rcases List.mem_append.1 hx with hx | hx
      · exact hd x hx (List.mem_append_right _ h)
      · exact hd2 x hx h
    · rintro ⟨v1, v2, g1, g2, rfl, rfl, hd, h1, h2⟩
      rw [OwnL] at h1
      obtain ⟨v, vs', g3, g4, rfl, rfl, hd2, h3, h4⟩ := h1
      have := own_cons h3 (own_append.2 ⟨vs', v2, g4, g2, rfl, rfl, fun x hx => hd x (List.mem_append_right _ hx), h4, h2⟩) (fun x hx h => by
        rcases List.mem_append.1 h with h | h
        · exact hd2 x hx h
        · exact hd x (List.mem_append_left _ hx) h)
      simpa using this

theorem toRat_nw (r : RT) (hr : r.le 1048576) : NW Tryz.prog 58 [.agg r.c] (.a (dR r)) := by
  refine nw_of Tryz.func58 rfl rfl (by rw [Tryz.ntmps58]; simp) fun bl => ?_
  rw [Tryz.ntmps58, Tryz.results58]
  refine AW_run ?_
  simp [RT.c]
  intro g1 hg1 hb1 g2 hg2 h21 hb2 g3 hg3 h32 h31 hb3
  try simp [h21, h31, h32, Ne.symm h21, Ne.symm h31, Ne.symm h32]
  refine callP_new (toBigInt_nw r.neg r.m hr.1) fun v gs b o f fr => ?_
  obtain ⟨vm, rfl, om⟩ := own_bi.1 o
  obtain ⟨c1, c2⟩ := om.one
  have e1 : ∀ x, x ∈ gs → x ≠ g1 ∧ x ≠ g2 ∧ x ≠ g3 ∧ bl x = none := fun x hx => by have := f x hx; simp [upd_apply] at this; grind
  have n1 : b g1 = _ := fr g1 fun h => (e1 g1 h).1 rfl
  have n2 : b g2 = _ := fr g2 fun h => (e1 g2 h).2.1 rfl
  have n3 : b g3 = _ := fr g3 fun h => (e1 g3 h).2.2.1 rfl
  simp [h21, h31, h32, Ne.symm h21, Ne.symm h31, Ne.symm h32] at n1 n2 n3
  simp [h21, h31, h32, Ne.symm h21, Ne.symm h31, Ne.symm h32, n1, n2, n3, c1, c2]
  refine callP_new (toIntS_nw r.d hr.2) fun w gw b2 ow f2 fr2 => ?_
  obtain ⟨d1, d2⟩ := ow.one
  have e2 : ∀ x, x ∈ gw → x ≠ g3 ∧ b x = none := fun x hx => by have := f2 x hx; simp [upd_apply] at this; exact this
  have e3 : ∀ x, x ∈ gw → x ∉ gs := fun x hx hx1 => by
    obtain ⟨y, hy⟩ := om.has x hx1
    rw [(e2 x hx).2] at hy; cases hy
  have e4 : ∀ x, x ∈ gw → x ≠ g2 := fun x hx h => by have := (e2 x hx).2; rw [h, n2] at this; cases this
  have m1 : b2 g1 = _ := fr2 g1 fun h => by have := (e2 g1 h).2; rw [n1] at this; cases this
  have m2 : b2 g2 = _ := fr2 g2 fun h => by have := (e2 g2 h).2; rw [n2] at this; cases this
  have m3 : b2 g3 = _ := fr2 g3 fun h => (e2 g3 h).1 rfl
  simp [h21, h31, h32, Ne.symm h21, Ne.symm h31, Ne.symm h32, n1, n2] at m1 m2 m3
  simp [h21, h31, h32, Ne.symm h21, Ne.symm h31, Ne.symm h32, m1, m2, m3, d1, d2, c1]
  have k1 : OwnD b2 (fl 1 (iv r.m)) vm gs := om.frame fun x hx => by
    rw [fr2 x (fun h => e3 x h hx)]
    simp [upd_apply, (e1 x hx).2.2.1]
  have hsub : Sub bl b2 := fun x y hy => by
    have z1 : x ≠ g1 := fun h => by rw [h, hb1] at hy; cases hy
    have z2 : x ≠ g2 := fun h => by rw [h, hb2] at hy; cases hy
    have z3 : x ≠ g3 := fun h => by rw [h, hb3] at hy; cases hy
    have hb : b x = some y := new_keep f fr (by simp [upd_apply, z1, z2, z3, hy])
    exact new_keep f2 fr2 (by simp [upd_apply, z3, hb])
  refine retNW [.agg [.bool r.neg, vm, w]] (gs ++ gw) ?_ ?_ ?_ ?_
  · simp [h21, h31, h32, Ne.symm h21, Ne.symm h31, Ne.symm h32, m1, m2, m3]
  · refine own_rt.2 ⟨vm, w, gs, gw, rfl, rfl, fun x h1 h2 => e3 x h2 h1, ?_, ?_⟩
    · exact k1.frame fun x hx => by simp [upd_apply, (e1 x hx).2.1, (e1 x hx).2.2.1]
    · exact ow.frame fun x hx => by simp [upd_apply, (e2 x hx).1, e4 x hx]
  · intro x hx
    rcases List.mem_append.1 hx with hx | hx
    · exact (e1 x hx).2.2.2
    · refine fresh_of (bl' := b) (fun z y hy => ?_) (e2 x hx).2
      have z1 : z ≠ g1 := fun h => by rw [h, hb1] at hy; cases hy
      have z2 : z ≠ g2 := fun h => by rw [h, hb2] at hy; cases hy
      have z3 : z ≠ g3 := fun h => by rw [h, hb3] at hy; cases hy
      exact new_keep f fr (by simp [upd_apply, z1, z2, z3, hy])
  · simp [hb1, hb2, hb3, hsub]

/-! ### Marks -/
theorem kp_of {bl : Int → Option Blk} {g : Int} (hg : bl g = none) (b : Option Blk) : ∀ x y, bl x = some y → upd bl g b x = some y := fun x y hx => by rw [upd_apply, if_neg (fun e => by rw [e, hg] at hx; cases hx)]; exact hx
theorem markBigInt_cp {bl : Int → Option Blk} {K : V → (Int → Option Blk) → Prop} (neg : Bool) (m : List Int) (k : Nat) (vm : V) (gs : List Int) (h : OwnD bl (fl 1 (iv m)) vm gs) (hk : k + m.length ≤ 4611686018427387000)
    (hK : ∀ bl', OwnD bl' (fl 1 (iv (marks k m.length))) vm gs → (∀ g, g ∉ gs → ∀ b, bl g = some b → bl' g = some b) → K (.int .i64 (k + m.length : Nat)) bl') : CallP Tryz.prog 87 [.agg [.bool neg, vm], .int .i64 k] bl K := by
  obtain ⟨a1, a2⟩ := h.one
  refine callP_of Tryz.func87 rfl rfl (by rw [Tryz.ntmps87]; simp) ?_
  rw [Tryz.ntmps87, Tryz.results87]
  refine AW_run ?_
  simp [a1]
  intro g hg0 hg
  have na : g ∉ gs := h.not hg
  refine markIntS_cp m k vm gs (h.keep fun x _ y hy => kp_of hg _ x y hy) (by omega) fun b1 o1 q1 => ?_
  simp
  rw [retK_ret]
  refine ⟨[_], by simp; rfl, ?_⟩
  have := hK b1 o1 (fun x hx y hy => by rw [q1 x hx]; exact kp_of hg _ x y hy)
  simpa using this
def mkR (k : Nat) (r : RT) : RT := ⟨r.neg, marks k r.m.length, marks (k + r.m.length : Nat) r.d.length⟩
def mkRN (k : Nat) (r : RT) : Nat := k + r.m.length + r.d.length
theorem markRat_cp {bl : Int → Option Blk} {K : V → (Int → Option Blk) → Prop} (r : RT) (k : Nat) (vs : List V) (gs : List Int) (h : OwnL bl (dR r) vs gs) (hk : mkRN k r ≤ 4611686018427387000)
    (hK : ∀ bl', OwnL bl' (dR (mkR k r)) vs gs → (∀ g, g ∉ gs → ∀ b, bl g = some b → bl' g = some b) → K (.int .i64 (mkRN k r : Nat)) bl') : CallP Tryz.prog 34 [.agg vs, .int .i64 k] bl K := by
  obtain ⟨vm, vd, ga, gb, rfl, rfl, hd, h1, h2⟩ := own_rtL.1 h
  obtain ⟨a1, a2⟩ := h1.one
  obtain ⟨b1, b2⟩ := h2.one
  unfold mkRN at hk
  refine callP_of Tryz.func34 rfl rfl (by rw [Tryz.ntmps34]; simp) ?_
  rw [Tryz.ntmps34, Tryz.results34]
  refine AW_run ?_
  simp [a1, b1]
  intro g hg0 hg
  have na : g ∉ ga := h1.not hg
  have nb : g ∉ gb := h2.not hg
  refine markBigInt_cp r.neg r.m k vm ga (h1.keep fun x _ y hy => kp_of hg _ x y hy) (by omega) fun B1 o1 q1 => ?_
  have eg1 : B1 g = some ⟨3, [[.bool r.neg, vm, vd]]⟩ := q1 g na _ (by simp)
  simp [eg1]
  have t1 : (k : Int) + r.m.length = (k + r.m.length : Nat) := by simp
  rw [t1]
  refine markIntS_cp r.d (k + r.m.length : Nat) vd gb (h2.keep fun x hx y hy => q1 x (fun hh => hd x hh hx) y (kp_of hg _ x y hy)) (by omega) fun B2 o2 q2 => ?_
  simp
  rw [retK_ret]
  refine ⟨[_], by simp; rfl, ?_⟩
  have := hK B2 (own_rtL.2 ⟨vm, vd, ga, gb, rfl, rfl, hd, o1.frame fun x hx => q2 x (hd x hx), o2⟩) (fun x hx y hy => by
    simp at hx
    rw [q2 x hx.2]
    exact q1 x hx.1 y (kp_of hg _ x y hy))
  simpa [mkRN] using this
theorem heldBigInt_ro (neg : Bool) (n : Nat) (k : Nat) (hk : k + n ≤ 4611686018427387000) : RO Tryz.prog 88 [.agg [.bool neg, .sl (iv (marks k n))], .int .i64 k] (.int .i64 (k + n : Nat)) := by
  refine ro_of2 Tryz.func88 rfl rfl (by rw [Tryz.ntmps88]; simp) fun bl => ?_
  rw [Tryz.ntmps88, Tryz.results88]
  refine AW_run ?_
  simp
  intro g hg0 hg
  refine callP_ro (heldIntS_ro n k (by omega)) ?_
  simp
  refine ⟨fun h => by omega, fun h => ?_⟩
  exact retRO [_] 0 (by simp; rfl) (by simp [frz, V.cl]) (by simp [hg])
theorem heldRat_ro (r : RT) (k : Nat) (hk : mkRN k r ≤ 4611686018427387000) : RO Tryz.prog 35 [.agg (mkR k r).c, .int .i64 k] (.int .i64 (mkRN k r : Nat)) := by
  unfold mkRN at hk
  refine ro_of2 Tryz.func35 rfl rfl (by rw [Tryz.ntmps35]; simp) fun bl => ?_
  rw [Tryz.ntmps35, Tryz.results35]
  refine AW_run ?_
  simp [RT.c, mkR]
  intro g hg0 hg
  refine callP_ro (heldBigInt_ro r.neg r.m.length k (by omega)) ?_
  simp
  refine ⟨fun h => by omega, fun h => ?_⟩
  have t1 : (k : Int) + r.m.length = (k + r.m.length : Nat) := by simp
  rw [t1]
  refine callP_ro (heldIntS_ro r.d.length (k + r.m.length : Nat) (by omega)) ?_
  simp
  refine ⟨fun h => by omega, fun h => ?_⟩
  exact retRO [_] 0 (by simp; rfl) (by simp [frz, V.cl, mkRN]) (by simp [hg])

/-! ### Spans -/
def dS (s : SP) : List D := dR s.lo ++ (dR s.hi ++ [.c (.bool s.nl), .c (.bool s.nh)])
theorem own_spL {bl : Int → Option Blk} {s : SP} {vs : List V} {gs : List Int} : OwnL bl (dS s) vs gs ↔ ∃ v1 v2 g1 g2, vs = v1 ++ v2 ++ [.bool s.nl, .bool s.nh] ∧ gs = g1 ++ g2 ∧ (∀ g, g ∈ g1 → g ∉ g2) ∧ OwnL bl (dR s.lo) v1 g1 ∧ OwnL bl (dR s.hi) v2 g2 := by
  unfold dS
  constructor
  · intro h
    obtain ⟨v1, v, g1, g, rfl, rfl, hd, h1, h⟩ := own_append.1 h
    obtain ⟨v2, w, g2, g', rfl, rfl, hd2, h2, h⟩ := own_append.1 h
    have := (ownL_c (r := [.bool s.nl, .bool s.nh]) rfl).1 h
    obtain ⟨rfl, rfl⟩ := this
    refine ⟨v1, v2, g1, g2, by simp, by simp, fun x hx h => hd x hx (by simp [h]), h1, h2⟩
  · rintro ⟨v1, v2, g1, g2, rfl, rfl, hd, h1, h2⟩
    refine own_append.2 ⟨v1, v2 ++ [.bool s.nl, .bool s.nh], g1, g2, by simp, rfl, hd, h1, ?_⟩
    refine own_append.2 ⟨v2, _, g2, [], rfl, by simp, fun x hx h => (by cases h), h2, ?_⟩
    exact (ownL_c (r := [.bool s.nl, .bool s.nh]) rfl).2 ⟨rfl, rfl⟩
theorem dS_fz (s : SP) : D.fzL (dS s) = s.c := by simp [dS, dR, D.fzL, D.fz, SP.c]
theorem dSP_dep (s : SP) (n : Nat) : (D.a (dS s)).dep (n + 2) := by rw [D.dep]; exact ⟨by omega, by simp [dS, dR, D.depL, D.dep, fl_dep]⟩
theorem frz_sp {bl : Int → Option Blk} {s : SP} {vs : List V} {gs : List Int} (h : OwnL bl (dS s) vs gs) (n : Nat) : frz bl (n + 2) (.agg vs) = some (.agg s.c) := by
  have h1 : OwnD bl (.a (dS s)) (.agg vs) gs := by rw [OwnD]; exact ⟨vs, rfl, h⟩
  rw [h1.frz (dSP_dep s n), D.fz, dS_fz]

def mkSN (k : Nat) (s : SP) : Nat := mkRN (mkRN k s.lo) s.hi
end Go.Proofs.YthhjmaianlmfpaaGreat.Vm

namespace Go.Proofs.YthhjmaianlmfpaaGreat.Vm
open Go Go.Proofs
set_option linter.unusedSimpArgs false
set_option linter.unusedVariables false

theorem celT_Rat : Tryz.prog.cellsOf 77 = 3 := by kernel_rfl
theorem celT_BigInt : Tryz.prog.cellsOf 75 = 2 := by kernel_rfl
theorem celT_ints : Tryz.prog.cellsOf 43 = 1 := by kernel_rfl
theorem len8 {cs : List V} (h : cs.length = 8) : ∃ a b c d e f g i, cs = [a, b, c, d, e, f, g, i] := by
  match cs, h with
  | [a, b, c, d, e, f, g, i], _ => exact ⟨a, b, c, d, e, f, g, i, rfl⟩
theorem bi_of_co {cs : List V} (h : CO Tryz.prog 75 cs) : ∃ (b : Bool) (m : List Int), cs = [.bool b, .sl (iv m)] ∧ m.length ≤ 17592186043904 := by
  obtain ⟨hl, hf⟩ := co_struct Tryz.underlying75 h
  rw [celT_BigInt] at hl
  obtain ⟨a, b, rfl⟩ := len2 hl
  simp [celT_bool, celT_ints] at hf
  obtain ⟨h0, h1⟩ := hf
  obtain ⟨x, h0⟩ := co_bool Tryz.underlying4 h0
  obtain ⟨m, h1, hm, _⟩ := iv_of_co h1
  cases h0; cases h1
  exact ⟨x, m, rfl, hm⟩
theorem rat_of_co {cs : List V} (h : CO Tryz.prog 77 cs) : ∃ r : RT, cs = r.c ∧ r.le 17592186043904 := by
  obtain ⟨hl, hf⟩ := co_struct Tryz.underlying77 h
  rw [celT_Rat] at hl
  obtain ⟨a, b, c, rfl⟩ := len3 hl
  simp [celT_BigInt, celT_ints] at hf
  obtain ⟨h0, h1⟩ := hf
  obtain ⟨x, m, h0, hm⟩ := bi_of_co h0
  obtain ⟨d, h1, hd, _⟩ := iv_of_co h1
  cases h0; cases h1
  exact ⟨⟨x, m, d⟩, rfl, hm, hd⟩
theorem SP.le_mono {s : SP} {k l : Nat} (h : s.le k) (hkl : k ≤ l) : s.le l := ⟨⟨by have := h.1.1; omega, by have := h.1.2; omega⟩, by have := h.2.1; omega, by have := h.2.2; omega⟩
theorem RT.le_mono {s : RT} {k l : Nat} (h : s.le k) (hkl : k ≤ l) : s.le l := ⟨by have := h.1; omega, by have := h.2; omega⟩

theorem spOk_some {s : SP} (h : spOk s = true) : spBad s = false ∧ ∃ a b, rd s.lo = some a ∧ rd s.hi = some b := by
  unfold spOk at h
  rw [Bool.and_eq_true, Bool.not_eq_true'] at h
  refine ⟨h.1, ?_⟩
  have := h.1
  unfold spBad at this
  rcases e1 : rd s.lo with _ | a
  · rw [e1] at this; cases this
  rcases e2 : rd s.hi with _ | b
  · rw [e1, e2] at this; cases this
  exact ⟨a, b, rfl, rfl⟩

end Go.Proofs.YthhjmaianlmfpaaGreat.Vm
