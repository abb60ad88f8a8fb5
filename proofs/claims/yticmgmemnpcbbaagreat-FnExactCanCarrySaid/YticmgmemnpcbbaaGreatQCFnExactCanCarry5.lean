/- Limbs in the program: order, trimming, sums, differences. -/



import Derived.Test.YticmgmemnpcbbaaGreatQCFnExactCanCarry4

namespace Go.Proofs.YticmgmemnpcbbaaGreat.Vm
open Go Go.Proofs
set_option linter.unusedSimpArgs false
set_option linter.unusedVariables false

theorem lv_get (a i : Nat) (h : i < (lim a).length) : (iv (lim a))[i]? = some [.int .i64 (dg a i : Nat)] := by rw [iv_get _ _ h, lim_at h]

theorem eq_dec (a b : Int) : (a == b) = decide (a = b) := by rw [Bool.eq_iff_iff]; simp
theorem iv_all1 (ns : List Int) : (iv ns).all (fun c => 1 == c.length) = true := by simp [iv]
theorem iv_take (ns : List Int) (n : Nat) : (iv ns).take n = iv (ns.take n) := by simp [iv, List.map_take]
@[simp high] theorem binV_addH (P : Program) (t : TypeId) (a b : Int) : binV P .add t (.int .i64 a) (.int .i64 b) = some (.int .i64 (IntKind.i64.wrap (a + b))) := (rfl)
@[simp high] theorem binV_subH (P : Program) (t : TypeId) (a b : Int) : binV P .sub t (.int .i64 a) (.int .i64 b) = some (.int .i64 (IntKind.i64.wrap (a - b))) := (rfl)
@[simp high] theorem binV_mulH (P : Program) (t : TypeId) (a b : Int) : binV P .mul t (.int .i64 a) (.int .i64 b) = some (.int .i64 (IntKind.i64.wrap (a * b))) := (rfl)
@[simp high] theorem binV_quoH (P : Program) (t : TypeId) (a b : Int) : binV P .quo t (.int .i64 a) (.int .i64 b) = if b = 0 then none else some (.int .i64 (IntKind.i64.wrap (a.tdiv b))) := (rfl)
@[simp high] theorem binV_remH (P : Program) (t : TypeId) (a b : Int) : binV P .rem t (.int .i64 a) (.int .i64 b) = if b = 0 then none else some (.int .i64 (a.tmod b)) := (rfl)
@[simp high] theorem binV_eqlH (P : Program) (t : TypeId) (a b : Int) : binV P .eql t (.int .i64 a) (.int .i64 b) = some (.bool (a == b)) := (rfl)
@[simp high] theorem binV_neqH (P : Program) (t : TypeId) (a b : Int) : binV P .neq t (.int .i64 a) (.int .i64 b) = some (.bool (a != b)) := (rfl)
@[simp high] theorem binV_lssH (P : Program) (t : TypeId) (a b : Int) : binV P .lss t (.int .i64 a) (.int .i64 b) = some (.bool (decide (a < b))) := (rfl)
@[simp high] theorem binV_leqH (P : Program) (t : TypeId) (a b : Int) : binV P .leq t (.int .i64 a) (.int .i64 b) = some (.bool (decide (a ≤ b))) := (rfl)
@[simp high] theorem binV_gtrH (P : Program) (t : TypeId) (a b : Int) : binV P .gtr t (.int .i64 a) (.int .i64 b) = some (.bool (decide (b < a))) := (rfl)
@[simp high] theorem binV_geqH (P : Program) (t : TypeId) (a b : Int) : binV P .geq t (.int .i64 a) (.int .i64 b) = some (.bool (decide (b ≤ a))) := (rfl)

theorem compare_ro (a b : Nat) (ha : (lim a).length ≤ 1048576) (hb : (lim b).length ≤ 1048576) : RO Tryz.prog 100 [.sl (iv (lim a)), .sl (iv (lim b))] (.int .i64 (cmpN a b)) := by
  refine ro_of2 Tryz.func100 rfl rfl (by rw [Tryz.ntmps100]; simp) fun bl => ?_
  rw [Tryz.ntmps100, Tryz.results100]
  refine AW_run ?_
  simp
  refine ⟨fun h => ⟨fun h1 => ?_, fun h1 => ?_⟩, fun h => ?_⟩
  · exact retRO0 (by simp [cmp_len_lt h1]) rfl rfl
  · exact retRO0 (by simp [cmp_len_gt (show (lim b).length < (lim a).length by omega)]) rfl rfl
  have h : (lim a).length = (lim b).length := by omega
  have w0 : IntKind.i64.wrap (((lim a).length : Int) - 1) = ((lim a).length : Int) - 1 := i64_in (by omega) (by omega)
  simp [w0]
  refine AW_for (fun k : Nat => [(0, .sl (iv (lim a))), (1, .sl (iv (lim b))), (5, .int .i64 ((k : Int) - 1))]) (fun _ => bl) (fun k => k ≤ (lim a).length ∧ ∀ j, k ≤ j → dg a j = dg b j) (fun k => k) _ (lim a).length ⟨Nat.le_refl _, fun j hj => by rw [dg_out hj, dg_out (by omega)]⟩ ⟨rfl, by simp, Sub.refl _⟩ ?_
  intro k ⟨hk, hc⟩
  refine AW_run ?_
  simp
  refine ⟨fun h1 => ?_, fun h1 => ?_⟩
  · obtain ⟨m, rfl⟩ : ∃ m, k = m + 1 := ⟨k - 1, by omega⟩
    have hm : m < (lim a).length := by omega
    have hm2 : m < (lim b).length := by omega
    have e1 : ((m + 1 : Nat) : Int) - 1 = m := by omega
    refine AW_quiet mixedO (by kernel_rfl) ?_
    simp [e1, lv_get _ _ hm, lv_get _ _ hm2]
    refine ⟨fun h2 => ?_, fun h2 => ?_⟩
    · exact retRO0 (by simp [cmp_lt h hm (fun j hj => hc j (by omega)) h2]) rfl rfl
    refine AW_quiet mixedO (by kernel_rfl) ?_
    simp [e1, lv_get _ _ hm, lv_get _ _ hm2]
    refine ⟨fun h3 => ?_, fun h3 => ?_⟩
    · exact retRO0 (by simp [cmp_gt h hm (fun j hj => hc j (by omega)) h3]) rfl rfl
    have w1 : IntKind.i64.wrap ((m : Int) - 1) = (m : Int) - 1 := i64_in (by omega) (by omega)
    simp [w1, loopQ_normal]
    refine ⟨m, ⟨by omega, fun j hj => ?_⟩, by omega, rfl, by simp, Sub.refl _⟩
    rcases Nat.lt_or_ge m j with hlt | hge
    · exact hc j (by omega)
    · obtain rfl : j = m := by omega
      omega
  · have : k = 0 := by omega
    subst this
    exact retRO0 (by simp [cmp_eq h fun j => hc j (Nat.zero_le _)]) rfl rfl

theorem trim_ro (ns : List Int) (hd : Dig ns) (hn : ns.length ≤ 1048576) : RO Tryz.prog 238 [.sl (iv ns)] (.sl (iv (lim (val ns)))) := by
  refine ro_of2 Tryz.func238 rfl rfl (by rw [Tryz.ntmps238]; simp) fun bl => ?_
  rw [Tryz.ntmps238, Tryz.results238]
  refine AW_run ?_
  simp
  refine AW_for (fun n : Nat => [(0, .sl (iv (ns.take n)))]) (fun _ => bl) (fun n => n ≤ ns.length ∧ ∀ i (hi : i < ns.length), n ≤ i → ns[i] = 0) (fun n => n) _ ns.length ⟨Nat.le_refl _, fun i hi h => by omega⟩ ⟨rfl, by simp, Sub.refl _⟩ ?_
  intro n ⟨hl, hz⟩
  have hlen : (ns.take n).length = n := by simp; omega
  refine AW_run ?_
  simp
  refine AW_way0 [(0, .sl (iv (ns.take n)))] _ bl 14 (.bool (decide (0 < n) && decide (ns.getD (n - 1) 1 = 0))) ⟨rfl, by simp, Sub.refl _⟩ rfl ?_ ?_
  · simp [hlen]
    refine ⟨fun h => ?_, fun h => by simp [h]⟩
    have w1 : IntKind.i64.wrap ((n : Int) - 1) = ((n - 1 : Nat) : Int) := by rw [i64_in (by omega) (by omega)]; omega
    have h2 : n - 1 < ns.length := by omega
    have q : (iv (ns.take n))[n - 1]? = some [.int .i64 ns[n - 1]] := by rw [iv_get _ _ (by omega)]; simp
    simp [w1, h2, h, q, eq_dec]
  simp
  refine ⟨fun h1 h2 => ?_, fun h1 => ?_⟩
  · have w1 : IntKind.i64.wrap ((n : Int) - 1) = ((n - 1 : Nat) : Int) := by rw [i64_in (by omega) (by omega)]; omega
    simp [Nat.min_eq_left hl, w1, sliV, iv_all1, loopQ_normal]
    refine ⟨n - 1, ⟨by omega, fun i hi h3 => ?_⟩, by omega, rfl, ?_, Sub.refl _⟩
    · rcases Nat.lt_or_ge i n with h4 | h4
      · obtain rfl : i = n - 1 := by omega
        simpa [hi] using h2
      · exact hz i hi h4
    · simp [iv_take, List.take_take]
      try (congr 2; omega)
  · have hz2 : ∀ i (hi : i < ns.length), n = i + 1 → ns[i] ≠ 0 := by
      intro i hi e
      subst e
      have := h1 (by omega)
      simpa [hi] using this
    have := trim_lim hd hl hz hz2
    rw [this]
    exact retRO0 (by simp) rfl rfl

theorem app_set {o : List Int} {i k : Nat} (h : o.length = i) (x z : Int) : (o ++ List.replicate (k + 1) z).set i x = (o ++ [x]) ++ List.replicate k z := by
  subst h
  rw [List.set_append_right _ _ (Nat.le_refl _), Nat.sub_self, List.replicate_succ, List.set_cons_zero, List.append_assoc]; rfl
theorem app_get {o : List Int} {i k : Nat} (h : o.length = i) (z : Int) : (iv (o ++ List.replicate (k + 1) z))[i]? = some [.int .i64 z] := by
  subst h
  rw [iv_get _ _ (by simp)]
  simp
theorem iv_set (ns : List Int) (i : Nat) (x : Int) : (iv ns).set i [.int .i64 x] = iv (ns.set i x) := by simp [iv, List.map_set]
theorem wq {x n : Int} (h0 : 0 ≤ x) (h1 : x ≤ 9223372036854775807) (hn : 0 < n) : IntKind.i64.wrap (x.tdiv n) = x.tdiv n := by
  rw [Int.tdiv_eq_ediv_of_nonneg h0]
  have a1 := Int.ediv_nonneg h0 (by omega : 0 ≤ n)
  have a2 := Int.ediv_le_self n h0
  exact i64_in (by omega) (by omega)
theorem frz_own {bl bl' : Int → Option Blk} {g : Int} {ns : List Int} {n : Nat} (hg0 : 0 ≤ g) (hg : bl g = none) (hb : bl' g = some ⟨1, iv ns⟩) (hn : ns.length = n) : frzL (dropB bl' bl) 1 [.lsl g 1 0 n] = some [.sl (iv ns)] := by
  unfold frzL frzL
  rw [frz_slice hg0 hg hb (by simp [hn]) (iv_cl ns)]
theorem app_set1 {o : List Int} {i : Nat} (h : o.length = i) (x z : Int) : (o ++ [z]).set i x = o ++ [x] := by
  have := app_set (k := 0) h x z
  simpa using this
structure PL where
  i : Nat
  o : List Int
  c : Int
theorem plus_ro (a b : Nat) (ha : (lim a).length ≤ 1048575) (hb : (lim b).length ≤ 1048575) : RO Tryz.prog 271 [.sl (iv (lim a)), .sl (iv (lim b))] (.sl (iv (lim (a + b)))) := by
  refine ro_of2 Tryz.func271 rfl rfl (by rw [Tryz.ntmps271]; simp) fun bl => ?_
  rw [Tryz.ntmps271, Tryz.results271]
  refine AW_runA ?_
  simp
  refine AW_mid (fun p : Nat × Nat => [(0, .sl (iv (lim p.1))), (1, .sl (iv (lim p.2)))]) (fun _ => bl) (fun p => p.1 + p.2 = a + b ∧ (lim p.2).length ≤ (lim p.1).length ∧ (lim p.1).length ≤ 1048575) 55 ?_ ?_
  · refine AW_run ?_
    simp
    refine ⟨fun h => ?_, fun h => ?_⟩
    · rw [midQ_normal]
      exact ⟨(b, a), ⟨Nat.add_comm _ _, by simp only; omega, hb⟩, rfl, by simp, Sub.refl _⟩
    · rw [midQ_normal]
      exact ⟨(a, b), ⟨rfl, by simp only; omega, ha⟩, rfl, by simp, Sub.refl _⟩
  rintro ⟨x, y⟩ ⟨hxy, hle, hx⟩
  simp only at hxy hle hx
  rw [← hxy]
  refine AW_run ?_
  have w0 : IntKind.i64.wrap (((lim x).length : Int) + 1) = (lim x).length + 1 := i64_in (by omega) (by omega)
  simp [w0]
  refine ⟨(lim x).length + 1, by simp, by simp, by omega, by unfold maxLen; omega, fun g hg0 hg => ?_⟩
  have er : List.replicate ((lim x).length + 1) [V.int IntKind.i64 0] = iv (List.replicate ((lim x).length + 1) 0) := by simp [iv]
  simp [er]
  refine AW_for (fun p : PL => [(0, .sl (iv (lim x))), (1, .sl (iv (lim y))), (5, .lsl g 1 0 ((lim x).length + 1)), (6, .int .i64 p.c), (20, .sl (iv (lim x))), (21, .int .i64 (lim x).length), (22, .int .i64 p.i)]) (fun p => upd bl g (some ⟨1, iv (p.o ++ List.replicate ((lim x).length + 1 - p.i) 0)⟩))
    (fun p => p.i ≤ (lim x).length ∧ PlusI x y p.i p.o p.c) (fun p => (lim x).length - p.i) _ ⟨0, [], 0⟩ ⟨Nat.zero_le _, PlusI.start x y⟩ ⟨rfl, by simp, sub_eq (by simp)⟩ ?_
  rintro ⟨i, o, c⟩ ⟨hi, hI⟩
  simp only at hi hI
  have hb1 := hI.x
  have hd1 := dg_lt x i
  have hd2 := dg_lt y i
  have hc0 := hI.c0
  have hc1 := hI.c1
  obtain ⟨k, hk⟩ : ∃ k, (lim x).length + 1 - i = k + 1 := ⟨(lim x).length - i, by omega⟩
  refine AW_run ?_
  simp
  refine ⟨fun h1 => ?_, fun h1 => ?_⟩
  · have w1 : IntKind.i64.wrap ((dg x i : Int) + c) = dg x i + c := i64_in (by omega) (by omega)
    have w2 : IntKind.i64.wrap ((dg x i : Int) + c + dg y i) = dg x i + c + dg y i := i64_in (by omega) (by omega)
    have w3 : IntKind.i64.wrap ((i : Int) + 1) = i + 1 := i64_in (by omega) (by omega)
    simp [lv_get _ _ h1, w1]
    refine ⟨fun h2 => ?_, fun h2 => ?_⟩
    · have w4 := wq (x := (dg x i : Int) + c + dg y i) (n := 1000000000) (by omega) (by omega) (by omega)
      simp [lv_get _ _ h2, w2, w3, w4, hk, app_get hI.len]
      refine ⟨by omega, ?_⟩
      rw [loopQ_normal]
      refine ⟨⟨i + 1, o ++ [((dg x i : Int) + c + dg y i).tmod 1000000000], ((dg x i : Int) + c + dg y i).tdiv 1000000000⟩, ⟨by simp only; omega, hI.next (by omega)⟩, by simp only; omega, rfl, by simp, sub_eq ?_⟩
      rw [iv_set, app_set hI.len]
      have e : (lim x).length + 1 - (i + 1) = k := by omega
      simp [e]
    · have d0 : dg y i = 0 := dg_out (by omega)
      have w4 := wq (x := (dg x i : Int) + c) (n := 1000000000) (by omega) (by omega) (by omega)
      simp [w3, w4, hk, app_get hI.len]
      refine ⟨by omega, ?_⟩
      rw [loopQ_normal]
      refine ⟨⟨i + 1, o ++ [((dg x i : Int) + c).tmod 1000000000], ((dg x i : Int) + c).tdiv 1000000000⟩, ⟨by simp only; omega, hI.next (by omega)⟩, by simp only; omega, rfl, by simp, sub_eq ?_⟩
      rw [iv_set, app_set hI.len]
      have e : (lim x).length + 1 - (i + 1) = k := by omega
      simp [e]
  · have e : i = (lim x).length := by omega
    subst e
    obtain ⟨hD, hv⟩ := hI.impl (Nat.le_refl _) hle
    simp [hk, app_get hI.len]
    have k0 : k = 0 := by omega
    subst k0
    have hg' : bl g = none := hg
    simp [iv_set, app_set1 hI.len]
    refine ⟨by omega, callP_gro 1 bl _ (by simp [hg']) (frz_own hg0 hg' (by simp) (by simp [hI.len])) (trim_ro _ hD (by simp [hI.len]; omega)) ?_⟩
    rw [hv]
    simp
    exact retRO0 (by simp) rfl rfl

end Go.Proofs.YticmgmemnpcbbaaGreat.Vm

namespace Go.Proofs.YticmgmemnpcbbaaGreat.Vm
open Go Go.Proofs
set_option linter.unusedSimpArgs false
set_option linter.unusedVariables false

theorem lim_step {n : Nat} (h : 0 < n) : lim n = ((n % 1000000000 : Nat) : Int) :: lim (n / 1000000000) := lim_pos (by omega)
theorem lim_u64 {N : Nat} (h : N ≤ 18446744073709551615) : (lim N).length ≤ 3 := lim_length_le.2 (Nat.lt_of_le_of_lt h (by decide +kernel))
theorem limbsOf_nw (N : Nat) (hN : N ≤ 18446744073709551615) : NW Tryz.prog 230 [.int .u64 N] (fl 1 (iv (lim N))) := by
  have hL := lim_u64 hN
  refine nw_of Tryz.func230 rfl rfl (by rw [Tryz.ntmps230]; simp) fun bl => ?_
  rw [Tryz.ntmps230, Tryz.results230]
  refine AW_run ?_
  simp
  refine AW_ghost 3 1 (by simp) fun g00 hg00 => ?_
  refine AW_for (fun p : Int × List Int × Nat => [(0, .int .u64 p.2.2), (3, .lsl p.1 1 0 p.2.1.length)]) (fun p => upd bl p.1 (some ⟨1, iv p.2.1⟩)) (fun p => lim N = p.2.1 ++ lim p.2.2 ∧ p.2.2 ≤ 18446744073709551615 ∧ bl p.1 = none ∧ (p.1 < 0 → p.2.1 = [])) (fun p => p.2.2) _ (g00, [], N) ⟨by simp, hN, hg00, fun _ => rfl⟩ ⟨rfl, by simp, sub_eq (by simp [iv])⟩ ?_
  rintro ⟨g, o, n⟩ ⟨hl, hn, hg, h0⟩
  simp only at hl hn hg h0
  have hlo : o.length ≤ 3 := by have := congrArg List.length hl; simp at this; omega
  refine AW_run ?_
  simp
  refine ⟨fun h => ?_, fun h => ?_⟩
  · intro g2 hg2 h2g hb2
    simp [h2g, Ne.symm h2g, appV, elsV, Int.not_lt.2 hg2]
    refine ⟨by omega, fun g3 hg3 hb3 => ?_⟩
    have hb3' : bl g3 = none := by grind
    have m0 : (n : Int).tmod 1000000000 = ((n % 1000000000 : Nat) : Int) := by rw [Int.tmod_eq_emod_of_nonneg (by omega)]; omega
    have q0 : (n : Int).tdiv 1000000000 = ((n / 1000000000 : Nat) : Int) := by rw [Int.tdiv_eq_ediv_of_nonneg (by omega)]; omega
    have w1 : IntKind.i64.wrap ((n : Int) % 1000000000) = (n : Int) % 1000000000 := i64_in (by omega) (by omega)
    have w2 : IntKind.u64.wrap ((n : Int) / 1000000000) = (n : Int) / 1000000000 := IntWalk.u64_in _ ⟨by omega, by omega⟩
    simp [m0, q0, w1, w2]
    rw [loopQ_normal]
    refine ⟨(g3, o ++ [((n % 1000000000 : Nat) : Int)], n / 1000000000), ⟨by rw [hl, lim_step h]; simp, by simp only; omega, hb3', by simp only; omega⟩, by simp only; omega, rfl, by simp, ?_⟩
    rw [iv_append]
    exact sub_put (by rw [iv_takeall]; simp [iv]) (by simp [hg, hb2, h2g])
  · have e : n = 0 := by omega
    subst e
    rw [lim_zero, List.append_nil] at hl
    refine retNW [.lsl g 1 0 o.length] [g] (by simp) ?_ (by simpa using hg) (by simp [hg])
    rw [hl]
    exact own_iv.2 (.inr ⟨g, rfl, rfl, by simp, h0⟩)
theorem limbsOf_ro (N : Nat) (hN : N ≤ 18446744073709551615) : RO Tryz.prog 230 [.int .u64 N] (.sl (iv (lim N))) := by
  have := ro_of_nw 1 (limbsOf_nw N hN) (fl_dep _ _ 0)
  simpa using this

structure ML where
  i : Nat
  o : List Int
  br : Nat
theorem minus_ro (a b : Nat) (hab : b ≤ a) (ha : (lim a).length ≤ 1048575) : RO Tryz.prog 272 [.sl (iv (lim a)), .sl (iv (lim b))] (.sl (iv (lim (a - b)))) := by
  refine ro_of2 Tryz.func272 rfl rfl (by rw [Tryz.ntmps272]; simp) fun bl => ?_
  rw [Tryz.ntmps272, Tryz.results272]
  refine AW_run ?_
  simp
  refine ⟨by omega, by unfold maxLen; omega, fun g hg0 hg => ?_⟩
  have er : List.replicate ((lim a).length) [V.int IntKind.i64 0] = iv (List.replicate ((lim a).length) 0) := by simp [iv]
  simp [er]
  refine AW_for (fun p : ML => [(0, .sl (iv (lim a))), (1, .sl (iv (lim b))), (5, .lsl g 1 0 (lim a).length), (6, .int .i64 p.br), (12, .sl (iv (lim a))), (13, .int .i64 (lim a).length), (14, .int .i64 p.i)]) (fun p => upd bl g (some ⟨1, iv (p.o ++ List.replicate ((lim a).length - p.i) 0)⟩))
    (fun p => p.i ≤ (lim a).length ∧ MinusI a b p.i p.o p.br) (fun p => (lim a).length - p.i) _ ⟨0, [], 0⟩ ⟨Nat.zero_le _, MinusI.start a b⟩ ⟨rfl, by simp, sub_eq (by simp)⟩ ?_
  rintro ⟨i, o, br⟩ ⟨hi, hI⟩
  simp only at hi hI
  have hb1 := hI.x
  have hd1 := dg_lt a i
  have hd2 := dg_lt b i
  have hc1 := hI.c1
  refine AW_run ?_
  simp
  refine ⟨fun h1 => ?_, fun h1 => ?_⟩
  · obtain ⟨k, hk⟩ : ∃ k, (lim a).length - i = k + 1 := ⟨(lim a).length - i - 1, by omega⟩
    have e : (lim a).length - (i + 1) = k := by omega
    have w1 : IntKind.i64.wrap ((dg a i : Int) - br) = dg a i - br := i64_in (by omega) (by omega)
    have w2 : IntKind.i64.wrap ((dg a i : Int) - br - dg b i) = dg a i - br - dg b i := i64_in (by omega) (by omega)
    have w3 : IntKind.i64.wrap ((i : Int) + 1) = i + 1 := i64_in (by omega) (by omega)
    simp [lv_get _ _ h1, w1]
    refine ⟨fun h2 => ?_, fun h2 => ?_⟩
    · simp [lv_get _ _ h2, w2, w3, hk, app_get hI.len]
      refine ⟨fun h3 => ?_, fun h3 => ?_⟩
      · have w4 : IntKind.i64.wrap ((dg a i : Int) - br - dg b i + 1000000000) = dg a i - br - dg b i + 1000000000 := i64_in (by omega) (by omega)
        simp [w4, w3, h1, hk, app_get hI.len]
        rw [loopQ_normal]
        refine ⟨⟨i + 1, o ++ [(dg a i : Int) - br - dg b i + 1000000000], 1⟩, ⟨by simp only; omega, hI.next1 rfl (by omega)⟩, by simp only; omega, rfl, by simp, sub_eq ?_⟩
        rw [iv_set, app_set hI.len]
        simp [e]
      · simp [w3, h1, hk, app_get hI.len]
        rw [loopQ_normal]
        refine ⟨⟨i + 1, o ++ [(dg a i : Int) - br - dg b i], 0⟩, ⟨by simp only; omega, hI.next0 rfl (by omega)⟩, by simp only; omega, rfl, by simp, sub_eq ?_⟩
        rw [iv_set, app_set hI.len]
        simp [e]
    · have d0 : dg b i = 0 := dg_out (by omega)
      simp [w3, hk, app_get hI.len]
      refine ⟨fun h3 => ?_, fun h3 => ?_⟩
      · have w4 : IntKind.i64.wrap ((dg a i : Int) - br + 1000000000) = dg a i - br + 1000000000 := i64_in (by omega) (by omega)
        simp [w4, w3, h1, hk, app_get hI.len]
        rw [loopQ_normal]
        refine ⟨⟨i + 1, o ++ [(dg a i : Int) - br + 1000000000], 1⟩, ⟨by simp only; omega, hI.next1 (x := (dg a i : Int) - br) (by omega) (by omega)⟩, by simp only; omega, rfl, by simp, sub_eq ?_⟩
        rw [iv_set, app_set hI.len]
        simp [e]
      · simp [w3, h1, hk, app_get hI.len]
        rw [loopQ_normal]
        refine ⟨⟨i + 1, o ++ [(dg a i : Int) - br], 0⟩, ⟨by simp only; omega, hI.next0 (x := (dg a i : Int) - br) (by omega) (by omega)⟩, by simp only; omega, rfl, by simp, sub_eq ?_⟩
        rw [iv_set, app_set hI.len]
        simp [e]
  · have e : i = (lim a).length := by omega
    subst e
    have hv := hI.done hab (Nat.le_refl _)
    have hg' : bl g = none := hg
    simp
    refine callP_gro 1 bl _ (by simp [hg']) (frz_own (ns := o) hg0 hg' (by simp) (by simp [hI.len])) (trim_ro _ hI.dig (by simp [hI.len]; omega)) ?_
    simp [hv]
    exact retRO0 (by simp) rfl rfl

end Go.Proofs.YticmgmemnpcbbaaGreat.Vm

namespace Go.Proofs.YticmgmemnpcbbaaGreat.Vm
open Go Go.Proofs
set_option linter.unusedSimpArgs false
set_option linter.unusedVariables false

/-- Trimming a slice of the call's own: a window of it. -/
theorem trim_cp {bl : Int → Option Blk} {K : V → (Int → Option Blk) → Prop} (ns : List Int) (hd : Dig ns) (hn : ns.length ≤ 1048576) (g : Int) (hg0 : 0 ≤ g) (hb : bl g = some ⟨1, iv ns⟩)
    (hK : ∀ m, m ≤ ns.length → ns.take m = lim (val ns) → K (.lsl g 1 0 m) bl) : CallP Tryz.prog 238 [.lsl g 1 0 ns.length] bl K := by
  refine callP_of Tryz.func238 rfl rfl (by rw [Tryz.ntmps238]; simp) ?_
  rw [Tryz.ntmps238, Tryz.results238]
  refine AW_run ?_
  simp
  refine AW_for (fun n : Nat => [(0, .lsl g 1 0 n)]) (fun _ => bl) (fun n => n ≤ ns.length ∧ ∀ i (hi : i < ns.length), n ≤ i → ns[i] = 0) (fun n => n) _ ns.length ⟨Nat.le_refl _, fun i hi h => by omega⟩ ⟨rfl, by simp, Sub.refl _⟩ ?_
  intro n ⟨hl, hz⟩
  refine AW_run ?_
  simp
  refine AW_way0 [(0, .lsl g 1 0 n)] _ bl 14 (.bool (decide (0 < n) && decide (ns.getD (n - 1) 1 = 0))) ⟨rfl, by simp, Sub.refl _⟩ rfl ?_ ?_
  · simp
    refine ⟨fun h => ?_, fun h => by simp [h]⟩
    have w1 : IntKind.i64.wrap ((n : Int) - 1) = ((n - 1 : Nat) : Int) := by rw [i64_in (by omega) (by omega)]; omega
    have h2 : n - 1 < ns.length := by omega
    simp [w1, h2, h, hb, eq_dec]
    omega
  simp
  refine ⟨fun h1 h2 => ?_, fun h1 => ?_⟩
  · have w1 : IntKind.i64.wrap ((n : Int) - 1) = ((n - 1 : Nat) : Int) := by rw [i64_in (by omega) (by omega)]; omega
    simp [w1, sliV, hg0, loopQ_normal]
    refine ⟨n - 1, ⟨by omega, fun i hi h3 => ?_⟩, by omega, rfl, ?_, Sub.refl _⟩
    · rcases Nat.lt_or_ge i n with h4 | h4
      · obtain rfl : i = n - 1 := by omega
        simpa [hi] using h2
      · exact hz i hi h4
    · simp
  · have hz2 : ∀ i (hi : i < ns.length), n = i + 1 → ns[i] ≠ 0 := by
      intro i hi e
      subst e
      have := h1 (by omega)
      simpa [hi] using this
    have := trim_lim hd hl hz hz2
    rw [retK_ret]
    exact ⟨[_], by simp, hK n hl this⟩

theorem frz_win {bl bl' : Int → Option Blk} {g : Int} {ns : List Int} {n : Nat} (hg0 : 0 ≤ g) (hg : bl g = none) (hb : bl' g = some ⟨1, iv ns⟩) (hn : n ≤ ns.length) : frz (dropB bl' bl) 1 (.lsl g 1 0 n) = some (.sl (iv (ns.take n))) := by
  unfold frz
  rw [if_neg (by omega)]
  unfold dropB
  rw [hg]
  simp only [hb]
  rw [if_pos (by simp; exact hn), List.drop_zero, iv_take, if_pos (iv_cl _)]
structure TL where
  i : Nat
  j : Nat
  O : List Int
  c : Nat
theorem times_cp {bl : Int → Option Blk} {K : V → (Int → Option Blk) → Prop} (a b : Nat) (ha : (lim a).length ≤ 400000) (hb : (lim b).length ≤ 400000) (ha0 : a ≠ 0) (hb0 : b ≠ 0)
    (hK : ∀ g O, 0 ≤ g → bl g = none → (lim (a * b)).length ≤ O.length → O.take (lim (a * b)).length = lim (a * b) → K (.lsl g 1 0 (lim (a * b)).length) (upd bl g (some ⟨1, iv O⟩))) : CallP Tryz.prog 228 [.sl (iv (lim a)), .sl (iv (lim b))] bl K := by
  have la : (lim a).length ≠ 0 := fun h => ha0 (lim_nil.1 (List.length_eq_zero_iff.1 h))
  have lb : (lim b).length ≠ 0 := fun h => hb0 (lim_nil.1 (List.length_eq_zero_iff.1 h))
  refine callP_of Tryz.func228 rfl rfl (by rw [Tryz.ntmps228]; simp) ?_
  rw [Tryz.ntmps228, Tryz.results228]
  refine AW_run ?_
  simp
  refine AW_way0 [(0, .sl (iv (lim a))), (1, .sl (iv (lim b)))] _ bl 19 (.bool false) ⟨rfl, by simp, Sub.refl _⟩ rfl ?_ ?_
  · have na : lim a ≠ [] := fun h => la (by rw [h]; rfl)
    have nb : lim b ≠ [] := fun h => lb (by rw [h]; rfl)
    simp [na, nb]
  have w0 : IntKind.i64.wrap (((lim a).length : Int) + (lim b).length) = (lim a).length + (lim b).length := i64_in (by omega) (by omega)
  simp [w0]
  refine ⟨(lim a).length + (lim b).length, by simp, by simp, by omega, by unfold maxLen; omega, fun g hg0 hg => ?_⟩
  have er : List.replicate ((lim a).length + (lim b).length) [V.int IntKind.i64 0] = iv (List.replicate ((lim a).length + (lim b).length) 0) := by simp [iv]
  simp [er]
  refine AW_for (fun p : TL => [(0, .sl (iv (lim a))), (1, .sl (iv (lim b))), (5, .lsl g 1 0 ((lim a).length + (lim b).length)), (26, .sl (iv (lim a))), (27, .int .i64 (lim a).length), (28, .int .i64 p.i)]) (fun p => upd bl g (some ⟨1, iv p.O⟩))
    (fun p => p.i ≤ (lim a).length ∧ TimesI a b p.i 0 p.O 0) (fun p => (lim a).length - p.i) _ ⟨0, 0, _, 0⟩ ⟨Nat.zero_le _, TimesI.start a b⟩ ⟨rfl, by simp, sub_eq (by simp)⟩ ?_
  rintro ⟨i, j0, O, c0⟩ ⟨hi, hI⟩
  simp only at hi hI
  refine AW_run ?_
  simp
  refine ⟨fun h1 => ?_, fun h1 => ?_⟩
  · simp [lv_get _ _ h1]
    refine AW_for (fun p : TL => [(0, .sl (iv (lim a))), (1, .sl (iv (lim b))), (5, .lsl g 1 0 ((lim a).length + (lim b).length)), (6, .int .i64 i), (7, .int .i64 (dg a i : Nat)), (8, .int .i64 p.c), (26, .sl (iv (lim a))), (27, .int .i64 (lim a).length), (28, .int .i64 i), (33, .sl (iv (lim b))), (34, .int .i64 (lim b).length), (35, .int .i64 p.j)]) (fun p => upd bl g (some ⟨1, iv p.O⟩))
      (fun p => p.j ≤ (lim b).length ∧ TimesI a b i p.j p.O p.c) (fun p => (lim b).length - p.j) _ ⟨i, 0, O, 0⟩ ⟨Nat.zero_le _, hI⟩ ⟨rfl, by simp, sub_eq (by simp)⟩ ?_
    rintro ⟨i', j, O, c⟩ ⟨hj, hJ⟩
    simp only at hj hJ
    have hlen := hJ.len
    refine AW_run ?_
    simp
    refine ⟨fun h2 => ?_, fun h2 => ?_⟩
    · have hk : i + j < O.length := by omega
      obtain ⟨n1, n2, n3, hN⟩ := hJ.next h1 h2 hk
      have w1 : IntKind.i64.wrap ((i : Int) + j) = (i : Int) + j := i64_in (by omega) (by omega)
      have p1 : 0 ≤ (i : Int) + j := by omega
      have p2 : (i : Int) + j < (lim a).length + (lim b).length := by omega
      have p3 : ((i : Int) + j).toNat = i + j := by omega
      have w3 : IntKind.i64.wrap ((j : Int) + 1) = j + 1 := i64_in (by omega) (by omega)
      have hm : 0 ≤ (dg a i : Int) * dg b j ∧ (dg a i : Int) * dg b j < 1000000000000000000 := by
        have hO := hJ.dig.at hk
        have e : 0 ≤ (dg a i : Int) * dg b j := by rw [← Int.natCast_mul]; omega
        exact ⟨e, by omega⟩
      have hO := hJ.dig.at hk
      have w4 : IntKind.i64.wrap ((dg a i : Int) * dg b j) = (dg a i : Int) * dg b j := i64_in (by omega) (by omega)
      have w5 : IntKind.i64.wrap (O[i + j] + (dg a i : Int) * dg b j) = O[i + j] + (dg a i : Int) * dg b j := i64_in (by omega) (by omega)
      have w6 : IntKind.i64.wrap (O[i + j] + (dg a i : Int) * dg b j + c) = O[i + j] + (dg a i : Int) * dg b j + c := i64_in (by omega) (by omega)
      have w7 := wq (x := O[i + j] + (dg a i : Int) * dg b j + c) (n := 1000000000) n3 (by omega) (by omega)
      simp [lv_get _ _ h2, w1, w3, w4, w5, w6, w7, p1, p2, p3, hk]
      rw [loopQ_normal]
      obtain ⟨c', hc'⟩ : ∃ c' : Nat, (O[i + j] + (dg a i : Int) * dg b j + c).tdiv 1000000000 = c' := ⟨((O[i + j] + (dg a i : Int) * dg b j + c).tdiv 1000000000).toNat, by omega⟩
      refine ⟨⟨i, j + 1, O.set (i + j) ((O[i + j] + (dg a i : Int) * dg b j + c).tmod 1000000000), c'⟩, ⟨by simp only; omega, ?_⟩, by simp only; omega, rfl, by simp [hc'], sub_eq ?_⟩
      · rw [hc'] at hN; exact hN
      · rw [iv_set]
    · have e : j = (lim b).length := by omega
      have hk : i + (lim b).length < O.length := by omega
      have hR := hJ.row h1 (by omega) hj hk
      have w1 : IntKind.i64.wrap ((i : Int) + (lim b).length) = (i : Int) + (lim b).length := i64_in (by omega) (by omega)
      have p1 : 0 ≤ (i : Int) + (lim b).length := by omega
      have p2 : (i : Int) + (lim b).length < (lim a).length + (lim b).length := by omega
      have p3 : ((i : Int) + (lim b).length).toNat = i + (lim b).length := by omega
      have w3 : IntKind.i64.wrap ((i : Int) + 1) = i + 1 := i64_in (by omega) (by omega)
      simp [w1, w3, p1, p2, p3, hk]
      rw [loopQ_normal]
      refine ⟨⟨i + 1, 0, O.set (i + (lim b).length) c, 0⟩, ⟨by simp only; omega, hR⟩, by simp only; omega, rfl, by simp, sub_eq ?_⟩
      rw [iv_set]
  · have hv := hI.done (c := 0) (by omega)
    have hlen := hI.len
    have hg' : bl g = none := by simpa using hg
    have e : ((lim a).length + (lim b).length : Nat) = O.length := hlen.symm
    rw [e]
    refine trim_cp O hI.dig (by omega) g hg0 (by simp) fun m hm ht => ?_
    rw [hv] at ht
    have hml : m = (lim (a * b)).length := by rw [← ht]; simp; omega
    subst hml
    simp
    rw [retK_ret]
    exact ⟨[_], by simp, hK g O hg0 hg' hm ht⟩
theorem times_ro (a b : Nat) (ha : (lim a).length ≤ 400000) (hb : (lim b).length ≤ 400000) : RO Tryz.prog 228 [.sl (iv (lim a)), .sl (iv (lim b))] (.sl (iv (lim (a * b)))) := by
  by_cases h0 : a = 0 ∨ b = 0
  · have hz : a * b = 0 := Nat.mul_eq_zero.2 h0
    rw [hz, lim_zero]
    refine ro_of2 Tryz.func228 rfl rfl (by rw [Tryz.ntmps228]; simp) fun bl => ?_
    rw [Tryz.ntmps228, Tryz.results228]
    refine AW_run ?_
    simp
    refine AW_way0 [(0, .sl (iv (lim a))), (1, .sl (iv (lim b)))] _ bl 19 (.bool true) ⟨rfl, by simp, Sub.refl _⟩ rfl ?_ ?_
    · simp
      rcases h0 with h0 | h0
      · simp [h0, lim_zero]
      · simp [h0, lim_zero]
    simp
    exact retRO [.nils] 0 (by simp) rfl (Sub.refl _)
  · intro bl
    refine callP_frz (times_cp a b ha hb (by omega) (by omega) fun g O hg0 hg hl ht => ⟨1, ?_, by simp [hg]⟩) ⟨rfl, rfl⟩
    have := frz_win (bl' := upd bl g (some ⟨1, iv O⟩)) hg0 hg (by simp) hl
    rw [ht] at this
    exact this

structure SL where
  i : Nat
  Q : List Int
  r : Int
theorem overSmall_ro (a b : Nat) (ha : (lim a).length ≤ 1048576) (hb0 : 0 < b) (hb : b < 1000000000) : RO Tryz.prog 235 [.sl (iv (lim a)), .int .i64 b] (.tup [.sl (iv (lim (a / b))), .int .i64 (a % b : Nat)]) := by
  refine ro_of2 Tryz.func235 rfl rfl (by rw [Tryz.ntmps235]; simp) fun bl => ?_
  rw [Tryz.ntmps235, Tryz.results235]
  refine AW_run ?_
  simp
  refine ⟨by omega, by unfold maxLen; omega, fun g hg0 hg => ?_⟩
  have er : List.replicate ((lim a).length) [V.int IntKind.i64 0] = iv (List.replicate ((lim a).length) 0) := by simp [iv]
  have w0 : IntKind.i64.wrap (((lim a).length : Int) - 1) = ((lim a).length : Int) - 1 := i64_in (by omega) (by omega)
  simp [er, w0]
  refine AW_for (fun p : SL => [(0, .sl (iv (lim a))), (1, .int .i64 b), (6, .lsl g 1 0 (lim a).length), (7, .int .i64 p.r), (8, .int .i64 ((p.i : Int) - 1))]) (fun p => upd bl g (some ⟨1, iv (List.replicate p.i 0 ++ p.Q)⟩))
    (fun p => 0 ≤ p.r ∧ DivI a b p.i p.Q p.r.toNat) (fun p => p.i) _ ⟨(lim a).length, [], 0⟩ ⟨Int.le_refl _, DivI.start a b hb0⟩ ⟨rfl, by simp, sub_eq (by simp)⟩ ?_
  rintro ⟨i, Q, r⟩ ⟨hr0, hI⟩
  simp only at hr0 hI
  have hr := hI.rlt
  have hle := hI.le
  have hql := hI.len
  refine AW_run ?_
  simp [-binV, -intV]
  refine ⟨fun h1 => ?_, fun h1 => ?_⟩
  · obtain ⟨m, rfl⟩ : ∃ m, i = m + 1 := ⟨i - 1, by omega⟩
    have hm : m < (lim a).length := by omega
    have hd := dg_lt a m
    obtain ⟨z, hz⟩ : ∃ z, z = r.toNat * 1000000000 + dg a m := ⟨_, rfl⟩
    have hN := hI.next (q := z / b) (r' := z % b) (by rw [hz]) (by rw [hz])
    have e1 : ((m + 1 : Nat) : Int) - 1 = m := by omega
    have w1 : IntKind.i64.wrap (r * 1000000000) = r * 1000000000 := i64_in (by omega) (by omega)
    have w2 : IntKind.i64.wrap (r * 1000000000 + dg a m) = z := by rw [i64_in (by omega) (by omega)]; omega
    have hz2 : z ≤ 9223372036854775807 := by omega
    simp [-binV, -intV, e1, lv_get _ _ hm, w1, w2]
    clear w1 w2 hz
    have b0 : ¬ b = 0 := by omega
    have hg' : bl g = none := by simpa using hg
    have w3 := wq (x := (z : Int)) (n := b) (by omega) (by omega) (by omega)
    have w4 : (z : Int).tdiv b = (z / b : Nat) := by rw [Int.tdiv_eq_ediv_of_nonneg (by omega)]; simp
    have w5 : (z : Int).tmod b = (z % b : Nat) := by rw [Int.tmod_eq_emod_of_nonneg (by omega)]; simp
    rw [w4] at w3
    have w3' : IntKind.i64.wrap ((z : Int) / b) = (z : Int) / b := by simpa using w3
    refine ⟨by omega, AW_mixedB mixedO bl (by simp [hg']) [0, 1, 2, 3, 4, 5, 6, 7, 8] 2 (by kernel_rfl) ?_⟩
    simp [-binV, -intV, w3', w4, w5, hm, b0]
    have q : (iv (List.replicate (m + 1) 0 ++ Q))[m]? = some [.int .i64 0] := by rw [iv_get _ _ (by simp; omega)]; simp
    have w6 : IntKind.i64.wrap ((m : Int) - 1) = (m : Int) - 1 := i64_in (by omega) (by omega)
    refine DAny_one (i := 9) (by kernel_rfl) rfl rfl ?_
    simp [-binV, -intV, q, hg']
    refine DAny_one (i := 10) (by kernel_rfl) rfl rfl ?_
    simp [-binV, -intV, hg']
    refine DAny_done (by kernel_rfl) ?_
    simp [-binV, -intV, w6, loopQ_normal]
    refine ⟨⟨m, ((z / b : Nat) : Int) :: Q, (z % b : Nat)⟩, ⟨by simp only; omega, by show DivI a b m _ (((z % b : Nat) : Int)).toNat; rw [Int.toNat_natCast]; exact hN⟩, by simp only; omega, rfl, by simp, sub_eq ?_⟩
    rw [← fill_set m _ 0 Q, ← iv_set]
    simp
  · have e : i = 0 := by omega
    subst e
    obtain ⟨h2, h3⟩ := hI.done
    have h4 : r = (a % b : Nat) := by omega
    have hg' : bl g = none := by simpa using hg
    simp
    refine callP_gro 1 bl _ (by simp [hg']) (frz_own (ns := Q) hg0 hg' (by simp) (by simp [hql])) (trim_ro _ hI.dig (by omega)) ?_
    simp [h2, h4]
    exact retRO [.sl (iv (lim (a / b))), .int .i64 (a % b : Nat)] 1 (by simp) rfl (by simp)

end Go.Proofs.YticmgmemnpcbbaaGreat.Vm

namespace Go.Proofs.YticmgmemnpcbbaaGreat.Vm
open Go Go.Proofs
set_option linter.unusedSimpArgs false
set_option linter.unusedVariables false

structure KL where
  i : Nat
  O : List Int
  c : Int
theorem take_cp {bl : Int → Option Blk} {K : V → (Int → Option Blk) → Prop} (u : List Int) (V0 g j n m : Nat) (gu : Int) (hgu : 0 ≤ gu) (hb : bl gu = some ⟨1, iv u⟩) (hu : Dig u) (hn : (lim V0).length = n) (hm : j + m = u.length) (hnm : n < m) (hg : g < 1000000000) (hul : u.length ≤ 1048576)
    (hK : ∀ (O : List Int) (c : Nat) (hk : j + n < O.length), TakeI u V0 g j n O c → K (.bool (decide (O[j + n] - c < 0))) (upd bl gu (some ⟨1, iv (O.set (j + n) (O[j + n] - c))⟩))) :
    CallP Tryz.prog 236 [.lsl gu 1 j m, .sl (iv (lim V0)), .int .i64 g] bl K := by
  have hu0 : upd bl gu (some ⟨1, iv u⟩) = bl := by
    funext x; simp only [upd_apply]; split
    · rename_i h; rw [h, hb]
    · rfl
  refine callP_of Tryz.func236 rfl rfl (by rw [Tryz.ntmps236]; simp) ?_
  rw [Tryz.ntmps236, Tryz.results236]
  refine AW_run ?_
  simp [hn]
  refine AW_for (fun p : KL => [(0, .lsl gu 1 j m), (1, .sl (iv (lim V0))), (2, .int .i64 g), (7, .int .i64 p.c), (11, .sl (iv (lim V0))), (12, .int .i64 n), (13, .int .i64 p.i)]) (fun p => upd bl gu (some ⟨1, iv p.O⟩))
    (fun p => p.i ≤ n ∧ 0 ≤ p.c ∧ TakeI u V0 g j p.i p.O p.c.toNat) (fun p => n - p.i) _ ⟨0, u, 0⟩ ⟨Nat.zero_le _, Int.le_refl _, TakeI.start V0 g j hu⟩ ⟨rfl, by simp, sub_eq (by rw [hu0])⟩ ?_
  rintro ⟨i, O, c⟩ ⟨hi, hc0, hI⟩
  simp only at hi hc0 hI
  have hc1 := hI.c1
  have hlen := hI.len
  refine AW_run ?_
  simp [-binV, -intV]
  refine ⟨fun h1 => ?_, fun h1 => ?_⟩
  · have hv : i < (lim V0).length := by omega
    have hk : j + i < O.length := by omega
    have hO := hI.dig.at hk
    obtain ⟨m0, m1⟩ := hI.x hg hk
    have w3 : IntKind.i64.wrap ((i : Int) + 1) = i + 1 := i64_in (by omega) (by omega)
    have w1 : IntKind.i64.wrap ((g : Int) * dg V0 i) = (g : Int) * dg V0 i := i64_in (by omega) (by omega)
    have w2 : IntKind.i64.wrap (O[j + i] - (g : Int) * dg V0 i) = O[j + i] - (g : Int) * dg V0 i := i64_in (by omega) (by omega)
    have w4 : IntKind.i64.wrap (O[j + i] - (g : Int) * dg V0 i - c) = O[j + i] - (g : Int) * dg V0 i - c := i64_in (by omega) (by omega)
    have him : (i : Int) < m := by omega
    obtain ⟨x, hx⟩ : ∃ x, x = O[j + i] - (g : Int) * dg V0 i - c := ⟨_, rfl⟩
    have hx' : x = O[j + i] - (g : Int) * dg V0 i - (c.toNat : Int) := by rw [hx]; omega
    have wx : IntKind.i64.wrap x = x := i64_in (by omega) (by omega)
    have w5 : IntKind.i64.wrap (999999999 - x) = 999999999 - x := i64_in (by omega) (by omega)
    have key : x < 0 → 0 ≤ (999999999 - x).tdiv 1000000000 ∧ (999999999 - x).tdiv 1000000000 < 1000000000 ∧ TakeI u V0 g j (i + 1) (O.set (j + i) (x + (999999999 - x).tdiv 1000000000 * 1000000000)) ((999999999 - x).tdiv 1000000000).toNat := fun h => hI.next1 hg hk hx' h (by simp)
    obtain ⟨y, hy⟩ : ∃ y, y = (999999999 - x).tdiv 1000000000 := ⟨_, rfl⟩
    rw [← hy] at key
    simp [-binV, -intV, lv_get _ _ hv, w1, w2, w4, hk, him, ← hx, wx, w3, w5, ← hy]
    refine ⟨fun h3 => ?_, fun h3 => ?_⟩
    · obtain ⟨k1, k2, k3⟩ := key h3
      have w6 : IntKind.i64.wrap y = y := i64_in (by omega) (by omega)
      have w7 : IntKind.i64.wrap (y * 1000000000) = y * 1000000000 := i64_in (by omega) (by omega)
      have w8 : IntKind.i64.wrap (x + y * 1000000000) = x + y * 1000000000 := by
        have := k3.dig.at (k := j + i) (by simpa using hk)
        rw [List.getElem_set_self] at this
        exact i64_in (by omega) (by omega)
      simp [-binV, -intV, w6, w7, w8]
      rw [loopQ_normal]
      refine ⟨⟨i + 1, O.set (j + i) (x + y * 1000000000), y⟩, ⟨by simp only; omega, k1, k3⟩, by simp only; omega, rfl, by simp, sub_eq ?_⟩
      rw [iv_set]
    · rw [loopQ_normal]
      refine ⟨⟨i + 1, O.set (j + i) x, 0⟩, ⟨by simp only; omega, Int.le_refl _, hI.next0 hg hk hx' (by omega)⟩, by simp only; omega, rfl, by simp, sub_eq ?_⟩
      rw [iv_set]
  · have e : i = n := by omega
    subst e
    have hk : j + i < O.length := by omega
    have hO := hI.dig.at hk
    obtain ⟨c', rfl⟩ : ∃ c' : Nat, c = c' := ⟨c.toNat, by omega⟩
    have w1 : IntKind.i64.wrap (O[j + i] - (c' : Int)) = O[j + i] - (c' : Int) := i64_in (by omega) (by omega)
    have him : (i : Int) < m := by omega
    simp [-binV, -intV, hn, him, hk, w1]
    refine ⟨hnm, ?_⟩
    rw [retK_ret]
    refine ⟨[.bool (decide (O[j + i] - (c' : Int) < 0))], by simp, ?_⟩
    have := hK O c' hk (by simpa using hI)
    rw [← iv_set] at this
    exact this

theorem give_cp {bl : Int → Option Blk} {K : V → (Int → Option Blk) → Prop} (O : List Int) (t : Int) (V0 j n m : Nat) (gu : Int) (hgu : 0 ≤ gu) (hk : j + n < O.length) (hb : bl gu = some ⟨1, iv (O.set (j + n) t)⟩) (hO : Dig O) (hn : (lim V0).length = n) (hm : j + m = O.length) (ht : -1000000000 ≤ t ∧ t ≤ 1000000000) (hul : O.length ≤ 1048576)
    (hK : ∀ (v : V) (W : List Int) (d : Nat) (hk2 : j + n < W.length), GiveI O V0 j n W d → K v (upd bl gu (some ⟨1, iv (W.set (j + n) (t + d))⟩))) :
    CallP Tryz.prog 237 [.lsl gu 1 j m, .sl (iv (lim V0))] bl K := by
  have hu0 : upd bl gu (some ⟨1, iv (O.set (j + n) t)⟩) = bl := by
    funext x; simp only [upd_apply]; split
    · rename_i h; rw [h, hb]
    · rfl
  refine callP_of Tryz.func237 rfl rfl (by rw [Tryz.ntmps237]; simp) ?_
  rw [Tryz.ntmps237, Tryz.results237]
  refine AW_run ?_
  simp [hn]
  refine AW_for (fun p : KL => [(0, .lsl gu 1 j m), (1, .sl (iv (lim V0))), (4, .int .i64 p.c), (8, .sl (iv (lim V0))), (9, .int .i64 n), (10, .int .i64 p.i)]) (fun p => upd bl gu (some ⟨1, iv (p.O.set (j + n) t)⟩))
    (fun p => p.i ≤ n ∧ 0 ≤ p.c ∧ GiveI O V0 j p.i p.O p.c.toNat) (fun p => n - p.i) _ ⟨0, O, 0⟩ ⟨Nat.zero_le _, Int.le_refl _, GiveI.start V0 j hO⟩ ⟨rfl, by simp, sub_eq (by rw [hu0])⟩ ?_
  rintro ⟨i, W, c⟩ ⟨hi, hc0, hI⟩
  simp only at hi hc0 hI
  have hc1 := hI.c1
  have hlen := hI.len
  refine AW_run ?_
  simp
  refine ⟨fun h1 => ?_, fun h1 => ?_⟩
  · have hv : i < (lim V0).length := by omega
    have hki : j + i < W.length := by omega
    have hne : j + n ≠ j + i := by omega
    have hd := dg_lt V0 i
    have hW := hI.dig.at hki
    obtain ⟨n1, n2, n3, hN⟩ := hI.next hki
    have ec : ((c.toNat : Nat) : Int) = c := by omega
    rw [ec] at n1 n2 n3 hN
    have q : (iv (W.set (j + n) t))[j + i]? = some [.int .i64 W[j + i]] := by rw [iv_get _ _ (by simpa using hki), List.getElem_set_ne hne]
    have w3 : IntKind.i64.wrap ((i : Int) + 1) = i + 1 := i64_in (by omega) (by omega)
    have w1 : IntKind.i64.wrap (W[j + i] + (dg V0 i : Int)) = W[j + i] + (dg V0 i : Int) := i64_in (by omega) (by omega)
    have w2 : IntKind.i64.wrap (W[j + i] + (dg V0 i : Int) + c) = W[j + i] + (dg V0 i : Int) + c := i64_in (by omega) (by omega)
    have w4 := wq (x := W[j + i] + (dg V0 i : Int) + c) (n := 1000000000) n1 (by omega) (by omega)
    have him : (i : Int) < m := by omega
    simp [-iv_get, lv_get _ _ hv, q, w1, w2, w3, w4, him]
    rw [loopQ_normal]
    refine ⟨⟨i + 1, W.set (j + i) ((W[j + i] + (dg V0 i : Int) + c).tmod 1000000000), (W[j + i] + (dg V0 i : Int) + c).tdiv 1000000000⟩, ⟨by simp only; omega, n3, hN⟩, by simp only; omega, rfl, by simp, sub_eq ?_⟩
    rw [iv_set, List.set_comm _ _ hne]
  · have e : i = n := by omega
    subst e
    have hki : j + i < W.length := by omega
    obtain ⟨c', rfl⟩ : ∃ c' : Nat, c = c' := ⟨c.toNat, by omega⟩
    have w1 : IntKind.i64.wrap (t + (c' : Int)) = t + (c' : Int) := i64_in (by omega) (by omega)
    have him : (i : Int) < m := by omega
    have q : (iv (W.set (j + i) t))[j + i]? = some [.int .i64 t] := by rw [iv_get _ _ (by simpa using hki), List.getElem_set_self]
    simp [-iv_get, hn, him, hki, q, w1]
    refine ⟨by omega, ?_⟩
    rw [retK_normal]
    refine ⟨[], rfl, ?_⟩
    have := hK (retV []) W c' hki (by simpa using hI)
    rw [iv_set, List.set_set]
    exact this

end Go.Proofs.YticmgmemnpcbbaaGreat.Vm

namespace Go.Proofs.YticmgmemnpcbbaaGreat.Vm
open Go Go.Proofs
set_option linter.unusedSimpArgs false
set_option linter.unusedVariables false

/-! ### Clones -/
theorem Clone_ints_nw (a : List Int) (ha : a.length ≤ 1048576) : NW Tryz.prog 174 [.sl (iv a)] (fl 1 (iv a)) := by
  cases a with
  | nil =>
    intro bl
    refine callP_nilsplit ?_ ?_
    · refine callP_made ?_
      refine callP_of Tryz.func174 rfl rfl (by rw [Tryz.ntmps174]; simp) ?_
      rw [Tryz.ntmps174, Tryz.results174]
      refine AW_run ?_
      simp
      exact retNW [.nils] [] rfl (own_iv.2 (.inl ⟨rfl, rfl, rfl⟩)) (by simp) (Sub.refl _)
    · refine callP_made ?_
      refine callP_of Tryz.func174 rfl rfl (by rw [Tryz.ntmps174]; simp) ?_
      rw [Tryz.ntmps174, Tryz.results174]
      refine AW_run ?_
      simp
      intro g hg0 hg
      simp [appV, elsV]
      intro g' hb'
      refine retNW [.lsl g' 1 0 0] [g'] (by simp) (own_iv.2 (.inr ⟨g', rfl, rfl, by simp [iv], fun _ => rfl⟩)) ?_ ?_
      · simp; grind
      · have : bl g' = none := by grind
        simp [hg, this]
  | cons x a =>
    simp only [List.length_cons] at ha
    refine nw_of Tryz.func174 rfl rfl (by rw [Tryz.ntmps174]; simp) fun bl => ?_
    rw [Tryz.ntmps174, Tryz.results174]
    refine AW_run ?_
    simp [iv]
    intro g hg0 hg
    simp [appV, elsV]
    refine ⟨by omega, fun g' hg' hb' => ?_⟩
    have hbn : bl g' = none := by grind
    refine retNW [.lsl g' 1 0 (a.length + 1)] [g'] (by simp) ?_ (by simpa using hbn) (by simp [hg, hbn])
    exact (own_iv (ns := x :: a)).2 (.inr ⟨g', by simp, rfl, by simp [iv], by omega⟩)
theorem Clone_ints_ro (a : List Int) (ha : a.length ≤ 1048576) : RO Tryz.prog 174 [.sl (iv a)] (.sl (iv a)) := by
  have := ro_of_nw 1 (Clone_ints_nw a ha) (fl_dep _ _ 0)
  simpa using this

end Go.Proofs.YticmgmemnpcbbaaGreat.Vm

namespace Go.Proofs.YticmgmemnpcbbaaGreat.Vm
open Go Go.Proofs
set_option linter.unusedSimpArgs false
set_option linter.unusedVariables false

theorem cmpN_lt {a b : Nat} : cmpN a b < 0 ↔ a < b := by unfold cmpN; split <;> (try split) <;> omega
theorem len1 {b : Nat} (h : (lim b).length = 1) : dg b 0 = b ∧ b < 1000000000 ∧ 0 < b := by
  have h1 := pv_succ b 0
  rw [pv_out (by omega)] at h1
  have h2 := dg_lt b 0
  have h3 : b ≠ 0 := fun h0 => by rw [h0, lim_zero] at h; simp at h
  simp at h1
  omega
/-- The factor that the divisor is taken by. -/
theorem factor {d : Nat} (h0 : 0 < d) (h1 : d < 1000000000) : 1 ≤ 1000000000 / (d + 1) ∧ 1000000000 / (d + 1) < 1000000000 ∧ 1000000000 / (d + 1) * (d + 1) ≤ 1000000000 := by
  refine ⟨?_, ?_, Nat.div_mul_le_self _ _⟩
  · rw [Nat.le_div_iff_mul_le (by omega)]; omega
  · exact Nat.div_lt_self (by omega) (by omega)
theorem lim_one {f : Nat} (h0 : 0 < f) (h1 : f < 1000000000) : lim f = [(f : Int)] := by
  rw [lim_pos (by omega), show f / LB = 0 from Nat.div_eq_of_lt h1, lim_zero, show f % LB = f from Nat.mod_eq_of_lt h1]
theorem len_by {b f n : Nat} (hn : (lim b).length = n + 1) (hf : f * (dg b n + 1) ≤ LB) (hf0 : 0 < f) : (lim (b * f)).length = n + 1 := by
  have h1 := lim_length_mono (a := b) (b := b * f) (Nat.le_mul_of_pos_right _ hf0)
  have h2 : (lim (b * f)).length ≤ n + 1 := by
    refine lim_length_le.2 ?_
    have e := pv_succ b n
    rw [pv_out (by omega)] at e
    have hl := pv_lt b n
    have h3 : b + 1 ≤ LB ^ n * (dg b n + 1) := by rw [Nat.mul_add]; omega
    have h4 : (b + 1) * f ≤ LB ^ n * (dg b n + 1) * f := Nat.mul_le_mul_right _ h3
    have h5 : LB ^ n * (dg b n + 1) * f ≤ LB ^ n * LB := by
      rw [Nat.mul_assoc, Nat.mul_comm (dg b n + 1)]; exact Nat.mul_le_mul_left _ hf
    rw [Nat.pow_succ]
    rw [Nat.add_mul, Nat.one_mul] at h4
    omega
  omega
theorem KnI.start {a b f k n : Nat} (hn : (lim b).length = n) (hf : 0 < f) (hb : 0 < b) (hL : (lim a).length + 1 ≤ (lim (a * f)).length + k) (hnL : n ≤ (lim a).length) :
    KnI (a * f) (b * f) ((lim (a * f)).length + k) n ((lim (a * f)).length + k - n) (lim (a * f) ++ List.replicate k 0) [] := by
  have hd : Dig (lim (a * f) ++ List.replicate k 0) := Dig.append.2 ⟨lim_dig _, dig_replicate k⟩
  have hv : val (lim (a * f) ++ List.replicate k 0) = a * f := by rw [val_append, val_replicate, val_lim]; simp
  refine ⟨by simp, hd, by omega, by simp, (fun _ h => by cases h), by rw [hv]; simp [val], ?_⟩
  generalize hj : (lim (a * f)).length + k - n = j
  have hs := val_split (lim (a * f) ++ List.replicate k 0) (k := j) (by simp; omega)
  rw [hv] at hs
  generalize val ((lim (a * f) ++ List.replicate k 0).drop j) = x at hs ⊢
  rcases Nat.lt_or_ge x (b * f) with h | h
  · exact h
  exfalso
  have h1 : LB ^ j * (b * f) ≤ a * f := by
    have := Nat.mul_le_mul_left (LB ^ j) h
    omega
  have h2 : LB ^ j * b ≤ a := by
    rw [← Nat.mul_assoc] at h1
    exact Nat.le_of_mul_le_mul_right h1 hf
  have h3 := lim_length_pow (n := b) (by omega)
  have h4 : LB ^ j * LB ^ ((lim b).length - 1) ≤ LB ^ j * b := Nat.mul_le_mul_left _ h3
  rw [← Nat.pow_add] at h4
  have h5 : a < LB ^ (lim a).length := lim_length_le.1 (Nat.le_refl _)
  have hb1 : (lim b).length ≠ 0 := fun h0 => by have := lim_nil.1 (List.length_eq_zero_iff.1 h0); omega
  have h6 : LB ^ (lim a).length ≤ LB ^ (j + ((lim b).length - 1)) := Nat.pow_le_pow_right LB_pos (by omega)
  omega
theorem div_scaled {a b f : Nat} (hf : 0 < f) : a * f / (b * f) = a / b ∧ a * f % (b * f) = a % b * f := ⟨Nat.mul_div_mul_right _ _ hf, Nat.mul_mod_mul_right _ _ _⟩

/-! ### The guess of a round -/
structure GC (U V top t1 v1 v2 T ul vl : Nat) : Prop where
  hu : U = (top * LB + t1) * T + ul
  hv : V = (v1 * LB + v2) * T + vl
  hul : ul < T
  hvl : vl < T
  hv1 : 0 < v1
  hv2 : v2 < LB
  hv1l : v1 < LB
  ht1 : t1 < LB
  htop : top ≤ v1 * LB + (LB - 1)
  hlt : U < LB * V
theorem GC.V0 {U V top t1 v1 v2 T ul vl : Nat} (h : GC U V top t1 v1 v2 T ul vl) : 0 < V := by
  rw [h.hv]
  have := h.hvl
  have h0 : 0 < v1 * LB + v2 := by have := Nat.mul_pos h.hv1 LB_pos; omega
  have h1 := Nat.mul_pos h0 (show 0 < T by omega)
  omega
structure GI (U V top v1 g r : Nat) : Prop where
  eq : top = g * v1 + r
  lt : r < LB
  le : U / V ≤ g
theorem GC.start {U V top t1 v1 v2 T ul vl : Nat} (h : GC U V top t1 v1 v2 T ul vl) : GI U V top v1 (top / v1) (top % v1) := by
  refine ⟨by rw [Nat.mul_comm]; exact (Nat.div_add_mod _ _).symm, Nat.lt_trans (Nat.mod_lt _ h.hv1) h.hv1l, ?_⟩
  have e1 : U = top * (LB * T) + (t1 * T + ul) := by rw [h.hu, Nat.add_mul, Nat.mul_assoc, Nat.add_assoc]
  have e2 : V = v1 * (LB * T) + (v2 * T + vl) := by rw [h.hv, Nat.add_mul, Nat.mul_assoc, Nat.add_assoc]
  rw [e1, e2]
  refine digit_hi ?_ h.hv1
  have h1 : (t1 + 1) * T ≤ LB * T := Nat.mul_le_mul_right _ h.ht1
  rw [Nat.add_mul] at h1
  have := h.hul
  omega
theorem GC.dec {U V top t1 v1 v2 T ul vl g r : Nat} (h : GC U V top t1 v1 v2 T ul vl) (hI : GI U V top v1 g r) (hc : LB ≤ g ∨ r * LB + t1 < g * v2) : 0 < g ∧ U / V ≤ g - 1 ∧ top = (g - 1) * v1 + (r + v1) := by
  have h1 : U / V < g := by
    rcases hc with hc | hc
    · exact guess_base h.V0 h.hlt hc
    · have h2 := (guess_test (v2 := v2) (u := t1) hI.eq).1 hc
      rw [h.hu, h.hv]
      exact guess_dec (by have := h.hul; omega) h.hul (by have := Nat.mul_pos h.hv1 LB_pos; omega) h2
  generalize U / V = q at h1 ⊢
  refine ⟨by omega, by omega, ?_⟩
  obtain ⟨k, rfl⟩ : ∃ k, g = k + 1 := ⟨g - 1, by omega⟩
  have := hI.eq
  rw [Nat.add_mul] at this
  rw [Nat.add_sub_cancel]
  omega
theorem GC.done {U V top t1 v1 v2 T ul vl g r : Nat} (h : GC U V top t1 v1 v2 T ul vl) (hI : GI U V top v1 g r) (h1 : g < LB) (h2 : g * v2 ≤ r * LB + t1) : g = U / V ∨ g = U / V + 1 := by
  have hle := hI.le
  have h3 : g * (v1 * LB + v2) ≤ top * LB + t1 := by
    have := guess_test (v2 := v2) (u := t1) hI.eq
    omega
  have := guess_fin (ul := ul) h.hvl h.hv1 h1 h3
  rw [← h.hu, ← h.hv] at this
  generalize U / V = q at *
  omega
theorem GC.brk {U V top t1 v1 v2 T ul vl g r : Nat} (h : GC U V top t1 v1 v2 T ul vl) (h0 : top = g * v1 + r) (h1 : LB ≤ r) (h2 : U / V ≤ g) : g < LB ∧ (g = U / V ∨ g = U / V + 1) := by
  obtain ⟨h3, h4⟩ := guess_break (u := t1) h0 h1 h.htop h.hv2 h.hv1
  have := guess_fin (ul := ul) h.hvl h.hv1 h3 h4
  rw [← h.hu, ← h.hv] at this
  generalize U / V = q at *
  exact ⟨h3, by omega⟩

end Go.Proofs.YticmgmemnpcbbaaGreat.Vm

namespace Go.Proofs.YticmgmemnpcbbaaGreat.Vm
open Go Go.Proofs
set_option linter.unusedSimpArgs false
set_option linter.unusedVariables false

structure OL where
  j : Nat
  u : List Int
  Q : List Int
structure QL where
  g : Int
  r : Int
set_option maxHeartbeats 2000000 in
theorem over_ro (a b : Nat) (hb0 : 0 < b) (ha : (lim a).length ≤ 300000) (hbl : (lim b).length ≤ 300000) : RO Tryz.prog 176 [.sl (iv (lim a)), .sl (iv (lim b))] (.tup [.sl (iv (lim (a / b))), .sl (iv (lim (a % b)))]) := by
  refine ro_of2 Tryz.func176 rfl rfl (by rw [Tryz.ntmps176]; simp) fun bl => ?_
  rw [Tryz.ntmps176, Tryz.results176]
  refine AW_runA ?_
  simp
  refine AW_runA ?_
  simp
  refine callP_ro (compare_ro a b (by omega) (by omega)) ?_
  simp [cmpN_lt]
  refine ⟨fun h => ?_, fun h => ?_⟩
  · refine callP_ro (Clone_ints_ro (lim a) (by omega)) ?_
    have e1 : a / b = 0 := Nat.div_eq_of_lt h
    have e2 : a % b = a := Nat.mod_eq_of_lt h
    simp [e1, e2, lim_zero]
    exact retRO [.nils, .sl (iv (lim a))] 1 (by simp) rfl (Sub.refl _)
  refine AW_runA ?_
  simp
  refine ⟨fun h1 => ?_, fun h1 => ?_⟩
  · have h1' : (lim b).length = 1 := by omega
    obtain ⟨b1, b2, b3⟩ := len1 h1'
    simp [lv_get b 0 (by omega), b1]
    refine callP_ro (overSmall_ro a b (by omega) b3 b2) ?_
    have hr : a % b < b := Nat.mod_lt _ b3
    obtain ⟨r, hr2⟩ : ∃ r, r = a % b := ⟨_, rfl⟩
    rw [← hr2] at hr ⊢
    have w1 : IntKind.u64.wrap (r : Int) = r := IntWalk.u64_in _ ⟨by omega, by omega⟩
    simp [w1]
    refine callP_ro (limbsOf_ro r (by omega)) ?_
    simp
    exact retRO [.sl (iv (lim (a / b))), .sl (iv (lim r))] 1 (by simp) rfl (Sub.refl _)
  have hab : b ≤ a := by omega
  have hla := lim_length_mono hab
  have hbz : (lim b).length ≠ 0 := fun h0 => by have := lim_nil.1 (List.length_eq_zero_iff.1 h0); omega
  obtain ⟨n, hn⟩ : ∃ n, (lim b).length = n + 2 := ⟨(lim b).length - 2, by omega⟩
  have hd0 : 0 < dg b (n + 1) := top_pos hn
  have hd1 := dg_lt b (n + 1)
  obtain ⟨f0, f1, f2⟩ := factor hd0 hd1
  obtain ⟨f, hf⟩ : ∃ f, f = 1000000000 / (dg b (n + 1) + 1) := ⟨_, rfl⟩
  rw [← hf] at f0 f1 f2
  have hbf := len_by hn (show f * (dg b (n + 1) + 1) ≤ LB from f2) f0
  have hlf := lim_one f0 f1
  have hfl : (lim f).length = 1 := by rw [hlf]; rfl
  refine AW_runA ?_
  have w0 : IntKind.i64.wrap (((lim b).length : Int) - 1) = ((n + 1 : Nat) : Int) := by rw [i64_in (by omega) (by omega)]; omega
  have w1 : IntKind.i64.wrap ((dg b (n + 1) : Int) + 1) = (dg b (n + 1) : Int) + 1 := i64_in (by omega) (by omega)
  have w2 : IntKind.i64.wrap ((1000000000 : Int).tdiv ((dg b (n + 1) : Int) + 1)) = f := by
    rw [Int.tdiv_eq_ediv_of_nonneg (by omega), show (1000000000 : Int) / ((dg b (n + 1) : Int) + 1) = ((1000000000 / (dg b (n + 1) + 1) : Nat) : Int) by simp, ← hf]
    exact i64_in (by omega) (by omega)
  have hz1 : ¬ (dg b (n + 1) : Int) + 1 = 0 := by omega
  generalize hdd : dg b (n + 1) = d at *
  have lg := lv_get b (n + 1) (by omega)
  rw [hdd] at lg
  have er1 : List.range 1 = [0] := rfl
  simp [-binV, -intV, w0, w1, w2, lg, hz1, er1]
  refine ⟨by omega, fun g8 hg8 hb8 => ?_⟩
  refine AW_frzAt 1 8 (.sl (iv (lim f))) bl (by simp [hb8]) ?_ ?_
  · rw [hlf]
    exact frz_slice hg8 hb8 (by simp; rfl) rfl rfl
  refine AW_runA ?_
  simp
  refine times_cp a f (by omega) (by omega) (by omega) (by omega) fun g O hg0 hg hO ht => ?_
  simp
  intro g2 hg2 h2g hb2
  simp [h2g, Ne.symm h2g, appV, elsV, Int.not_lt.2 hg2, hO, Int.not_lt.2 hg0]
  have hafl : (lim (a * f)).length ≤ (lim a).length + 1 := by
    refine lim_length_le.2 ?_
    have h2 : a < LB ^ (lim a).length := lim_length_le.1 (Nat.le_refl _)
    rw [Nat.pow_succ]
    exact Nat.mul_lt_mul_of_lt_of_le h2 (Nat.le_of_lt f1) LB_pos
  have hafm := lim_length_mono (a := a) (b := a * f) (Nat.le_mul_of_pos_right _ f0)
  refine ⟨by omega, fun g3 hg3 hb3 => ?_⟩
  have hb3' : bl g3 = none := by grind
  refine callP_ro (times_ro b f (by omega) (by omega)) ?_
  simp
  refine AW_mid (fun p : Int × Nat => [(0, .sl (iv (lim a))), (8, .sl (iv (lim f))), (9, .lsl p.1 1 0 ((lim (a * f)).length + p.2)), (10, .sl (iv (lim (b * f))))]) (fun p => upd bl p.1 (some ⟨1, iv (lim (a * f) ++ List.replicate p.2 0)⟩))
    (fun p => bl p.1 = none ∧ 0 ≤ p.1 ∧ (lim a).length + 1 ≤ (lim (a * f)).length + p.2 ∧ 1 ≤ p.2 ∧ p.2 ≤ 3) 172 ?_ ?_
  · refine AW_run ?_
    simp
    refine AW_for (fun p : Int × Nat => [(0, .sl (iv (lim a))), (8, .sl (iv (lim f))), (9, .lsl p.1 1 0 ((lim (a * f)).length + p.2)), (10, .sl (iv (lim (b * f))))]) (fun p => upd bl p.1 (some ⟨1, iv (lim (a * f) ++ List.replicate p.2 0)⟩))
      (fun p => bl p.1 = none ∧ 0 ≤ p.1 ∧ 1 ≤ p.2 ∧ p.2 ≤ 3) (fun p => 3 - p.2) _ (g3, 1) ⟨hb3', hg3, by simp, by simp⟩ ⟨rfl, by simp, sub_put (by simp [iv_append, iv_take, ht]; rfl) (by simp [hg, hb2])⟩ ?_
    rintro ⟨g4, k⟩ ⟨hb4, hg4, hk1, hk3⟩
    simp only at hb4 hg4 hk1 hk3
    refine AW_run ?_
    simp
    refine ⟨fun h2 => ?_, fun h2 => ?_⟩
    · intro g5 hg5 h54 hb5
      simp [h54, Ne.symm h54, appV, elsV, Int.not_lt.2 hg5]
      refine ⟨by omega, fun g6 hg6 hb6 => ?_⟩
      have hb6' : bl g6 = none := by grind
      rw [loopQ_normal]
      refine ⟨(g6, k + 1), ⟨hb6', hg6, by simp, by simp only; omega⟩, by simp only; omega, rfl, by simp [Nat.add_assoc], sub_put ?_ (by simp [hb4, hb5])⟩
      rw [List.take_of_length_le (by simp)]
      simp [iv, List.replicate_succ']
    · rw [midQ_normal]
      exact ⟨(g4, k), ⟨hb4, hg4, by simp only; omega, hk1, hk3⟩, rfl, by simp, Sub.refl _⟩
  rintro ⟨g4, k⟩ ⟨hb4, hg4, hk0, hk1, hk3⟩
  simp only at hb4 hg4 hk0 hk1 hk3
  have hKs := KnI.start (a := a) (b := b) (f := f) (k := k) hn f0 hb0 hk0 (by omega)
  generalize hL : (lim (a * f)).length + k = L at *
  obtain ⟨N, hN⟩ : ∃ N, N = n + 2 := ⟨_, rfl⟩
  have hbf' : (lim (b * f)).length = N := by omega
  rw [← hN] at hKs
  have hLn : N ≤ L := by omega
  have w3 : IntKind.i64.wrap ((L : Int) - (N : Int)) = ((L - N : Nat) : Int) := by rw [i64_in (by omega) (by omega)]; omega
  have w4 : IntKind.i64.wrap (((L - N : Nat) : Int) - 1) = ((L - N : Nat) : Int) - 1 := i64_in (by omega) (by omega)
  refine AW_run ?_
  simp [hbf', w3, w4]
  refine ⟨by omega, by unfold maxLen; omega, fun g5 hg5 h54 hb5 => ?_⟩
  have er : List.replicate (L - N) [V.int IntKind.i64 0] = iv (List.replicate (L - N) 0) := by simp [iv]
  simp [er, h54, Ne.symm h54, hbf', w3, w4]
  refine AW_for (fun p : OL => [(8, .sl (iv (lim f))), (9, .lsl g4 1 0 L), (10, .sl (iv (lim (b * f)))), (11, .int .i64 N), (12, .lsl g5 1 0 (L - N)), (13, .int .i64 ((p.j : Int) - 1))]) (fun p => upd (upd bl g4 (some ⟨1, iv p.u⟩)) g5 (some ⟨1, iv (List.replicate p.j 0 ++ p.Q)⟩))
    (fun p => p.j ≤ L - N ∧ KnI (a * f) (b * f) L N p.j p.u p.Q) (fun p => p.j) _ ⟨L - N, _, []⟩ ⟨Nat.le_refl _, hKs⟩ ⟨rfl, by simp, sub_eq (by simp)⟩ ?_
  rintro ⟨j, u, Q⟩ ⟨hj, hI⟩
  simp only at hj hI
  have hlen := hI.len
  refine AW_runA ?_
  simp
  refine ⟨fun h2 => ?_, fun h2 => ?_⟩
  · obtain ⟨m, rfl⟩ : ∃ m, j = m + 1 := ⟨j - 1, by omega⟩
    have hV := hbf'
    generalize hVV : b * f = W at *
    have hUV := hI.U
    have hz := hI.zero hV
    have hk3 : m + N < u.length := by omega
    have hk2 : m + (n + 1) < u.length := by omega
    have hk1 : m + n < u.length := by omega
    have t3 := hI.dig.at hk3
    have t2 := hI.dig.at hk2
    have t1 := hI.dig.at hk1
    obtain ⟨topN, htop⟩ : ∃ t, t = u[m + N].toNat * LB + u[m + (n + 1)].toNat := ⟨_, rfl⟩
    have hGC : GC (val (u.drop m)) W topN u[m + n].toNat (dg W (n + 1)) (dg W n) (LB ^ n) (val ((u.drop m).take n)) (pv W n) := by
      have hLB : LB = 1000000000 := rfl
      subst hN
      have htv := hI.top hV hk3
      refine ⟨?_, top_V hV, ?_, pv_lt _ _, top_pos hV, ?_, ?_, ?_, ?_, hUV⟩
      · rw [htop]; exact top_u hI.dig hz hk3 hk2 hk1
      · exact take_lt fun d hd => hI.dig d (List.mem_of_mem_drop hd)
      · exact dg_lt _ _
      · exact dg_lt _ _
      · rw [hLB]; omega
      · rw [htop, hLB]; omega
    have hv1 := hGC.hv1
    have hv1l := dg_lt W (n + 1)
    have hv2l := dg_lt W n
    refine AW_mid (fun p : OL => [(8, .sl (iv (lim f))), (9, .lsl g4 1 0 L), (10, .sl (iv (lim W))), (11, .int .i64 N), (12, .lsl g5 1 0 (L - N)), (13, .int .i64 (p.j : Int))]) (fun p => upd (upd bl g4 (some ⟨1, iv p.u⟩)) g5 (some ⟨1, iv (List.replicate p.j 0 ++ p.Q)⟩))
      (fun p => p.j = m ∧ KnI (a * f) W L N m p.u p.Q) 172 ?_ ?_
    · refine AW_block ?_
      refine AW_runA ?_
      simp [-binV, -intV]
      have e1 : ((m + 1 : Nat) : Int) - 1 = m := by omega
      have i1 : IntKind.i64.wrap ((m : Int) + N) = (m : Int) + N := i64_in (by omega) (by omega)
      have i2 : IntKind.i64.wrap ((m : Int) + N - 1) = (m : Int) + (n + 1) := by rw [i64_in (by omega) (by omega)]; omega
      have i3 : IntKind.i64.wrap ((N : Int) - 1) = (n : Int) + 1 := by rw [i64_in (by omega) (by omega)]; omega
      have p1 : 0 ≤ (m : Int) + N := by omega
      have p2 : 0 ≤ (m : Int) + (n + 1) := by omega
      have p3 : 0 ≤ (n : Int) + 1 := by omega
      have l1 : (m : Int) + N < L := by omega
      have l2 : (m : Int) + (n + 1) < L := by omega
      have c1 : ((m : Int) + N).toNat = m + N := by omega
      have c2 : ((m : Int) + (n + 1)).toNat = m + (n + 1) := by omega
      have c3 : ((n : Int) + 1).toNat = n + 1 := by omega
      have hLB : LB = 1000000000 := rfl
      have x1 : IntKind.i64.wrap (u[m + N] * 1000000000) = u[m + N] * 1000000000 := i64_in (by omega) (by omega)
      have x2 : IntKind.i64.wrap (u[m + N] * 1000000000 + u[m + (n + 1)]) = topN := by rw [i64_in (by omega) (by omega), htop, hLB]; omega
      have hz0 : ¬ dg W (n + 1) = 0 := by omega
      have htop2 : topN ≤ 1000000000000000000 := by rw [htop, hLB]; omega
      have lw := lv_get W (n + 1) (by omega)
      have y1 : (topN : Int).tdiv (dg W (n + 1) : Nat) = (topN / dg W (n + 1) : Nat) := by rw [Int.tdiv_eq_ediv_of_nonneg (by omega)]; simp
      have y2 : (topN : Int).tmod (dg W (n + 1) : Nat) = (topN % dg W (n + 1) : Nat) := by rw [Int.tmod_eq_emod_of_nonneg (by omega)]; simp
      have y3 := wq (x := (topN : Int)) (n := (dg W (n + 1) : Nat)) (by omega) (by omega) (by omega)
      rw [y1] at y3
      obtain ⟨g0, hg00⟩ : ∃ g0 : Int, g0 = (topN / dg W (n + 1) : Nat) := ⟨_, rfl⟩
      obtain ⟨r0, hr00⟩ : ∃ r0 : Int, r0 = (topN % dg W (n + 1) : Nat) := ⟨_, rfl⟩
      rw [← hg00] at y1 y3
      rw [← hr00] at y2
      refine AW_quiet mixedO (by kernel_rfl) ?_
      simp [-binV, -intV, e1, i1, i2, p1, p2, l1, l2, c1, c2, hk3, hk2, x1, x2, h54, Ne.symm h54]
      refine AW_runA ?_
      simp
      refine AW_quiet mixedO (by kernel_rfl) ?_
      simp [-binV, -intV, e1, i3, p3, c3, lw, hz0, y1, y2, y3]
      refine AW_mid (fun p : QL => [(8, .sl (iv (lim f))), (9, .lsl g4 1 0 L), (10, .sl (iv (lim W))), (11, .int .i64 N), (12, .lsl g5 1 0 (L - N)), (13, .int .i64 m), (15, .int .i64 p.g)]) (fun p => upd (upd bl g4 (some ⟨1, iv u⟩)) g5 (some ⟨1, iv (List.replicate (m + 1) 0 ++ Q)⟩))
        (fun p => 0 ≤ p.g ∧ p.g < 1000000000 ∧ (p.g.toNat = val (u.drop m) / W ∨ p.g.toNat = val (u.drop m) / W + 1)) 172 ?_ ?_
      · refine AW_run ?_
        simp [-binV, -intV]
        refine AW_for (fun p : QL => [(8, .sl (iv (lim f))), (9, .lsl g4 1 0 L), (10, .sl (iv (lim W))), (11, .int .i64 N), (12, .lsl g5 1 0 (L - N)), (13, .int .i64 m), (15, .int .i64 p.g), (16, .int .i64 p.r)]) (fun p => upd (upd bl g4 (some ⟨1, iv u⟩)) g5 (some ⟨1, iv (List.replicate (m + 1) 0 ++ Q)⟩))
          (fun p => 0 ≤ p.g ∧ 0 ≤ p.r ∧ GI (val (u.drop m)) W topN (dg W (n + 1)) p.g.toNat p.r.toNat) (fun p => p.g.toNat) _ ⟨g0, r0⟩ ⟨by simp only [hg00]; exact Int.natCast_nonneg _, by simp only [hr00]; exact Int.natCast_nonneg _, ?_⟩ ⟨rfl, by simp, sub_eq (by simp)⟩ ?_
        · have := hGC.start
          simp only [hg00, hr00, Int.toNat_natCast]
          exact this
        rintro ⟨gg, rr⟩ ⟨hgg, hrr, hGI⟩
        simp only at hgg hrr hGI
        refine AW_runA ?_
        simp [-binV, -intV]
        have hgN : gg ≤ 1000000000000000000 := by
          have e := hGI.eq
          have h3 : gg.toNat * 1 ≤ gg.toNat * dg W (n + 1) := Nat.mul_le_mul_left _ hv1
          omega
        have hrl := hGI.lt
        rw [hLB] at hrl
        have i4 : IntKind.i64.wrap ((N : Int) - 2) = (n : Int) := by rw [i64_in (by omega) (by omega)]; omega
        have i5 : IntKind.i64.wrap ((m : Int) + N - 2) = (m : Int) + n := by rw [i64_in (by omega) (by omega)]; omega
        have p4 : 0 ≤ (m : Int) + n := by omega
        have l4 : (m : Int) + n < L := by omega
        have c4 : ((m : Int) + n).toNat = m + n := by omega
        have lw2 := lv_get W n (by omega)
        have z1 : IntKind.i64.wrap (rr * 1000000000) = rr * 1000000000 := i64_in (by omega) (by omega)
        have z2 : IntKind.i64.wrap (rr * 1000000000 + u[m + n]) = rr * 1000000000 + u[m + n] := i64_in (by omega) (by omega)
        refine AW_qway mixedO (by kernel_rfl) [(8, .sl (iv (lim f))), (9, .lsl g4 1 0 L), (10, .sl (iv (lim W))), (11, .int .i64 N), (12, .lsl g5 1 0 (L - N)), (13, .int .i64 m), (15, .int .i64 gg), (16, .int .i64 rr)] _ (upd (upd bl g4 (some ⟨1, iv u⟩)) g5 (some ⟨1, iv (List.replicate (m + 1) 0 ++ Q)⟩))
          131 (.bool (decide (1000000000 ≤ gg) || decide (rr * 1000000000 + u[m + n] < gg * (dg W n : Nat)))) ⟨rfl, by simp, Sub.refl _⟩ rfl ?_ ?_
        · by_cases hbig : 1000000000 ≤ gg
          · simp [-binV, -intV, hbig]
          · have z3 : IntKind.i64.wrap (gg * (dg W n : Nat)) = gg * (dg W n : Nat) := by
              have q1 : 0 ≤ gg * (dg W n : Nat) := Int.mul_nonneg hgg (by omega)
              have q2 : gg * (dg W n : Nat) ≤ 1000000000 * 1000000000 := Int.mul_le_mul (by omega) (by omega) (by omega) (by omega)
              exact i64_in (by omega) (by omega)
            simp [-binV, -intV, hbig, i1, i4, i5, p4, l4, c4, hk1, lw2, z1, z2, z3, h54, Ne.symm h54]
        have conv : (1000000000 ≤ gg ∨ rr * 1000000000 + u[m + n] < gg * (dg W n : Nat)) ↔ (LB ≤ gg.toNat ∨ rr.toNat * LB + u[m + n].toNat < gg.toNat * dg W n) := by
          have e : gg * (dg W n : Nat) = ((gg.toNat * dg W n : Nat) : Int) := by rw [Int.natCast_mul, Int.toNat_of_nonneg hgg]
          rw [e, hLB]; omega
        simp [-binV, -intV]
        refine ⟨fun hc => ?_, fun hc1 hc2 => ?_⟩
        · obtain ⟨d1, d2, d3⟩ := hGC.dec hGI (conv.1 hc)
          have q1 : IntKind.i64.wrap (gg - 1) = gg - 1 := i64_in (by omega) (by omega)
          have q2 : IntKind.i64.wrap (rr + (dg W (n + 1) : Nat)) = rr + (dg W (n + 1) : Nat) := i64_in (by omega) (by omega)
          have e1 : (gg - 1).toNat = gg.toNat - 1 := by omega
          have e2 : (rr + (dg W (n + 1) : Nat)).toNat = rr.toNat + dg W (n + 1) := by omega
          refine AW_run ?_
          simp [-binV, -intV, q1, q2, i3, p3, c3, lw]
          refine ⟨fun hb => ?_, fun hb => ?_⟩
          · obtain ⟨f3, f4⟩ := hGC.brk d3 (by rw [hLB]; omega) d2
            rw [hLB] at f3
            rw [midQ_normal]
            exact ⟨⟨gg - 1, 0⟩, ⟨by simp only; omega, by simp only; omega, by rw [e1]; exact f4⟩, rfl, by simp, Sub.refl _⟩
          · rw [loopQ_normal]
            exact ⟨⟨gg - 1, rr + (dg W (n + 1) : Nat)⟩, ⟨by simp only; omega, by simp only; omega, ⟨by rw [e1, e2]; exact d3, by rw [e2, hLB]; omega, by rw [e1]; exact d2⟩⟩, by simp only; omega, rfl, by simp, Sub.refl _⟩
        · have hn : ¬ (LB ≤ gg.toNat ∨ rr.toNat * LB + u[m + n].toNat < gg.toNat * dg W n) := fun hh => (conv.2 hh).elim (fun h => by omega) (fun h => by omega)
          have f4 := hGC.done hGI (by rcases Nat.lt_or_ge gg.toNat LB with h | h; exact h; exact (hn (.inl h)).elim) (by rcases Nat.lt_or_ge (rr.toNat * LB + u[m + n].toNat) (gg.toNat * dg W n) with h | h; exact (hn (.inr h)).elim; exact h)
          rw [midQ_normal]
          exact ⟨⟨gg, 0⟩, ⟨hgg, by simp only; omega, f4⟩, rfl, by simp, Sub.refl _⟩
      · rintro ⟨gg, rr⟩ ⟨hgg, hg9, hgD⟩
        simp only at hgg hg9 hgD
        obtain ⟨gN, rfl⟩ : ∃ gN : Nat, gg = gN := ⟨gg.toNat, by omega⟩
        rw [Int.toNat_natCast] at hgD
        have hs : sliV Tryz.prog 27 (.lsl g4 1 0 L) (some (.int .i64 (m : Nat))) none = some (.lsl g4 1 m (L - m)) := by
          simp [sliV]
          rcases Nat.eq_zero_or_pos m with h | h
          · subst h; simp; omega
          · simp [show ¬ m = 0 by omega, show ¬ m = L by omega]; omega
        have hW0 := hGC.V0
        have b4 : (upd (upd bl g4 (some ⟨1, iv u⟩)) g5 (some ⟨1, iv (List.replicate (m + 1) 0 ++ Q)⟩)) g4 = some ⟨1, iv u⟩ := by simp [Ne.symm h54]
        have q5 : (iv (List.replicate (m + 1) 0 ++ Q))[m]? = some [.int .i64 0] := by rw [iv_get _ _ (by simp; omega)]; simp
        have lm : m < L - N := by omega
        refine AW_runA ?_
        simp [hs]
        refine take_cp u W gN m N (L - m) g4 hg4 b4 hI.dig hV (by omega) (by omega) (by omega) (by omega) fun O c hk hT => ?_
        have hOl := hT.len
        simp
        refine ⟨fun hc => ?_, fun hc => ?_⟩
        · have hov := knuth_over hI.dig hT hV hk hz hgD hW0 (by omega)
          have q1 : IntKind.i64.wrap ((gN : Int) - 1) = (val (u.drop m) / W : Nat) := by rw [i64_in (by omega) (by omega), hov]; simp
          have hO9 := hT.dig.at hk
          have hc9 := hT.c1
          simp [hs, q1]
          refine give_cp O (O[m + N] - c) W m N (L - m) g4 hg4 hk (by simp [Ne.symm h54]) hT.dig hV (by omega) (by omega) (by omega) fun v W2 d2 hk2 hG => ?_
          obtain ⟨z0, zD, zv⟩ := knuth_back hI.dig hT hG hV hk hk2 hz hov hW0
          rw [z0]
          have hN2 := hI.next (O := W2.set (m + N) 0) (by simp [hG.len, hOl, hlen]) zD zv
          simp
          refine AW_run ?_
          simp [q5, h54, Ne.symm h54, lm]
          rw [midQ_normal]
          refine ⟨⟨m, W2.set (m + N) 0, ((val (u.drop m) / W : Nat) : Int) :: Q⟩, ⟨rfl, hN2⟩, rfl, by simp, sub_eq ?_⟩
          funext x
          simp only [upd_apply, ← fill_set m _ 0 Q, ← iv_set]
          by_cases x1 : x = g5
          · simp [x1]
          · by_cases x2 : x = g4 <;> simp [x1, x2]
        · obtain ⟨zD, zq, zv⟩ := knuth_fits hI.dig hT hV hk hgD hW0 (by omega)
          have hN2 := hI.next (O := O.set (m + N) (O[m + N] - c)) (by simp [hOl, hlen]) zD zv
          refine AW_run ?_
          rw [zq]
          simp [q5, h54, Ne.symm h54, lm]
          rw [midQ_normal]
          refine ⟨⟨m, O.set (m + N) (O[m + N] - c), ((val (u.drop m) / W : Nat) : Int) :: Q⟩, ⟨rfl, hN2⟩, rfl, by simp, sub_eq ?_⟩
          funext x
          simp only [upd_apply, ← fill_set m _ 0 Q, ← iv_set]
          by_cases x1 : x = g5
          · simp [x1]
          · by_cases x2 : x = g4 <;> simp [x1, x2]
    · rintro ⟨j', u', Q'⟩ ⟨hj', hI'⟩
      simp only at hj' hI'
      subst hj'
      have w5 : IntKind.i64.wrap ((j' : Int) - 1) = (j' : Int) - 1 := i64_in (by omega) (by omega)
      refine AW_run ?_
      simp [w5]
      rw [loopQ_normal]
      exact ⟨⟨j', u', Q'⟩, ⟨by simp only; omega, hI'⟩, by simp only; omega, rfl, by simp, Sub.refl _⟩
  · have e : j = 0 := by omega
    subst e
    obtain ⟨v1, v2⟩ := hI.done
    obtain ⟨s1, s2⟩ := div_scaled (a := a) (b := b) (f := f) f0
    rw [s1] at v1
    rw [s2] at v2
    have lf := lv_get f 0 (by omega)
    have df : dg f 0 = f := (len1 hfl).1
    have hq2 : a % b * f / f = a % b := Nat.mul_div_cancel _ f0
    have hlu : (lim (a % b * f)).length ≤ 1048576 := by
      have := lim_length_mono (a := a % b * f) (b := a * f) (Nat.mul_le_mul_right _ (Nat.mod_le _ _)); omega
    refine AW_frzAt 1 9 (.sl (iv u)) (upd bl g5 (some ⟨1, iv Q⟩)) (by intro x y; simp only [upd_apply]; grind) ?_ ?_
    · exact frz_slice hg4 (by simp [Ne.symm h54, hb4]) (by simp [Ne.symm h54]) (by simp [hlen]) (iv_cl u)
    refine AW_frzAt 1 12 (.sl (iv Q)) bl (by simp [hb5]) ?_ ?_
    · exact frz_slice hg5 hb5 (by simp) (by simp [hI.qlen]) (iv_cl Q)
    refine AW_quiet mixedO (by kernel_rfl) ?_
    simp
    refine hcQ_ro (trim_ro u hI.dig (by omega)) ?_
    simp [v2, lf, df]
    refine hcQ_ro (overSmall_ro _ f hlu f0 f1) ?_
    simp [hq2]
    refine callP_ro (trim_ro Q hI.qdig (by have := hI.qlen; omega)) ?_
    simp [v1]
    exact retRO [.sl (iv (lim (a / b))), .sl (iv (lim (a % b)))] 1 (by simp) rfl (Sub.refl _)

end Go.Proofs.YticmgmemnpcbbaaGreat.Vm

namespace Go.Proofs.YticmgmemnpcbbaaGreat.Vm
set_option linter.unusedSimpArgs false
set_option linter.unusedVariables false

/-- A sign and limbs, valid or not. -/
structure RT where
  neg : Bool
  m : List Int
  d : List Int
  deriving DecidableEq
/-- The fraction's form. -/
def rq (q : Rat) : RT := ⟨decide (q.num < 0), lim q.num.natAbs, lim q.den⟩
def rz : RT := ⟨false, [], []⟩
def fits (q : Rat) : Prop := (lim q.num.natAbs).length ≤ 24 ∧ (lim q.den).length ≤ 24
instance (q : Rat) : Decidable (fits q) := by unfold fits; infer_instance
/-- A fraction, if it is not too large. -/
def fit (q : Rat) : Option Rat := if fits q then some q else none
def RT.ok (r : RT) : Prop := lim (val r.m) = r.m ∧ lim (val r.d) = r.d ∧ r.m.length ≤ 24 ∧ r.d.length ≤ 24 ∧ r.d ≠ [] ∧ ¬ (r.neg = true ∧ r.m = []) ∧ Nat.gcd (val r.m) (val r.d) = 1
instance (r : RT) : Decidable r.ok := by unfold RT.ok; infer_instance
def RT.num (r : RT) : Int := if r.neg then -(val r.m : Int) else val r.m
/-- The fraction that a form stands for, if it is valid. -/
def rd (r : RT) : Option Rat := if r.ok then some (mkRat r.num (val r.d)) else none
def ro (x : Option Rat) : RT := match x with | some q => rq q | none => rz
@[simp] theorem ro_none : ro none = rz := rfl
@[simp] theorem ro_some (q : Rat) : ro (some q) = rq q := rfl

theorem mk_of_coprime {n : Int} {d : Nat} (hd : d ≠ 0) (h : Nat.gcd n.natAbs d = 1) : (mkRat n d).num = n ∧ (mkRat n d).den = d := by
  rw [← Rat.normalize_eq_mkRat hd, Rat.normalize_eq hd]
  constructor
  · show n / ((Nat.gcd n.natAbs d : Nat) : Int) = n
    rw [h]; simp
  · show d / Nat.gcd n.natAbs d = d
    rw [h]; simp
theorem RT.num_natAbs (r : RT) : r.num.natAbs = val r.m := by
  unfold RT.num; split <;> simp
theorem rd_some {r : RT} {q : Rat} (h : rd r = some q) : r = rq q ∧ fits q := by
  unfold rd at h
  split at h
  · rename_i hok
    obtain ⟨h1, h2, h3, h4, h5, h6, h7⟩ := hok
    have hq : mkRat r.num (val r.d) = q := Option.some.inj h
    have hd0 : val r.d ≠ 0 := fun h0 => by rw [h0, lim_zero] at h2; exact h5 h2.symm
    have ha := r.num_natAbs
    obtain ⟨e1, e2⟩ := mk_of_coprime (n := r.num) hd0 (by rw [ha]; exact h7)
    rw [hq] at e1 e2
    have f1 : lim q.num.natAbs = r.m := by rw [e1, ha, h1]
    have f2 : lim q.den = r.d := by rw [e2, h2]
    refine ⟨?_, by rw [f1]; exact h3, by rw [f2]; exact h4⟩
    unfold rq
    rw [f1, f2, e1]
    cases r with
    | mk neg m d =>
      congr 1
      unfold RT.num
      simp only at h1 h6 ⊢
      cases neg
      · simp
      · simp
        have : m ≠ [] := fun hm => h6 ⟨rfl, hm⟩
        have : val m ≠ 0 := fun h0 => by rw [h0, lim_zero] at h1; exact this h1.symm
        omega
  · cases h
theorem rd_rq {q : Rat} (h : fits q) : rd (rq q) = some q := by
  have hok : (rq q).ok := by
    unfold rq RT.ok
    simp only [val_lim]
    refine ⟨trivial, trivial, h.1, h.2, fun h0 => q.den_nz (lim_nil.1 h0), ?_, q.reduced⟩
    rintro ⟨h1, h2⟩
    have h3 : q.num.natAbs = 0 := lim_nil.1 h2
    have : q.num < 0 := by simpa using h1
    omega
  unfold rd
  rw [if_pos hok]
  congr 1
  have : (rq q).num = q.num := by
    unfold rq RT.num
    simp only [val_lim]
    by_cases h1 : q.num < 0
    · simp [h1]; omega
    · simp [h1]; omega
  rw [this]
  show mkRat q.num (val (lim q.den)) = q
  rw [val_lim, Rat.mkRat_self]
theorem rd_ok {r : RT} : (rd r).isSome = true ↔ r.ok := by
  unfold rd; split <;> simp_all
/-- Small whole numbers fit. -/
theorem fits_int {n : Int} (h : n.natAbs ≤ 9223372036854775808) : fits (n : Rat) := by
  unfold fits
  refine ⟨lim_length_le.2 ?_, lim_length_le.2 ?_⟩
  · show n.natAbs < _
    exact Nat.lt_of_le_of_lt h (by decide +kernel)
  · show 1 < _
    decide +kernel
end Go.Proofs.YticmgmemnpcbbaaGreat.Vm

namespace Go.Proofs.YticmgmemnpcbbaaGreat.Vm
open Go Go.Proofs
set_option linter.unusedSimpArgs false
set_option linter.unusedVariables false

/-! ### Valid limbs -/
def natOk (ns : List Int) : Bool := decide (ns.length ≤ 60) && decide (lim (val ns) = ns)
theorem lim_val_iff {ns : List Int} : lim (val ns) = ns ↔ Dig ns ∧ (ns.length = 0 ∨ ns.getD (ns.length - 1) 1 ≠ 0) := by
  have hlast : ∀ d, ns.getLast? = some d ↔ ns.length ≠ 0 ∧ ns.getD (ns.length - 1) 1 = d := by
    intro d
    rw [List.getLast?_eq_getElem?]
    rcases Nat.eq_zero_or_pos ns.length with h | h
    · rw [List.getElem?_eq_none (by omega)]; simp [h]
    · have h1 : ns.length - 1 < ns.length := by omega
      have h2 : ns ≠ [] := fun h0 => by rw [h0] at h; simp at h
      rw [List.getElem?_eq_getElem h1]
      simp [h1, h2]
  constructor
  · intro h
    refine ⟨h ▸ lim_dig _, ?_⟩
    by_cases h0 : ns.length = 0
    · exact .inl h0
    · exact .inr (lim_last (val ns) _ (by rw [h]; exact (hlast _).2 ⟨h0, rfl⟩))
  · rintro ⟨h1, h2⟩
    refine lim_val h1 fun d hd => ?_
    obtain ⟨h3, h4⟩ := (hlast d).1 hd
    rcases h2 with h2 | h2
    · exact absurd h2 h3
    · rw [← h4]; exact h2
theorem natOk_iff {ns : List Int} : natOk ns = true ↔ ns.length ≤ 60 ∧ Dig ns ∧ (ns.length = 0 ∨ ns.getD (ns.length - 1) 1 ≠ 0) := by
  unfold natOk
  rw [Bool.and_eq_true, decide_eq_true_eq, decide_eq_true_eq, lim_val_iff]

theorem spec_NatOk_ro (ns : List Int) (hn : ns.length ≤ 140737488351232) : RO Tryz.prog 261 [.sl (iv ns)] (.bool (natOk ns)) := by
  refine ro_of2 Tryz.func261 rfl rfl (by rw [Tryz.ntmps261]; simp) fun bl => ?_
  rw [Tryz.ntmps261, Tryz.results261]
  refine AW_run ?_
  simp
  refine AW_for (fun i : Nat => [(0, .sl (iv ns)), (5, .sl (iv ns)), (6, .int .i64 ns.length), (7, .int .i64 i)]) (fun _ => bl) (fun i => i ≤ ns.length ∧ ∀ j (h : j < ns.length), j < i → 0 ≤ ns[j] ∧ ns[j] < 1000000000) (fun i => ns.length - i) _ 0 ⟨Nat.zero_le _, fun j h h0 => by omega⟩ ⟨rfl, by simp, Sub.refl _⟩ ?_
  rintro i ⟨hi, hd⟩
  refine AW_run ?_
  simp
  refine ⟨fun h => ?_, fun h => ?_⟩
  · simp [h]
    refine callP_ro (l01In_ro _ _ _) ?_
    simp
    refine ⟨fun h1 => ?_, fun h1 h2 => ?_⟩
    · refine retRO0 ?_ rfl rfl
      have : natOk ns = false := by
        rw [Bool.eq_false_iff]
        intro hk
        have := (natOk_iff.1 hk).2.1.at h
        omega
      simp [this]
    · have w1 : IntKind.i64.wrap ((i : Int) + 1) = i + 1 := i64_in (by omega) (by omega)
      simp [w1, loopQ_normal]
      refine ⟨i + 1, ⟨by omega, fun j hj hji => ?_⟩, by omega, rfl, by simp, Sub.refl _⟩
      rcases Nat.lt_or_ge j i with hlt | hge
      · exact hd j hj hlt
      · obtain rfl : j = i := by omega
        exact ⟨h1, by omega⟩
  · have hD : Dig ns := by
      intro d hm
      obtain ⟨j, hj, rfl⟩ := List.mem_iff_getElem.1 hm
      exact hd j hj (by omega)
    have hk : natOk ns = (decide (ns.length ≤ 60) && (decide (ns.length = 0) || decide (ns.getD (ns.length - 1) 1 ≠ 0))) := by
      rw [Bool.eq_iff_iff, natOk_iff]
      simp [hD]
    refine AW_way0 [(0, .sl (iv ns))] _ bl 2 (.bool (natOk ns)) ⟨rfl, by simp, Sub.refl _⟩ rfl ?_ ?_
    · have w1 : 0 < ns.length → IntKind.i64.wrap ((ns.length : Int) - 1) = ((ns.length - 1 : Nat) : Int) := fun h => by rw [i64_in (by omega) (by omega)]; omega
      have q1 : ∀ h : 0 < ns.length, (iv ns)[ns.length - 1]? = some [.int .i64 (ns[ns.length - 1]'(by omega))] := fun h => iv_get _ _ (by omega)
      rw [hk]
      simp
      refine ⟨fun h1 => ⟨fun h2 => ⟨by omega, .inl h2⟩, fun h2 => ?_⟩, fun h1 h2 => by omega⟩
      have h3 : 0 < ns.length := List.length_pos_iff.2 h2
      have h4 : ns.length - 1 < ns.length := by omega
      have h5 : ns.length ≤ 60 := by omega
      simp [w1 h3, q1 h3, h2, h4, h5]
      rfl
    simp
    exact retRO0 (by simp) rfl rfl

/-! ### Valid whole numbers and fractions -/
def RT.c (r : RT) : List V := [.bool r.neg, .sl (iv r.m), .sl (iv r.d)]
def bigOk (neg : Bool) (m : List Int) : Bool := natOk m && !(neg && decide (m = []))
theorem len_dec (m : List Int) : ((m.length : Int) == 0) = decide (m = []) := by
  rw [eq_dec]; cases m <;> simp; omega
theorem len_dec2 (m : List Int) : decide (0 < m.length) = !decide (m = []) := by cases m <;> simp
theorem spec_BigIntOk_ro (neg : Bool) (m : List Int) (hm : m.length ≤ 140737488351232) : RO Tryz.prog 260 [.agg [.bool neg, .sl (iv m)]] (.bool (bigOk neg m)) := by
  refine ro_of2 Tryz.func260 rfl rfl (by rw [Tryz.ntmps260]; simp) fun bl => ?_
  rw [Tryz.ntmps260, Tryz.results260]
  refine AW_run ?_
  simp
  intro g hg0 hg
  refine AW_way [(1, .loc g 2 0 0)] _ (upd bl g (some ⟨2, [[.bool neg, .sl (iv m)]]⟩)) 2 (.bool (bigOk neg m)) (upd bl g (some ⟨2, [[.bool neg, .sl (iv m)]]⟩)) ⟨rfl, by simp, Sub.refl _⟩ rfl ?_ ?_
  · simp
    refine callP_ro (spec_NatOk_ro m hm) ?_
    simp [bigOk, len_dec2]
    cases natOk m <;> cases neg <;> simp
  simp
  exact retRO [_] 0 rfl rfl (by simp [hg])

/-- What is wrong with a form, but for common divisors. -/
def RT.bad (r : RT) : Bool := (((!(bigOk r.neg r.m) || !(natOk r.d)) || decide (r.d = [])) || decide (24 < r.m.length)) || decide (24 < r.d.length)
theorem RT.ok_iff {r : RT} : r.ok ↔ r.bad = false ∧ Nat.gcd (val r.m) (val r.d) = 1 := by
  unfold RT.ok RT.bad bigOk natOk
  simp
  constructor
  · rintro ⟨h1, h2, h3, h4, h5, h6, h7⟩
    exact ⟨⟨⟨⟨⟨⟨⟨by omega, h1⟩, h6⟩, by omega, h2⟩, h5⟩, h3⟩, h4⟩, h7⟩
  · rintro ⟨⟨⟨⟨⟨⟨⟨_, h1⟩, h6⟩, _, h2⟩, h5⟩, h3⟩, h4⟩, h7⟩
    exact ⟨h1, h2, h3, h4, h5, h6, h7⟩
theorem RT.lims {r : RT} (h : r.bad = false) : r.m = lim (val r.m) ∧ r.d = lim (val r.d) ∧ r.m.length ≤ 24 ∧ r.d.length ≤ 24 := by
  unfold RT.bad bigOk natOk at h
  simp at h
  obtain ⟨⟨⟨⟨⟨⟨_, h1⟩, _⟩, _, h2⟩, _⟩, h3⟩, h4⟩ := h
  exact ⟨h1.symm, h2.symm, h3, h4⟩
theorem lim1 : lim 1 = [1] := lim_one (f := 1) (by decide) (by decide)
theorem gcd_len {a b : Nat} {k : Nat} (ha : (lim a).length ≤ k) (hb : (lim b).length ≤ k) : (lim (Nat.gcd a b)).length ≤ k := by
  rcases Nat.eq_zero_or_pos a with h | h
  · rw [h, Nat.gcd_zero_left]; exact hb
  · exact Nat.le_trans (lim_length_mono (Nat.gcd_le_left _ h)) ha
end Go.Proofs.YticmgmemnpcbbaaGreat.Vm

namespace Go.Proofs.YticmgmemnpcbbaaGreat.Vm
open Go Go.Proofs
set_option linter.unusedSimpArgs false
set_option linter.unusedVariables false

/-- A whole number as the program keeps it. -/
def biC (n : Int) : List V := [.bool (decide (n < 0)), .sl (iv (lim n.natAbs))]
/-- A sign and a magnitude. -/
def sg (neg : Bool) (m : Nat) : Int := if neg then -(m : Int) else m
@[simp] theorem sg_abs (neg : Bool) (m : Nat) : (sg neg m).natAbs = m := by unfold sg; split <;> simp
theorem sg_neg (neg : Bool) (m : Nat) : decide (sg neg m < 0) = (neg && decide (0 < m)) := by
  unfold sg; cases neg <;> simp
theorem sg_self (n : Int) : sg (decide (n < 0)) n.natAbs = n := by
  unfold sg
  by_cases h : n < 0
  · simp [h]; omega
  · simp [h]; omega
theorem len_pos_iff (m : Nat) : 0 < (lim m).length ↔ 0 < m := by
  rw [List.length_pos_iff]
  constructor
  · intro h; rcases Nat.eq_zero_or_pos m with h0 | h0
    · rw [h0, lim_zero] at h; exact absurd rfl h
    · exact h0
  · intro h h0; have := lim_nil.1 h0; omega

@[simp] theorem biC_len (n : Int) : (biC n).length = 2 := rfl
theorem biC_one (n : Int) : ∀ x, x ∈ biC n → x.one = true := by simp [biC]
@[simp] theorem biC_all (n : Int) : (biC n).all V.one = true := by simp [biC]
theorem biC_cl (n : Int) : (biC n).all V.cl = true := by simp [biC, V.cl]
@[simp] theorem splice_bi (a b : V) (n : Int) : splice [a, b] 0 (biC n) = biC n := by simp [splice, biC]
theorem biC_sg (neg : Bool) (m : Nat) : biC (sg neg m) = [.bool (neg && decide (0 < (lim m).length)), .sl (iv (lim m))] := by
  unfold biC
  rw [sg_neg, sg_abs, decide_eq_decide.2 (len_pos_iff m)]
theorem retAgg {bl bl' : Int → Option Blk} {n : Int} : frz (dropB bl' bl) 1 (.agg (biC n)) = some (.agg (biC n)) := by
  unfold frz; rw [if_pos (biC_cl n)]
theorem sg_opp (x : Int) : sg (!decide (x < 0)) x.natAbs = -x := by
  unfold sg
  by_cases h : x < 0
  · simp [h]; omega
  · simp [h]; omega

theorem signed_ro (neg : Bool) (m : Nat) : RO Tryz.prog 229 [.bool neg, .sl (iv (lim m))] (.agg (biC (sg neg m))) := by
  refine ro_of2 Tryz.func229 rfl rfl (by rw [Tryz.ntmps229]; simp) fun bl => ?_
  rw [Tryz.ntmps229, Tryz.results229]
  refine AW_run ?_
  simp
  intro g hg0 hg
  refine AW_way [(0, .bool neg), (1, .sl (iv (lim m))), (4, .loc g 2 0 0)] _ (upd bl g (some ⟨2, [[.bool false, .nils]]⟩)) 4 (.loc g 2 0 0) (upd bl g (some ⟨2, [biC (sg neg m)]⟩)) ⟨rfl, by simp, Sub.refl _⟩ rfl ?_ ?_
  · simp
    rw [biC_sg]
    cases neg <;> simp
  simp
  exact retRO [.agg (biC (sg neg m))] 1 (by simp [biC]) retAgg (by simp [hg])

theorem opposite_ro (x : Int) : RO Tryz.prog 177 [.agg (biC x)] (.agg (biC (-x))) := by
  refine ro_of2 Tryz.func177 rfl rfl (by rw [Tryz.ntmps177]; simp) fun bl => ?_
  rw [Tryz.ntmps177, Tryz.results177]
  refine AW_run ?_
  rw [show biC x = [.bool (decide (x < 0)), .sl (iv (lim x.natAbs))] from rfl]
  simp
  intro g hg0 hg g2 hg2 h2g hb2
  simp [h2g, Ne.symm h2g]
  refine callP_ro (signed_ro _ _) ?_
  rw [sg_opp]
  simp [h2g, Ne.symm h2g]
  exact retRO [.agg (biC (-x))] 1 (by simp [biC]) retAgg (by simp [hg, hb2])

theorem sign_ro (x : Int) : RO Tryz.prog 153 [.agg (biC x)] (.int .i64 x.sign) := by
  refine ro_of2 Tryz.func153 rfl rfl (by rw [Tryz.ntmps153]; simp) fun bl => ?_
  rw [Tryz.ntmps153, Tryz.results153]
  refine AW_run ?_
  rw [show biC x = [.bool (decide (x < 0)), .sl (iv (lim x.natAbs))] from rfl]
  simp
  intro g hg0 hg
  refine ⟨fun h => ?_, fun h => ?_⟩
  · have h0 := lim_nil.1 h
    have : x = 0 := by omega
    exact retRO [.int .i64 0] 0 (by simp) (by simp [frz, this]) (by simp [hg])
  · have h0 : x ≠ 0 := fun h1 => h (by rw [h1]; exact lim_zero)
    refine ⟨fun h2 => ?_, fun h2 => ?_⟩
    · exact retRO [.int .i64 (-1)] 0 (by simp) (by simp [frz, Int.sign_eq_neg_one_of_neg h2]) (by simp [hg])
    · exact retRO [.int .i64 1] 0 (by simp) (by simp [frz, Int.sign_eq_one_of_pos (show 0 < x by omega)]) (by simp [hg])

theorem sg_add_same {x y : Int} (h : x < 0 ↔ y < 0) : sg (decide (x < 0)) (x.natAbs + y.natAbs) = x + y := by
  unfold sg
  by_cases hx : x < 0
  · have := h.1 hx; simp [hx]; omega
  · have : ¬ y < 0 := fun hh => hx (h.2 hh); simp [hx]; omega
theorem sg_add_left {x y : Int} (h : ¬ (x < 0 ↔ y < 0)) (hle : y.natAbs ≤ x.natAbs) : sg (decide (x < 0)) (x.natAbs - y.natAbs) = x + y := by
  unfold sg
  by_cases hx : x < 0
  · have : ¬ y < 0 := fun hh => h ⟨fun _ => hh, fun _ => hx⟩; simp [hx]; omega
  · have : y < 0 := by
      by_cases hy : y < 0
      · exact hy
      · exact absurd ⟨fun hh => absurd hh hx, fun hh => absurd hh hy⟩ h
    simp [hx]; omega
theorem sg_mul (x y : Int) : sg (decide (x < 0) != decide (y < 0)) (x.natAbs * y.natAbs) = x * y := by
  have e : (x.natAbs : Int) * y.natAbs = (x * y).natAbs := by rw [Int.natAbs_mul]; simp
  unfold sg
  by_cases hx : x < 0 <;> by_cases hy : y < 0 <;> simp only [hx, hy, decide_true, decide_false, bne_self_eq_false, Bool.bne_true, Bool.bne_false, Bool.not_false, if_true, if_false, Bool.false_eq_true, Int.natCast_mul]
  · rw [Int.ofNat_natAbs_of_nonpos (by omega), Int.ofNat_natAbs_of_nonpos (by omega), Int.neg_mul_neg]
  · rw [Int.ofNat_natAbs_of_nonpos (by omega), Int.natAbs_of_nonneg (by omega), Int.neg_mul, Int.neg_neg]
  · rw [Int.natAbs_of_nonneg (by omega), Int.ofNat_natAbs_of_nonpos (by omega), Int.mul_neg, Int.neg_neg]
  · rw [Int.natAbs_of_nonneg (by omega), Int.natAbs_of_nonneg (by omega)]
def cmpZ (x y : Int) : Int := if x < y then -1 else if x = y then 0 else 1
theorem cmpN_ge {a b : Nat} : 0 ≤ cmpN a b ↔ b ≤ a := by unfold cmpN; split <;> (try split) <;> omega
theorem compareZ_ro (x y : Int) (hx : (lim x.natAbs).length ≤ 1048576) (hy : (lim y.natAbs).length ≤ 1048576) : RO Tryz.prog 276 [.agg (biC x), .agg (biC y)] (.int .i64 (cmpZ x y)) := by
  refine ro_of2 Tryz.func276 rfl rfl (by rw [Tryz.ntmps276]; simp) fun bl => ?_
  rw [Tryz.ntmps276, Tryz.results276]
  refine AW_runA ?_
  rw [show biC x = [.bool (decide (x < 0)), .sl (iv (lim x.natAbs))] from rfl, show biC y = [.bool (decide (y < 0)), .sl (iv (lim y.natAbs))] from rfl]
  simp
  intro g hg0 hg g2 hg2 h2g hb2
  refine AW_run ?_
  simp [h2g, Ne.symm h2g]
  refine AW_way [(2, .loc g 2 0 0), (3, .loc g2 2 0 0)] _ _ 5 (.bool ((decide (x < 0) != decide (y < 0)) && decide (x < 0))) (upd (upd bl g (some ⟨2, [[.bool (decide (x < 0)), .sl (iv (lim x.natAbs))]]⟩)) g2 (some ⟨2, [[.bool (decide (y < 0)), .sl (iv (lim y.natAbs))]]⟩)) ⟨rfl, by simp, Sub.refl _⟩ rfl ?_ ?_
  · simp [h2g, Ne.symm h2g]
    by_cases h1 : x < 0 <;> by_cases h2 : y < 0 <;> simp [h1, h2, h2g, Ne.symm h2g]
  by_cases h1 : x < 0 <;> by_cases h2 : y < 0 <;> simp [h1, h2, h2g, Ne.symm h2g]
  · refine callP_ro (compare_ro _ _ hy hx) ?_
    simp
    refine retRO [.int .i64 (cmpZ x y)] 0 ?_ (by simp [frz]) (by simp [hg, hb2])
    have : cmpN y.natAbs x.natAbs = cmpZ x y := by unfold cmpN cmpZ; split <;> split <;> (try split) <;> (try split) <;> omega
    simp [this]
  · have : cmpZ x y = -1 := by unfold cmpZ; rw [if_pos (by omega)]
    exact retRO [.int .i64 (-1)] 0 (by simp) (by simp [frz, this]) (by simp [hg, hb2])
  · have : cmpZ x y = 1 := by unfold cmpZ; rw [if_neg (by omega), if_neg (by omega)]
    exact retRO [.int .i64 1] 0 (by simp) (by simp [frz, this]) (by simp [hg, hb2])
  · refine callP_ro (compare_ro _ _ hx hy) ?_
    simp
    refine retRO [.int .i64 (cmpZ x y)] 0 ?_ (by simp [frz]) (by simp [hg, hb2])
    have : cmpN x.natAbs y.natAbs = cmpZ x y := by unfold cmpN cmpZ; split <;> split <;> (try split) <;> (try split) <;> omega
    simp [this]

theorem plusZ_ro (x y : Int) (hx : (lim x.natAbs).length ≤ 1048575) (hy : (lim y.natAbs).length ≤ 1048575) : RO Tryz.prog 227 [.agg (biC x), .agg (biC y)] (.agg (biC (x + y))) := by
  refine ro_of2 Tryz.func227 rfl rfl (by rw [Tryz.ntmps227]; simp) fun bl => ?_
  rw [Tryz.ntmps227, Tryz.results227]
  refine AW_runA ?_
  rw [show biC x = [.bool (decide (x < 0)), .sl (iv (lim x.natAbs))] from rfl, show biC y = [.bool (decide (y < 0)), .sl (iv (lim y.natAbs))] from rfl]
  simp
  intro g hg0 hg g2 hg2 h2g hb2 g3 hg3 h32 h3g hb3
  refine AW_run ?_
  simp [h2g, Ne.symm h2g, h32, Ne.symm h32, h3g, Ne.symm h3g]
  refine callP_ro (compare_ro _ _ (by omega) (by omega)) ?_
  simp [h2g, Ne.symm h2g, h32, Ne.symm h32, h3g, Ne.symm h3g, cmpN_ge]
  refine ⟨fun hs => ?_, fun hs => ⟨fun hle => ?_, fun hle => ?_⟩⟩
  · refine AW_mixedB mixedO (upd (upd bl g (some ⟨2, [[.bool (decide (x < 0)), .sl (iv (lim x.natAbs))]]⟩)) g2 (some ⟨2, [[.bool (decide (y < 0)), .sl (iv (lim y.natAbs))]]⟩)) (by simp [h32, h3g, hb3]) [0, 1, 2, 3, 4, 5, 6, 7] 1 (by kernel_rfl) ?_
    simp [h2g, Ne.symm h2g, h32, Ne.symm h32, h3g, Ne.symm h3g]
    refine hcQ_ro (plus_ro _ _ hx hy) ?_
    simp [h2g, Ne.symm h2g, h32, Ne.symm h32, h3g, Ne.symm h3g]
    refine hcQ_ro (signed_ro _ _) ?_
    simp [h2g, Ne.symm h2g, h32, Ne.symm h32, h3g, Ne.symm h3g]
    refine DAny_one (i := 8) (by kernel_rfl) rfl rfl ?_
    simp [h2g, Ne.symm h2g, h32, Ne.symm h32, h3g, Ne.symm h3g]
    refine ⟨by simp [h32, h3g, hb3], DAny_done (by kernel_rfl) ?_⟩
    rw [sg_add_same hs]
    simp [h2g, Ne.symm h2g, h32, Ne.symm h32, h3g, Ne.symm h3g]
    exact retRO [.agg (biC (x + y))] 1 (by simp [biC, h2g, Ne.symm h2g, h32, Ne.symm h32, h3g, Ne.symm h3g]) retAgg (by simp [hg, hb2, hb3])
  · refine AW_mixedB mixedO (upd (upd bl g (some ⟨2, [[.bool (decide (x < 0)), .sl (iv (lim x.natAbs))]]⟩)) g2 (some ⟨2, [[.bool (decide (y < 0)), .sl (iv (lim y.natAbs))]]⟩)) (by simp [h32, h3g, hb3]) [0, 1, 2, 3, 4, 5, 6, 7] 1 (by kernel_rfl) ?_
    simp [h2g, Ne.symm h2g, h32, Ne.symm h32, h3g, Ne.symm h3g]
    refine hcQ_ro (minus_ro _ _ hle hx) ?_
    simp [h2g, Ne.symm h2g, h32, Ne.symm h32, h3g, Ne.symm h3g]
    refine hcQ_ro (signed_ro _ _) ?_
    simp [h2g, Ne.symm h2g, h32, Ne.symm h32, h3g, Ne.symm h3g]
    refine DAny_one (i := 8) (by kernel_rfl) rfl rfl ?_
    simp [h2g, Ne.symm h2g, h32, Ne.symm h32, h3g, Ne.symm h3g]
    refine ⟨by simp [h32, h3g, hb3], DAny_done (by kernel_rfl) ?_⟩
    rw [sg_add_left hs hle]
    simp [h2g, Ne.symm h2g, h32, Ne.symm h32, h3g, Ne.symm h3g]
    exact retRO [.agg (biC (x + y))] 1 (by simp [biC, h2g, Ne.symm h2g, h32, Ne.symm h32, h3g, Ne.symm h3g]) retAgg (by simp [hg, hb2, hb3])
  · refine AW_mixedB mixedO (upd (upd bl g (some ⟨2, [[.bool (decide (x < 0)), .sl (iv (lim x.natAbs))]]⟩)) g2 (some ⟨2, [[.bool (decide (y < 0)), .sl (iv (lim y.natAbs))]]⟩)) (by simp [h32, h3g, hb3]) [0, 1, 2, 3, 4, 5, 6, 7] 1 (by kernel_rfl) ?_
    simp [h2g, Ne.symm h2g, h32, Ne.symm h32, h3g, Ne.symm h3g]
    refine hcQ_ro (minus_ro _ _ (by omega) hy) ?_
    simp [h2g, Ne.symm h2g, h32, Ne.symm h32, h3g, Ne.symm h3g]
    refine hcQ_ro (signed_ro _ _) ?_
    simp [h2g, Ne.symm h2g, h32, Ne.symm h32, h3g, Ne.symm h3g]
    refine DAny_one (i := 8) (by kernel_rfl) rfl rfl ?_
    simp [h2g, Ne.symm h2g, h32, Ne.symm h32, h3g, Ne.symm h3g]
    refine ⟨by simp [h32, h3g, hb3], DAny_done (by kernel_rfl) ?_⟩
    rw [sg_add_left (x := y) (y := x) (fun hh => hs ⟨hh.2, hh.1⟩) (by omega), Int.add_comm y x]
    simp [h2g, Ne.symm h2g, h32, Ne.symm h32, h3g, Ne.symm h3g]
    exact retRO [.agg (biC (x + y))] 1 (by simp [biC, h2g, Ne.symm h2g, h32, Ne.symm h32, h3g, Ne.symm h3g]) retAgg (by simp [hg, hb2, hb3])

theorem timesZ_ro (x y : Int) (hx : (lim x.natAbs).length ≤ 400000) (hy : (lim y.natAbs).length ≤ 400000) : RO Tryz.prog 231 [.agg (biC x), .agg (biC y)] (.agg (biC (x * y))) := by
  refine ro_of2 Tryz.func231 rfl rfl (by rw [Tryz.ntmps231]; simp) fun bl => ?_
  rw [Tryz.ntmps231, Tryz.results231]
  refine AW_runA ?_
  rw [show biC x = [.bool (decide (x < 0)), .sl (iv (lim x.natAbs))] from rfl, show biC y = [.bool (decide (y < 0)), .sl (iv (lim y.natAbs))] from rfl]
  simp
  intro g hg0 hg g2 hg2 h2g hb2 g3 hg3 h32 h3g hb3
  refine AW_run ?_
  simp
  refine AW_mixedB mixedO (upd (upd bl g (some ⟨2, [[.bool (decide (x < 0)), .sl (iv (lim x.natAbs))]]⟩)) g2 (some ⟨2, [[.bool (decide (y < 0)), .sl (iv (lim y.natAbs))]]⟩)) (by simp [h32, h3g, hb3]) [0, 1, 2, 3, 4, 5, 6, 7, 8, 9, 10] 1 (by kernel_rfl) ?_
  simp [h2g, Ne.symm h2g, h32, Ne.symm h32, h3g, Ne.symm h3g]
  refine hcQ_ro (times_ro _ _ hx hy) ?_
  simp [h2g, Ne.symm h2g, h32, Ne.symm h32, h3g, Ne.symm h3g]
  refine hcQ_ro (signed_ro _ _) ?_
  simp [h2g, Ne.symm h2g, h32, Ne.symm h32, h3g, Ne.symm h3g]
  refine DAny_one (i := 11) (by kernel_rfl) rfl rfl ?_
  simp [h2g, Ne.symm h2g, h32, Ne.symm h32, h3g, Ne.symm h3g]
  refine ⟨by simp [h32, h3g, hb3], DAny_done (by kernel_rfl) ?_⟩
  rw [sg_mul]
  simp [h2g, Ne.symm h2g, h32, Ne.symm h32, h3g, Ne.symm h3g]
  exact retRO [.agg (biC (x * y))] 1 (by simp [biC, h2g, Ne.symm h2g, h32, Ne.symm h32, h3g, Ne.symm h3g]) retAgg (by simp [hg, hb2, hb3])

end Go.Proofs.YticmgmemnpcbbaaGreat.Vm

namespace Go.Proofs.YticmgmemnpcbbaaGreat.Vm
open Go Go.Proofs
set_option linter.unusedSimpArgs false
set_option linter.unusedVariables false

theorem biC_def (x : Int) : biC x = [.bool (decide (x < 0)), .sl (iv (lim x.natAbs))] := rfl
theorem rqc_def (q : Rat) : (rq q).c = [.bool (decide (q.num < 0)), .sl (iv (lim q.num.natAbs)), .sl (iv (lim q.den))] := rfl
theorem rq_mk (n : Int) {d : Nat} (hd : d ≠ 0) : rq (mkRat n d) = ⟨decide (n < 0), lim (n.natAbs / Nat.gcd n.natAbs d), lim (d / Nat.gcd n.natAbs d)⟩ := by
  obtain ⟨h1, h2, h3⟩ := low_parts n hd
  unfold rq
  rw [h1, h2, decide_eq_decide.2 h3]

theorem minusZ_ro (x y : Int) (hx : (lim x.natAbs).length ≤ 1048575) (hy : (lim y.natAbs).length ≤ 1048575) : RO Tryz.prog 239 [.agg (biC x), .agg (biC y)] (.agg (biC (x - y))) := by
  refine ro_of2 Tryz.func239 rfl rfl (by rw [Tryz.ntmps239]; simp) fun bl => ?_
  rw [Tryz.ntmps239, Tryz.results239]
  refine AW_runA ?_
  simp
  intro g hg0 hg g2 hg2 h2g hb2 g3 hg3 h32 h3g hb3
  refine AW_run ?_
  simp
  refine AW_mixedB mixedO (upd (upd bl g (some ⟨2, [biC x]⟩)) g2 (some ⟨2, [biC y]⟩)) (by simp [h32, h3g, hb3]) [0, 1, 2, 3] 1 (by kernel_rfl) ?_
  simp [h2g, Ne.symm h2g, h32, Ne.symm h32, h3g, Ne.symm h3g]
  refine hcQ_ro (opposite_ro y) ?_
  simp [h2g, Ne.symm h2g, h32, Ne.symm h32, h3g, Ne.symm h3g]
  refine hcQ_ro (plusZ_ro x (-y) hx (by simpa using hy)) ?_
  rw [show x + -y = x - y by omega]
  simp [h2g, Ne.symm h2g, h32, Ne.symm h32, h3g, Ne.symm h3g]
  refine DAny_one (i := 4) (by kernel_rfl) rfl rfl ?_
  simp [h2g, Ne.symm h2g, h32, Ne.symm h32, h3g, Ne.symm h3g]
  refine ⟨by simp [h32, h3g, hb3], DAny_done (by kernel_rfl) ?_⟩
  simp
  exact retRO [.agg (biC (x - y))] 1 (by simp [biC, h2g, Ne.symm h2g, h32, Ne.symm h32, h3g, Ne.symm h3g]) retAgg (by simp [hg, hb2, hb3])

/-! ### Arithmetic of fractions -/
theorem len_mul {a b k l : Nat} (ha : (lim a).length ≤ k) (hb : (lim b).length ≤ l) : (lim (a * b)).length ≤ k + l := by
  refine lim_length_le.2 ?_
  have h1 := lim_length_le.1 ha
  have h2 := lim_length_le.1 hb
  rw [Nat.pow_add]
  exact Nat.mul_lt_mul'' h1 h2
theorem len_add {a b k : Nat} (ha : (lim a).length ≤ k) (hb : (lim b).length ≤ k) : (lim (a + b)).length ≤ k + 1 := by
  refine lim_length_le.2 ?_
  have h1 := lim_length_le.1 ha
  have h2 := lim_length_le.1 hb
  have : LB ^ (k + 1) = LB ^ k * 1000000000 := Nat.pow_succ ..
  omega
theorem len_mono {a b k : Nat} (h : a ≤ b) (hb : (lim b).length ≤ k) : (lim a).length ≤ k := Nat.le_trans (lim_length_mono h) hb
/-- Not more limbs than that. -/
def few (k : Nat) (q : Rat) : Prop := (lim q.num.natAbs).length ≤ k ∧ (lim q.den).length ≤ k
def cmpR (a b : Rat) : Int := cmpZ (a.num * b.den) (b.num * a.den)
/-- A fraction, or none. -/
def fv : Option Rat → V
  | none => .nilp
  | some q => .ptr (rq q).c
/-! ### Fractions that may be none -/
def okQ (x : Option Rat) : Prop := ∀ q, x = some q → fits q
theorem okQ_rd (r : RT) : okQ (rd r) := fun q h => (rd_some h).2
def op2 (f : Rat → Rat → Rat) (x y : Option Rat) : Option Rat := match x, y with | some a, some b => fit (f a b) | _, _ => none
end Go.Proofs.YticmgmemnpcbbaaGreat.Vm

namespace Go.Proofs.YticmgmemnpcbbaaGreat.Vm
open Go Go.Proofs
set_option linter.unusedSimpArgs false
set_option linter.unusedVariables false

theorem l02Cmp_ro (a b : Nat) (ha : (lim a).length ≤ 1048576) (hb : (lim b).length ≤ 1048576) : RO Tryz.prog 288 [.sl (iv (lim a)), .sl (iv (lim b))] (.int .i64 (cmpN a b)) := by
  refine ro_of2 Tryz.func288 rfl rfl (by rw [Tryz.ntmps288]; simp) fun bl => ?_
  rw [Tryz.ntmps288, Tryz.results288]
  refine AW_run ?_
  simp
  refine ⟨fun h => ⟨fun h1 => ?_, fun h1 => ?_⟩, fun h => ?_⟩
  · exact retRO0 (by simp [cmp_len_lt h1]) rfl rfl
  · exact retRO0 (by simp [cmp_len_gt (show (lim b).length < (lim a).length by omega)]) rfl rfl
  have h : (lim a).length = (lim b).length := by omega
  have w0 : IntKind.i64.wrap (((lim a).length : Int) - 1) = ((lim a).length : Int) - 1 := i64_in (by omega) (by omega)
  simp [w0]
  refine AW_for (fun k : Nat => [(0, .sl (iv (lim a))), (1, .sl (iv (lim b))), (5, .int .i64 ((k : Int) - 1))]) (fun _ => bl) (fun k => k ≤ (lim a).length ∧ ∀ j, k ≤ j → dg a j = dg b j) (fun k => k) _ (lim a).length ⟨Nat.le_refl _, fun j hj => by rw [dg_out hj, dg_out (by omega)]⟩ ⟨rfl, by simp, Sub.refl _⟩ ?_
  intro k ⟨hk, hc⟩
  refine AW_run ?_
  simp
  refine ⟨fun h1 => ?_, fun h1 => ?_⟩
  · obtain ⟨m, rfl⟩ : ∃ m, k = m + 1 := ⟨k - 1, by omega⟩
    have hm : m < (lim a).length := by omega
    have hm2 : m < (lim b).length := by omega
    have e1 : ((m + 1 : Nat) : Int) - 1 = m := by omega
    refine AW_quiet mixedO (by kernel_rfl) ?_
    simp [e1, lv_get _ _ hm, lv_get _ _ hm2]
    refine ⟨fun h2 => ?_, fun h2 => ?_⟩
    · exact retRO0 (by simp [cmp_lt h hm (fun j hj => hc j (by omega)) h2]) rfl rfl
    refine AW_quiet mixedO (by kernel_rfl) ?_
    simp [e1, lv_get _ _ hm, lv_get _ _ hm2]
    refine ⟨fun h3 => ?_, fun h3 => ?_⟩
    · exact retRO0 (by simp [cmp_gt h hm (fun j hj => hc j (by omega)) h3]) rfl rfl
    have w1 : IntKind.i64.wrap ((m : Int) - 1) = (m : Int) - 1 := i64_in (by omega) (by omega)
    simp [w1, loopQ_normal]
    refine ⟨m, ⟨by omega, fun j hj => ?_⟩, by omega, rfl, by simp, Sub.refl _⟩
    rcases Nat.lt_or_ge m j with hlt | hge
    · exact hc j (by omega)
    · obtain rfl : j = m := by omega
      omega
  · have : k = 0 := by omega
    subst this
    exact retRO0 (by simp [cmp_eq h fun j => hc j (Nat.zero_le _)]) rfl rfl

theorem l02Trim_ro (ns : List Int) (hd : Dig ns) (hn : ns.length ≤ 1048576) : RO Tryz.prog 290 [.sl (iv ns)] (.sl (iv (lim (val ns)))) := by
  refine ro_of2 Tryz.func290 rfl rfl (by rw [Tryz.ntmps290]; simp) fun bl => ?_
  rw [Tryz.ntmps290, Tryz.results290]
  refine AW_run ?_
  simp
  refine AW_for (fun n : Nat => [(0, .sl (iv ns)), (3, .int .i64 n)]) (fun _ => bl) (fun n => n ≤ ns.length ∧ ∀ i (hi : i < ns.length), n ≤ i → ns[i] = 0) (fun n => n) _ ns.length ⟨Nat.le_refl _, fun i hi h => by omega⟩ ⟨rfl, by simp, Sub.refl _⟩ ?_
  intro n ⟨hl, hz⟩
  refine AW_run ?_
  simp
  refine AW_way0 [(0, .sl (iv ns)), (3, .int .i64 n)] _ bl 15 (.bool (decide (0 < n) && decide (ns.getD (n - 1) 1 = 0))) ⟨rfl, by simp, Sub.refl _⟩ rfl ?_ ?_
  · simp
    refine ⟨fun h => ?_, fun h => by simp [h]⟩
    have w1 : IntKind.i64.wrap ((n : Int) - 1) = ((n - 1 : Nat) : Int) := by rw [i64_in (by omega) (by omega)]; omega
    have h2 : n - 1 < ns.length := by omega
    simp [w1, h2, h, eq_dec]
  simp
  refine ⟨fun h1 h2 => ?_, fun h1 => ?_⟩
  · have w1 : IntKind.i64.wrap ((n : Int) - 1) = ((n - 1 : Nat) : Int) := by rw [i64_in (by omega) (by omega)]; omega
    simp [w1, loopQ_normal]
    refine ⟨n - 1, ⟨by omega, fun i hi h3 => ?_⟩, by omega, rfl, by simp, Sub.refl _⟩
    rcases Nat.lt_or_ge i n with h4 | h4
    · obtain rfl : i = n - 1 := by omega
      simpa [hi] using h2
    · exact hz i hi h4
  · have hz2 : ∀ i (hi : i < ns.length), n = i + 1 → ns[i] ≠ 0 := by
      intro i hi e
      subst e
      have := h1 (by omega)
      simpa [hi] using this
    have := trim_lim hd hl hz hz2
    rw [← this]
    simp [sliV, iv_all1, hl]
    exact retRO0 (by simp [iv_take]) rfl rfl

theorem l02Cap_ro (ns : List Int) (hd : Dig ns) (hn : ns.length ≤ 1048576) : RO Tryz.prog 280 [.sl (iv ns)] (.sl (iv (if (lim (val ns)).length ≤ 60 then lim (val ns) else []))) := by
  refine ro_of2 Tryz.func280 rfl rfl (by rw [Tryz.ntmps280]; simp) fun bl => ?_
  rw [Tryz.ntmps280, Tryz.results280]
  refine AW_run ?_
  simp
  refine callP_ro (l02Trim_ro ns hd hn) ?_
  simp
  refine ⟨fun h => ?_, fun h => ?_⟩
  · rw [if_neg (by omega)]
    exact retRO [.nils] 0 (by simp) rfl (Sub.refl _)
  · rw [if_pos (by omega)]
    exact retRO0 (by simp) rfl rfl

theorem l02Add_ro (a b : Nat) (ha : (lim a).length ≤ 1000000) (hb : (lim b).length ≤ 1000000) : RO Tryz.prog 287 [.sl (iv (lim a)), .sl (iv (lim b))] (.sl (iv (lim (a + b)))) := by
  refine ro_of2 Tryz.func287 rfl rfl (by rw [Tryz.ntmps287]; simp) fun bl => ?_
  rw [Tryz.ntmps287, Tryz.results287]
  refine AW_run ?_
  simp
  intro g0 hg0 hb0
  refine AW_for (fun p : Int × PL => [(0, .sl (iv (lim a))), (1, .sl (iv (lim b))), (5, .lsl p.1 1 0 p.2.i), (6, .int .i64 p.2.c), (7, .int .i64 p.2.i)]) (fun p => upd bl p.1 (some ⟨1, iv p.2.o⟩))
    (fun p => 0 ≤ p.1 ∧ bl p.1 = none ∧ PlusI a b p.2.i p.2.o p.2.c ∧ p.2.i ≤ 1000002 ∧ (p.2.i = 0 ∨ LB ^ (p.2.i - 1) ≤ a + b)) (fun p => 1000003 - p.2.i) _ (g0, ⟨0, [], 0⟩) ⟨hg0, hb0, PlusI.start a b, by simp, .inl rfl⟩ ⟨rfl, by simp, sub_eq (by simp [iv])⟩ ?_
  rintro ⟨g, i, o, c⟩ ⟨hg, hbg, hI, hi, hm⟩
  simp only at hg hbg hI hi hm
  have hb1 := hI.x
  have hd1 := dg_lt a i
  have hd2 := dg_lt b i
  have hc0 := hI.c0
  have hc1 := hI.c1
  have hol := hI.len
  refine AW_run ?_
  simp
  refine AW_way0 [(0, .sl (iv (lim a))), (1, .sl (iv (lim b))), (5, .lsl g 1 0 i), (6, .int .i64 c), (7, .int .i64 i)] _ _ 23 (.bool ((decide (i < (lim a).length) || decide (i < (lim b).length)) || decide (0 < c))) ⟨rfl, by simp, Sub.refl _⟩ rfl ?_ ?_
  · simp
    exact ⟨fun h => .inl (.inl h), fun h => ⟨fun h2 => .inl (.inr h2), fun h2 h3 => by omega⟩⟩
  simp
  refine ⟨fun h => ?_, fun h1 h2 h3 => ?_⟩
  · have hmore := hI.more (by omega)
    have hlen : i < (lim (a + b)).length := by
      rcases Nat.lt_or_ge i (lim (a + b)).length with hh | hh
      · exact hh
      · have := lim_length_le.1 hh; omega
    have hlab := len_add (k := 1000000) ha hb
    have w3 : IntKind.i64.wrap ((i : Int) + 1) = i + 1 := i64_in (by omega) (by omega)
    refine ⟨fun h1 => ?_, fun h1 => ?_⟩
    · simp [lv_get _ _ h1]
      have wa0 : IntKind.i64.wrap (c + (dg a i : Nat)) = c + (dg a i : Nat) := i64_in (by omega) (by omega)
      simp [wa0]
      refine ⟨fun h2 => ?_, fun h2 => ?_⟩
      · have wa : IntKind.i64.wrap (c + (dg a i : Nat)) = c + (dg a i : Nat) := i64_in (by omega) (by omega)
        have wb : IntKind.i64.wrap (c + (dg a i : Nat) + (dg b i : Nat)) = c + (dg a i : Nat) + (dg b i : Nat) := i64_in (by omega) (by omega)
        have wq1 := wq (x := c + (dg a i : Nat) + (dg b i : Nat)) (n := 1000000000) (by omega) (by omega) (by omega)
        try simp [wq1, w3, wa, wb, lv_get _ _ h1, lv_get _ _ h2]
        intro g2 hg2 h2g hb2
        try simp [wq1, w3, wa, wb, lv_get _ _ h1, lv_get _ _ h2, h2g, Ne.symm h2g, appV, elsV, Int.not_lt.2 hg2, hol]
        refine ⟨by omega, fun g3 hg3 hb3 => ?_⟩
        have hb3' : bl g3 = none := by grind
        try simp [wq1, w3, wa, wb, lv_get _ _ h1, lv_get _ _ h2]
        rw [loopQ_normal]
        refine ⟨(g3, ⟨i + 1, o ++ [(c + (dg a i : Nat) + (dg b i : Nat)).tmod 1000000000], (c + (dg a i : Nat) + (dg b i : Nat)).tdiv 1000000000⟩), ⟨hg3, hb3', hI.next (by omega), by simp only; omega, .inr (by simpa using hmore)⟩, by simp only; omega, rfl, by simp, ?_⟩
        rw [iv_append]
        exact sub_put (by rw [← hol, iv_takeall]; simp [iv]) (by simp [hbg, hb2, h2g])
      · have wa : IntKind.i64.wrap (c + (dg a i : Nat)) = c + (dg a i : Nat) := i64_in (by omega) (by omega)
        have zb : dg b i = 0 := dg_out (by omega)
        have wq1 := wq (x := c + (dg a i : Nat)) (n := 1000000000) (by omega) (by omega) (by omega)
        try simp [wq1, w3, wa, lv_get _ _ h1]
        intro g2 hg2 h2g hb2
        try simp [wq1, w3, wa, lv_get _ _ h1, h2g, Ne.symm h2g, appV, elsV, Int.not_lt.2 hg2, hol]
        refine ⟨by omega, fun g3 hg3 hb3 => ?_⟩
        have hb3' : bl g3 = none := by grind
        try simp [wq1, w3, wa, lv_get _ _ h1]
        rw [loopQ_normal]
        refine ⟨(g3, ⟨i + 1, o ++ [(c + (dg a i : Nat)).tmod 1000000000], (c + (dg a i : Nat)).tdiv 1000000000⟩), ⟨hg3, hb3', hI.next (by omega), by simp only; omega, .inr (by simpa using hmore)⟩, by simp only; omega, rfl, by simp, ?_⟩
        rw [iv_append]
        exact sub_put (by rw [← hol, iv_takeall]; simp [iv]) (by simp [hbg, hb2, h2g])
    · refine ⟨fun h2 => ?_, fun h2 => ?_⟩
      · have wb : IntKind.i64.wrap (c + (dg b i : Nat)) = c + (dg b i : Nat) := i64_in (by omega) (by omega)
        have za : dg a i = 0 := dg_out (by omega)
        have wq1 := wq (x := c + (dg b i : Nat)) (n := 1000000000) (by omega) (by omega) (by omega)
        try simp [wq1, w3, wb, lv_get _ _ h2]
        intro g2 hg2 h2g hb2
        try simp [wq1, w3, wb, lv_get _ _ h2, h2g, Ne.symm h2g, appV, elsV, Int.not_lt.2 hg2, hol]
        refine ⟨by omega, fun g3 hg3 hb3 => ?_⟩
        have hb3' : bl g3 = none := by grind
        try simp [wq1, w3, wb, lv_get _ _ h2]
        rw [loopQ_normal]
        refine ⟨(g3, ⟨i + 1, o ++ [(c + (dg b i : Nat)).tmod 1000000000], (c + (dg b i : Nat)).tdiv 1000000000⟩), ⟨hg3, hb3', hI.next (by omega), by simp only; omega, .inr (by simpa using hmore)⟩, by simp only; omega, rfl, by simp, ?_⟩
        rw [iv_append]
        exact sub_put (by rw [← hol, iv_takeall]; simp [iv]) (by simp [hbg, hb2, h2g])
      · have za : dg a i = 0 := dg_out (by omega)
        have zb : dg b i = 0 := dg_out (by omega)
        have wq1 := wq (x := c) (n := 1000000000) (by omega) (by omega) (by omega)
        try simp [wq1, w3]
        intro g2 hg2 h2g hb2
        try simp [wq1, w3, h2g, Ne.symm h2g, appV, elsV, Int.not_lt.2 hg2, hol]
        refine ⟨by omega, fun g3 hg3 hb3 => ?_⟩
        have hb3' : bl g3 = none := by grind
        try simp [wq1, w3]
        rw [loopQ_normal]
        refine ⟨(g3, ⟨i + 1, o ++ [(c).tmod 1000000000], (c).tdiv 1000000000⟩), ⟨hg3, hb3', hI.next (by omega), by simp only; omega, .inr (by simpa using hmore)⟩, by simp only; omega, rfl, by simp, ?_⟩
        rw [iv_append]
        exact sub_put (by rw [← hol, iv_takeall]; simp [iv]) (by simp [hbg, hb2, h2g])
  · have hc : c = 0 := by omega
    subst hc
    rw [← hI.spec (by omega) (by omega) hm]
    exact retRO [.lsl g 1 0 i] 1 (by simp) (frz_slice hg hbg (by simp) (by simp [hol]) (iv_cl o)) (by simp [hbg])

end Go.Proofs.YticmgmemnpcbbaaGreat.Vm

namespace Go.Proofs.YticmgmemnpcbbaaGreat.Vm
open Go Go.Proofs
set_option linter.unusedSimpArgs false
set_option linter.unusedVariables false

theorem l02Mul_ro (a b : Nat) (ha : (lim a).length ≤ 400000) (hb : (lim b).length ≤ 400000) : RO Tryz.prog 266 [.sl (iv (lim a)), .sl (iv (lim b))] (.sl (iv (lim (a * b)))) := by
  by_cases h0 : a = 0 ∨ b = 0
  · have hz : a * b = 0 := Nat.mul_eq_zero.2 h0
    rw [hz, lim_zero]
    refine ro_of2 Tryz.func266 rfl rfl (by rw [Tryz.ntmps266]; simp) fun bl => ?_
    rw [Tryz.ntmps266, Tryz.results266]
    refine AW_run ?_
    simp
    refine AW_way0 [(0, .sl (iv (lim a))), (1, .sl (iv (lim b)))] _ bl 19 (.bool true) ⟨rfl, by simp, Sub.refl _⟩ rfl ?_ ?_
    · simp
      rcases h0 with h0 | h0
      · simp [h0, lim_zero]
      · simp [h0, lim_zero]
    simp
    exact retRO [.nils] 0 (by simp) rfl (Sub.refl _)
  have ha0 : a ≠ 0 := by omega
  have hb0 : b ≠ 0 := by omega
  have la : (lim a).length ≠ 0 := fun h => ha0 (lim_nil.1 (List.length_eq_zero_iff.1 h))
  have lb : (lim b).length ≠ 0 := fun h => hb0 (lim_nil.1 (List.length_eq_zero_iff.1 h))
  refine ro_of2 Tryz.func266 rfl rfl (by rw [Tryz.ntmps266]; simp) fun bl => ?_
  rw [Tryz.ntmps266, Tryz.results266]
  refine AW_run ?_
  simp
  refine AW_way0 [(0, .sl (iv (lim a))), (1, .sl (iv (lim b)))] _ bl 19 (.bool false) ⟨rfl, by simp, Sub.refl _⟩ rfl ?_ ?_
  · have na : lim a ≠ [] := fun h => la (by rw [h]; rfl)
    have nb : lim b ≠ [] := fun h => lb (by rw [h]; rfl)
    simp [na, nb]
  have w0 : IntKind.i64.wrap (((lim a).length : Int) + (lim b).length) = (lim a).length + (lim b).length := i64_in (by omega) (by omega)
  simp [w0]
  refine ⟨(lim a).length + (lim b).length, by simp, by simp, by omega, by unfold maxLen; omega, fun g hg0 hg => ?_⟩
  have er : List.replicate ((lim a).length + (lim b).length) [V.int IntKind.i64 0] = iv (List.replicate ((lim a).length + (lim b).length) 0) := by simp [iv]
  simp [er]
  refine AW_for (fun p : TL => [(0, .sl (iv (lim a))), (1, .sl (iv (lim b))), (5, .lsl g 1 0 ((lim a).length + (lim b).length)), (26, .sl (iv (lim a))), (27, .int .i64 (lim a).length), (28, .int .i64 p.i)]) (fun p => upd bl g (some ⟨1, iv p.O⟩))
    (fun p => p.i ≤ (lim a).length ∧ TimesI a b p.i 0 p.O 0) (fun p => (lim a).length - p.i) _ ⟨0, 0, _, 0⟩ ⟨Nat.zero_le _, TimesI.start a b⟩ ⟨rfl, by simp, sub_eq (by simp)⟩ ?_
  rintro ⟨i, j0, O, c0⟩ ⟨hi, hI⟩
  simp only at hi hI
  refine AW_run ?_
  simp
  refine ⟨fun h1 => ?_, fun h1 => ?_⟩
  · simp [lv_get _ _ h1]
    refine AW_for (fun p : TL => [(0, .sl (iv (lim a))), (1, .sl (iv (lim b))), (5, .lsl g 1 0 ((lim a).length + (lim b).length)), (6, .int .i64 i), (7, .int .i64 (dg a i : Nat)), (8, .int .i64 p.c), (26, .sl (iv (lim a))), (27, .int .i64 (lim a).length), (28, .int .i64 i), (33, .sl (iv (lim b))), (34, .int .i64 (lim b).length), (35, .int .i64 p.j)]) (fun p => upd bl g (some ⟨1, iv p.O⟩))
      (fun p => p.j ≤ (lim b).length ∧ TimesI a b i p.j p.O p.c) (fun p => (lim b).length - p.j) _ ⟨i, 0, O, 0⟩ ⟨Nat.zero_le _, hI⟩ ⟨rfl, by simp, sub_eq (by simp)⟩ ?_
    rintro ⟨i', j, O, c⟩ ⟨hj, hJ⟩
    simp only at hj hJ
    have hlen := hJ.len
    refine AW_run ?_
    simp
    refine ⟨fun h2 => ?_, fun h2 => ?_⟩
    · have hk : i + j < O.length := by omega
      obtain ⟨n1, n2, n3, hN⟩ := hJ.next h1 h2 hk
      have w1 : IntKind.i64.wrap ((i : Int) + j) = (i : Int) + j := i64_in (by omega) (by omega)
      have p1 : 0 ≤ (i : Int) + j := by omega
      have p2 : (i : Int) + j < (lim a).length + (lim b).length := by omega
      have p3 : ((i : Int) + j).toNat = i + j := by omega
      have w3 : IntKind.i64.wrap ((j : Int) + 1) = j + 1 := i64_in (by omega) (by omega)
      have hm : 0 ≤ (dg a i : Int) * dg b j ∧ (dg a i : Int) * dg b j < 1000000000000000000 := by
        have hO := hJ.dig.at hk
        have e : 0 ≤ (dg a i : Int) * dg b j := by rw [← Int.natCast_mul]; omega
        exact ⟨e, by omega⟩
      have hO := hJ.dig.at hk
      have w4 : IntKind.i64.wrap ((dg a i : Int) * dg b j) = (dg a i : Int) * dg b j := i64_in (by omega) (by omega)
      have w5 : IntKind.i64.wrap (O[i + j] + (dg a i : Int) * dg b j) = O[i + j] + (dg a i : Int) * dg b j := i64_in (by omega) (by omega)
      have w6 : IntKind.i64.wrap (O[i + j] + (dg a i : Int) * dg b j + c) = O[i + j] + (dg a i : Int) * dg b j + c := i64_in (by omega) (by omega)
      have w7 := wq (x := O[i + j] + (dg a i : Int) * dg b j + c) (n := 1000000000) n3 (by omega) (by omega)
      simp [lv_get _ _ h2, w1, w3, w4, w5, w6, w7, p1, p2, p3, hk]
      rw [loopQ_normal]
      obtain ⟨c', hc'⟩ : ∃ c' : Nat, (O[i + j] + (dg a i : Int) * dg b j + c).tdiv 1000000000 = c' := ⟨((O[i + j] + (dg a i : Int) * dg b j + c).tdiv 1000000000).toNat, by omega⟩
      refine ⟨⟨i, j + 1, O.set (i + j) ((O[i + j] + (dg a i : Int) * dg b j + c).tmod 1000000000), c'⟩, ⟨by simp only; omega, ?_⟩, by simp only; omega, rfl, by simp [hc'], sub_eq ?_⟩
      · rw [hc'] at hN; exact hN
      · rw [iv_set]
    · have e : j = (lim b).length := by omega
      have hk : i + (lim b).length < O.length := by omega
      have hR := hJ.row h1 (by omega) hj hk
      have w1 : IntKind.i64.wrap ((i : Int) + (lim b).length) = (i : Int) + (lim b).length := i64_in (by omega) (by omega)
      have p1 : 0 ≤ (i : Int) + (lim b).length := by omega
      have p2 : (i : Int) + (lim b).length < (lim a).length + (lim b).length := by omega
      have p3 : ((i : Int) + (lim b).length).toNat = i + (lim b).length := by omega
      have w3 : IntKind.i64.wrap ((i : Int) + 1) = i + 1 := i64_in (by omega) (by omega)
      simp [w1, w3, p1, p2, p3, hk]
      rw [loopQ_normal]
      refine ⟨⟨i + 1, 0, O.set (i + (lim b).length) c, 0⟩, ⟨by simp only; omega, hR⟩, by simp only; omega, rfl, by simp, sub_eq ?_⟩
      rw [iv_set]
  · have hv := hI.done (c := 0) (by omega)
    have hlen := hI.len
    have hg' : bl g = none := by simpa using hg
    try simp
    refine callP_gro 1 bl _ (by simp [hg']) (frz_own hg0 hg' (by simp) hlen) (l02Trim_ro _ hI.dig (by omega)) ?_
    rw [hv]
    simp
    exact retRO0 (by simp) rfl rfl

theorem l02Small_ro (a b : Nat) (ha : (lim a).length ≤ 1048576) (hb0 : 0 < b) (hb : b < 1000000000) : RO Tryz.prog 295 [.sl (iv (lim a)), .int .i64 b] (.tup [.sl (iv (lim (a / b))), .int .i64 (a % b : Nat)]) := by
  refine ro_of2 Tryz.func295 rfl rfl (by rw [Tryz.ntmps295]; simp) fun bl => ?_
  rw [Tryz.ntmps295, Tryz.results295]
  refine AW_run ?_
  simp
  refine ⟨by omega, by unfold maxLen; omega, fun g hg0 hg => ?_⟩
  have er : List.replicate ((lim a).length) [V.int IntKind.i64 0] = iv (List.replicate ((lim a).length) 0) := by simp [iv]
  have w0 : IntKind.i64.wrap (((lim a).length : Int) - 1) = ((lim a).length : Int) - 1 := i64_in (by omega) (by omega)
  simp [er, w0]
  refine AW_for (fun p : SL => [(0, .sl (iv (lim a))), (1, .int .i64 b), (6, .lsl g 1 0 (lim a).length), (7, .int .i64 p.r), (8, .int .i64 ((p.i : Int) - 1))]) (fun p => upd bl g (some ⟨1, iv (List.replicate p.i 0 ++ p.Q)⟩))
    (fun p => 0 ≤ p.r ∧ DivI a b p.i p.Q p.r.toNat) (fun p => p.i) _ ⟨(lim a).length, [], 0⟩ ⟨Int.le_refl _, DivI.start a b hb0⟩ ⟨rfl, by simp, sub_eq (by simp)⟩ ?_
  rintro ⟨i, Q, r⟩ ⟨hr0, hI⟩
  simp only at hr0 hI
  have hr := hI.rlt
  have hle := hI.le
  have hql := hI.len
  refine AW_run ?_
  simp [-binV, -intV]
  refine ⟨fun h1 => ?_, fun h1 => ?_⟩
  · obtain ⟨m, rfl⟩ : ∃ m, i = m + 1 := ⟨i - 1, by omega⟩
    have hm : m < (lim a).length := by omega
    have hd := dg_lt a m
    obtain ⟨z, hz⟩ : ∃ z, z = r.toNat * 1000000000 + dg a m := ⟨_, rfl⟩
    have hN := hI.next (q := z / b) (r' := z % b) (by rw [hz]) (by rw [hz])
    have e1 : ((m + 1 : Nat) : Int) - 1 = m := by omega
    have w1 : IntKind.i64.wrap (r * 1000000000) = r * 1000000000 := i64_in (by omega) (by omega)
    have w2 : IntKind.i64.wrap (r * 1000000000 + dg a m) = z := by rw [i64_in (by omega) (by omega)]; omega
    have hz2 : z ≤ 9223372036854775807 := by omega
    simp [-binV, -intV, e1, lv_get _ _ hm, w1, w2]
    clear w1 w2 hz
    have b0 : ¬ b = 0 := by omega
    have hg' : bl g = none := by simpa using hg
    have w3 := wq (x := (z : Int)) (n := b) (by omega) (by omega) (by omega)
    have w4 : (z : Int).tdiv b = (z / b : Nat) := by rw [Int.tdiv_eq_ediv_of_nonneg (by omega)]; simp
    have w5 : (z : Int).tmod b = (z % b : Nat) := by rw [Int.tmod_eq_emod_of_nonneg (by omega)]; simp
    rw [w4] at w3
    have w3' : IntKind.i64.wrap ((z : Int) / b) = (z : Int) / b := by simpa using w3
    have q : (iv (List.replicate (m + 1) 0 ++ Q))[m]? = some [.int .i64 0] := by rw [iv_get _ _ (by simp; omega)]; simp
    have w6 : IntKind.i64.wrap ((m : Int) - 1) = (m : Int) - 1 := i64_in (by omega) (by omega)
    refine ⟨by omega, ?_⟩
    simp [-binV, -intV, w3', w4, w5, hm, b0, q, w6]
    rw [loopQ_normal]
    refine ⟨⟨m, ((z / b : Nat) : Int) :: Q, (z % b : Nat)⟩, ⟨by simp only; omega, by show DivI a b m _ (((z % b : Nat) : Int)).toNat; rw [Int.toNat_natCast]; exact hN⟩, by simp only; omega, rfl, by simp, sub_eq ?_⟩
    rw [← fill_set m _ 0 Q, ← iv_set]
    simp
  · have e : i = 0 := by omega
    subst e
    obtain ⟨h2, h3⟩ := hI.done
    have h4 : r = (a % b : Nat) := by omega
    have hg' : bl g = none := by simpa using hg
    try simp
    refine callP_gro 1 bl _ (by simp [hg']) (frz_own (ns := Q) hg0 hg' (by simp) (by simp [hql])) (l02Trim_ro _ hI.dig (by omega)) ?_
    simp [h2, h4]
    exact retRO [.sl (iv (lim (a / b))), .int .i64 (a % b : Nat)] 1 (by simp) rfl (by simp)

theorem l02Sub_ro (a b : Nat) (hab : b ≤ a) (ha : (lim a).length ≤ 1000000) : RO Tryz.prog 289 [.sl (iv (lim a)), .sl (iv (lim b))] (.sl (iv (lim (a - b)))) := by
  refine ro_of2 Tryz.func289 rfl rfl (by rw [Tryz.ntmps289]; simp) fun bl => ?_
  rw [Tryz.ntmps289, Tryz.results289]
  refine AW_run ?_
  simp
  intro g0 hg0 hb0
  refine AW_for (fun p : Int × ML => [(0, .sl (iv (lim a))), (1, .sl (iv (lim b))), (5, .lsl p.1 1 0 p.2.i), (6, .int .i64 p.2.br), (10, .sl (iv (lim a))), (11, .int .i64 (lim a).length), (12, .int .i64 p.2.i)]) (fun p => upd bl p.1 (some ⟨1, iv p.2.o⟩))
    (fun p => 0 ≤ p.1 ∧ bl p.1 = none ∧ MinusI a b p.2.i p.2.o p.2.br ∧ p.2.i ≤ (lim a).length) (fun p => (lim a).length - p.2.i) _ (g0, ⟨0, [], 0⟩) ⟨hg0, hb0, MinusI.start a b, by simp⟩ ⟨rfl, by simp, sub_eq (by simp [iv])⟩ ?_
  rintro ⟨g, i, o, br⟩ ⟨hg, hbg, hI, hi⟩
  simp only at hg hbg hI hi
  have hb1 := hI.x
  have hd1 := dg_lt a i
  have hd2 := dg_lt b i
  have hc1 := hI.c1
  have hol := hI.len
  refine AW_run ?_
  simp
  refine ⟨fun h1 => ?_, fun h1 => ?_⟩
  · have w1 : IntKind.i64.wrap ((dg a i : Int) - br) = dg a i - br := i64_in (by omega) (by omega)
    have w2 : IntKind.i64.wrap ((dg a i : Int) - br - dg b i) = dg a i - br - dg b i := i64_in (by omega) (by omega)
    have w3 : IntKind.i64.wrap ((i : Int) + 1) = i + 1 := i64_in (by omega) (by omega)
    simp [lv_get _ _ h1, w1]
    refine ⟨fun h2 => ?_, fun h2 => ?_⟩
    · simp [lv_get _ _ h2, w2]
      refine ⟨fun h3 => ?_, fun h3 => ?_⟩
      · have w4 : IntKind.i64.wrap ((dg a i : Int) - br - dg b i + 1000000000) = dg a i - br - dg b i + 1000000000 := i64_in (by omega) (by omega)
        try simp [w4, w3]
        intro g2 hg2 h2g hb2
        simp [w4, w3, h2g, Ne.symm h2g, appV, elsV, Int.not_lt.2 hg2, hol]
        refine ⟨by omega, fun g3 hg3 hb3 => ?_⟩
        have hb3' : bl g3 = none := by grind
        try simp [w4, w3]
        rw [loopQ_normal]
        refine ⟨(g3, ⟨i + 1, o ++ [((dg a i : Int) - br - dg b i + 1000000000 : Int)], 1⟩), ⟨hg3, hb3', hI.next1 (x := (dg a i : Int) - br - dg b i) rfl (by omega), by simp only; omega⟩, by simp only; omega, rfl, by simp, ?_⟩
        rw [iv_append]
        exact sub_put (by rw [← hol, iv_takeall]; simp [iv]) (by simp [hbg, hb2, h2g])
      · try simp [w3]
        intro g2 hg2 h2g hb2
        simp [w3, h2g, Ne.symm h2g, appV, elsV, Int.not_lt.2 hg2, hol]
        refine ⟨by omega, fun g3 hg3 hb3 => ?_⟩
        have hb3' : bl g3 = none := by grind
        try simp [w3]
        rw [loopQ_normal]
        refine ⟨(g3, ⟨i + 1, o ++ [((dg a i : Int) - br - dg b i : Int)], 0⟩), ⟨hg3, hb3', hI.next0 (x := (dg a i : Int) - br - dg b i) rfl (by omega), by simp only; omega⟩, by simp only; omega, rfl, by simp, ?_⟩
        rw [iv_append]
        exact sub_put (by rw [← hol, iv_takeall]; simp [iv]) (by simp [hbg, hb2, h2g])
    · have d0 : dg b i = 0 := dg_out (by omega)
      refine ⟨fun h3 => ?_, fun h3 => ?_⟩
      · have w4 : IntKind.i64.wrap ((dg a i : Int) - br + 1000000000) = dg a i - br + 1000000000 := i64_in (by omega) (by omega)
        try simp [w4, w3]
        intro g2 hg2 h2g hb2
        simp [w4, w3, h2g, Ne.symm h2g, appV, elsV, Int.not_lt.2 hg2, hol]
        refine ⟨by omega, fun g3 hg3 hb3 => ?_⟩
        have hb3' : bl g3 = none := by grind
        try simp [w4, w3]
        rw [loopQ_normal]
        refine ⟨(g3, ⟨i + 1, o ++ [((dg a i : Int) - br + 1000000000 : Int)], 1⟩), ⟨hg3, hb3', hI.next1 (x := (dg a i : Int) - br) (by omega) (by omega), by simp only; omega⟩, by simp only; omega, rfl, by simp, ?_⟩
        rw [iv_append]
        exact sub_put (by rw [← hol, iv_takeall]; simp [iv]) (by simp [hbg, hb2, h2g])
      · try simp [w3]
        intro g2 hg2 h2g hb2
        simp [w3, h2g, Ne.symm h2g, appV, elsV, Int.not_lt.2 hg2, hol]
        refine ⟨by omega, fun g3 hg3 hb3 => ?_⟩
        have hb3' : bl g3 = none := by grind
        try simp [w3]
        rw [loopQ_normal]
        refine ⟨(g3, ⟨i + 1, o ++ [((dg a i : Int) - br : Int)], 0⟩), ⟨hg3, hb3', hI.next0 (x := (dg a i : Int) - br) (by omega) (by omega), by simp only; omega⟩, by simp only; omega, rfl, by simp, ?_⟩
        rw [iv_append]
        exact sub_put (by rw [← hol, iv_takeall]; simp [iv]) (by simp [hbg, hb2, h2g])
  · have e : i = (lim a).length := by omega
    subst e
    have hv := hI.done hab (Nat.le_refl _)
    refine callP_gro 1 bl _ (by simp [hbg]) (frz_own (ns := o) hg hbg (by simp) hol) (l02Trim_ro _ hI.dig (by omega)) ?_
    simp [hv]
    exact retRO0 (by simp) rfl rfl

theorem spec_NatOf_ro (N : Nat) (hN : N ≤ 9223372036854775807) : RO Tryz.prog 267 [.int .i64 N] (.sl (iv (lim N))) := by
  have hL := lim_u64 (show N ≤ 18446744073709551615 by omega)
  refine ro_of2 Tryz.func267 rfl rfl (by rw [Tryz.ntmps267]; simp) fun bl => ?_
  rw [Tryz.ntmps267, Tryz.results267]
  refine AW_run ?_
  simp
  intro g0 hg0 hb0
  refine AW_for (fun p : Int × List Int × Nat => [(0, .int .i64 p.2.2), (3, .lsl p.1 1 0 p.2.1.length)]) (fun p => upd bl p.1 (some ⟨1, iv p.2.1⟩)) (fun p => lim N = p.2.1 ++ lim p.2.2 ∧ p.2.2 ≤ 9223372036854775807 ∧ bl p.1 = none ∧ 0 ≤ p.1) (fun p => p.2.2) _ (g0, [], N) ⟨by simp, hN, hb0, hg0⟩ ⟨rfl, by simp, sub_eq (by simp [iv])⟩ ?_
  rintro ⟨g, o, n⟩ ⟨hl, hn, hg, h0⟩
  simp only at hl hn hg h0
  have hlo : o.length ≤ 3 := by have := congrArg List.length hl; simp at this; omega
  refine AW_run ?_
  simp
  refine ⟨fun h => ?_, fun h => ?_⟩
  · have m0 : (n : Int).tmod 1000000000 = ((n % 1000000000 : Nat) : Int) := by rw [Int.tmod_eq_emod_of_nonneg (by omega)]; omega
    have q0 : (n : Int).tdiv 1000000000 = ((n / 1000000000 : Nat) : Int) := by rw [Int.tdiv_eq_ediv_of_nonneg (by omega)]; omega
    have w2 : IntKind.i64.wrap ((n : Int) / 1000000000) = (n : Int) / 1000000000 := i64_in (by omega) (by omega)
    intro g2 hg2 h2g hb2
    simp [h2g, Ne.symm h2g, appV, elsV, Int.not_lt.2 hg2, m0, q0, w2]
    refine ⟨by omega, fun g3 hg3 hb3 => ?_⟩
    have hb3' : bl g3 = none := by grind
    try simp [m0, q0, w2]
    rw [loopQ_normal]
    refine ⟨(g3, o ++ [((n % 1000000000 : Nat) : Int)], n / 1000000000), ⟨by rw [hl, lim_step h]; simp, by simp only; omega, hb3', hg3⟩, by simp only; omega, rfl, by simp, ?_⟩
    rw [iv_append]
    exact sub_put (by rw [iv_takeall]; simp [iv, m0]) (by simp [hg, hb2, h2g])
  · have e : n = 0 := by omega
    subst e
    rw [lim_zero, List.append_nil] at hl
    rw [hl]
    exact retRO [.lsl g 1 0 o.length] 1 (by simp) (frz_slice h0 hg (by simp) (by simp) (iv_cl o)) (by simp [hg])

theorem l02Plain_ro (a b : Nat) (ha : a ≤ 9223372036854775807) (hb : b ≤ 9223372036854775807) : RO Tryz.prog 285 [.int .i64 a, .int .i64 b] (.sl (iv (lim (Nat.gcd a b)))) := by
  refine ro_of2 Tryz.func285 rfl rfl (by rw [Tryz.ntmps285]; simp) fun bl => ?_
  rw [Tryz.ntmps285, Tryz.results285]
  refine AW_run ?_
  simp
  refine AW_for (fun p : Nat × Nat => [(0, .int .i64 p.1), (1, .int .i64 p.2)]) (fun _ => bl) (fun p => Nat.gcd p.1 p.2 = Nat.gcd a b ∧ p.1 ≤ 9223372036854775807 ∧ p.2 ≤ 9223372036854775807) (fun p => p.2) _ (a, b) ⟨rfl, ha, hb⟩ ⟨rfl, by simp, Sub.refl _⟩ ?_
  rintro ⟨x, y⟩ ⟨hg, hx, hy⟩
  simp only at hg hx hy
  refine AW_run ?_
  simp
  refine ⟨fun h => ?_, fun h => ?_⟩
  · have hy0 : ¬ y = 0 := by omega
    have hlt := Nat.mod_lt x h
    have m0 : (x : Int).tmod y = ((x % y : Nat) : Int) := by rw [Int.tmod_eq_emod_of_nonneg (by omega)]; simp
    simp [hy0, m0, loopQ_normal]
    refine ⟨y, x % y, ⟨?_, hy, by omega⟩, hlt, rfl, by simp, Sub.refl _⟩
    rw [← hg, Nat.gcd_comm x y, Nat.gcd_rec y x, Nat.gcd_comm]
  · have h0 : y = 0 := by omega
    subst h0
    rw [Nat.gcd_zero_right] at hg
    refine callP_ro (spec_NatOf_ro x hx) ?_
    rw [← hg]
    simp
    exact retRO0 (by simp) rfl rfl

end Go.Proofs.YticmgmemnpcbbaaGreat.Vm

namespace Go.Proofs.YticmgmemnpcbbaaGreat.Vm
open Go Go.Proofs
set_option linter.unusedSimpArgs false
set_option linter.unusedVariables false

theorem natOk_lim {n : Nat} (h : (lim n).length ≤ 60) : natOk (lim n) = true := by unfold natOk; simp [h]
theorem lim_max : lim 9223372036854775807 = [854775807, 223372036, 9] := by
  refine lim_of ?_ (by decide +kernel) (.inr (by decide +kernel))
  intro d hd
  simp at hd
  omega
theorem cmpN_le {a b : Nat} : cmpN a b ≤ 0 ↔ a ≤ b := by unfold cmpN; split <;> (try split) <;> omega
theorem val_drop_le (n k : Nat) : val ((lim n).drop k) ≤ n := by
  rcases Nat.lt_or_ge (lim n).length k with h | h
  · rw [List.drop_of_length_le (by omega)]; exact Nat.zero_le _
  · have := val_split (lim n) h
    rw [val_lim] at this
    have hp : 1 ≤ LB ^ k := Nat.pow_pos LB_pos
    have := Nat.mul_le_mul_right (val ((lim n).drop k)) hp
    omega
theorem NatToInt_ro (n : Nat) (hn : n ≤ 9223372036854775807) : RO Tryz.prog 284 [.sl (iv (lim n))] (.tup [.int .i64 n, .bool true]) := by
  have hL := lim_u64 (show n ≤ 18446744073709551615 by omega)
  refine ro_of2 Tryz.func284 rfl rfl (by rw [Tryz.ntmps284]; simp) fun bl => ?_
  rw [Tryz.ntmps284, Tryz.results284]
  refine AW_run ?_
  simp
  refine AW_wayS [(0, .sl (iv (lim n)))] _ bl 14 (.bool false) ⟨rfl, by simp, Sub.refl _⟩ rfl ?_ ?_
  · simp
    refine callP_ro (spec_NatOk_ro _ (by omega)) ?_
    simp [natOk_lim (show (lim n).length ≤ 60 by omega)]
    intro g hg0 hg
    refine callP_borrow 1 (ys := [.sl (iv (lim n)), .sl (iv (lim 9223372036854775807))]) ?_ (l02Cmp_ro n 9223372036854775807 (by omega) (by rw [lim_max]; simp)) rfl ?_
    · have er3 : List.range 3 = [0, 1, 2] := rfl
      simp [frzL, frz, lim_max, iv, V.cl, Int.not_lt.2 hg0, er3]
    simp [hg]
    have := cmpN_le.2 hn
    omega
  have w0 : IntKind.i64.wrap (((lim n).length : Int) - 1) = ((lim n).length : Int) - 1 := i64_in (by omega) (by omega)
  simp [w0]
  refine AW_for (fun p : Nat × Int => [(0, .sl (iv (lim n))), (4, .int .i64 p.2), (5, .int .i64 ((p.1 : Int) - 1))]) (fun _ => bl) (fun p => p.1 ≤ (lim n).length ∧ p.2 = (val ((lim n).drop p.1) : Nat)) (fun p => p.1) _ ((lim n).length, 0) ⟨Nat.le_refl _, by simp [val]⟩ ⟨rfl, by simp, Sub.refl _⟩ ?_
  rintro ⟨k, x⟩ ⟨hk, hx⟩
  simp only at hk hx
  refine AW_run ?_
  simp [-binV, -intV]
  refine ⟨fun h1 => ?_, fun h1 => ?_⟩
  · obtain ⟨m, rfl⟩ : ∃ m, k = m + 1 := ⟨k - 1, by omega⟩
    have hm : m < (lim n).length := by omega
    have e1 : ((m + 1 : Nat) : Int) - 1 = m := by omega
    have hv : val ((lim n).drop m) = dg n m + LB * val ((lim n).drop (m + 1)) := by
      rw [List.drop_eq_getElem_cons hm, val, lim_at hm, Int.toNat_natCast]
    have hle := val_drop_le n m
    have hLB : LB = 1000000000 := rfl
    rw [hLB] at hv
    have w1 : IntKind.i64.wrap (x * 1000000000) = x * 1000000000 := i64_in (by omega) (by omega)
    have w2 : IntKind.i64.wrap (x * 1000000000 + dg n m) = x * 1000000000 + dg n m := i64_in (by omega) (by omega)
    have w3 : IntKind.i64.wrap ((m : Int) - 1) = (m : Int) - 1 := i64_in (by omega) (by omega)
    simp [-binV, -intV, e1, lv_get _ _ hm, w1, w2, w3]
    refine ⟨by omega, ?_⟩
    rw [loopQ_normal]
    refine ⟨(m, x * 1000000000 + dg n m), ⟨by simp only; omega, by simp only; omega⟩, by simp only; omega, rfl, by simp, Sub.refl _⟩
  · have e : k = 0 := by omega
    subst e
    have hx2 : x = n := by rw [hx]; simp
    rw [hx2]
    exact retRO [.int .i64 n, .bool true] 1 (by simp) rfl (Sub.refl _)

structure DL2 where
  lo : Int
  hi : Int
theorem l02Digit_ro (r b n : Nat) (hn : (lim b).length = n + 1) (hbr : b ≤ r) (hrb : r < LB * b) (hl : n ≤ 300000) : RO Tryz.prog 296 [.sl (iv (lim r)), .sl (iv (lim b))] (.int .i64 (r / b : Nat)) := by
  have ht : 0 < dg b n := top_pos hn
  have htl := dg_lt b n
  have hb0 : 0 < b := by
    rcases Nat.eq_zero_or_pos b with h | h
    · rw [h, lim_zero] at hn; simp at hn
    · exact h
  have hlr : n + 1 ≤ (lim r).length := by have := lim_length_mono hbr; omega
  have hbl : b < LB ^ (n + 1) := lim_length_le.1 (by omega)
  have hlr2 : (lim r).length ≤ n + 2 := by
    refine lim_length_le.2 (Nat.lt_of_lt_of_le hrb ?_)
    rw [Nat.pow_succ, Nat.mul_comm]
    exact Nat.mul_le_mul_right _ (Nat.le_of_lt hbl)
  have hLB : LB = 1000000000 := rfl
  have er : r = (dg r (n + 1) * LB + dg r n) * LB ^ n + pv r n := by
    have h1 := pv_succ r n
    have h2 := pv_succ r (n + 1)
    rw [pv_out (by omega)] at h2
    have e1 : dg r (n + 1) * LB * LB ^ n = LB ^ n * LB * dg r (n + 1) := by ac_rfl
    have e2 : dg r n * LB ^ n = LB ^ n * dg r n := Nat.mul_comm _ _
    rw [Nat.pow_succ] at h2
    rw [Nat.add_mul]
    omega
  have eb : b = dg b n * LB ^ n + pv b n := by
    have h1 := pv_succ b n
    rw [pv_out (by omega)] at h1
    have e2 : dg b n * LB ^ n = LB ^ n * dg b n := Nat.mul_comm _ _
    omega
  obtain ⟨x, hx⟩ : ∃ x, x = dg r (n + 1) * LB + dg r n := ⟨_, rfl⟩
  have hlo : x / (dg b n + 1) ≤ r / b := by
    have := digit_lo (x := x) (rl := pv r n) (pv_lt b n) ht
    rw [hx, ← er, ← eb, ← hx] at this; exact this
  have hhi : r / b ≤ x / dg b n := by
    have := digit_hi (x := x) (bl := pv b n) (pv_lt r n) ht
    rw [hx, ← er, ← eb, ← hx] at this; exact this
  have hq : r / b ≤ 999999999 := by
    have : r / b < LB := by rw [Nat.div_lt_iff_lt_mul hb0]; exact hrb
    omega
  have hr1 := dg_lt r (n + 1)
  have hr0 := dg_lt r n
  have hxl : x ≤ 1000000000000000000 := by rw [hx, hLB]; omega
  refine ro_of2 Tryz.func296 rfl rfl (by rw [Tryz.ntmps296]; simp) fun bl => ?_
  rw [Tryz.ntmps296, Tryz.results296]
  obtain ⟨d1, hd1⟩ : ∃ d1 : Int, d1 = dg r (n + 1) := ⟨_, rfl⟩
  have w0 : IntKind.i64.wrap (((lim b).length : Int) - 1) = (n : Int) := by rw [i64_in (by omega) (by omega)]; omega
  have w1 : IntKind.i64.wrap (d1 * 1000000000) = d1 * 1000000000 := i64_in (by omega) (by omega)
  have w2 : IntKind.i64.wrap ((dg r n : Int) + d1 * 1000000000) = x := by rw [i64_in (by omega) (by omega), hx, hLB]; omega
  have w3 : IntKind.i64.wrap ((dg b n : Int) + 1) = (dg b n : Int) + 1 := i64_in (by omega) (by omega)
  have lr := lv_get r n (by omega)
  have lb := lv_get b n (by omega)
  have q1 : (iv (lim r))[(lim b).length]? = if (lim b).length < (lim r).length then some [.int .i64 d1] else none := by
    split
    · rename_i h; rw [lv_get _ _ h, hn, hd1]
    · rename_i h; rw [List.getElem?_eq_none (by simp; omega)]
  have y1 : (x : Int).tdiv ((dg b n : Int) + 1) = (x / (dg b n + 1) : Nat) := by rw [Int.tdiv_eq_ediv_of_nonneg (by omega)]; simp
  have y2 : (x : Int).tdiv (dg b n : Int) = (x / dg b n : Nat) := by rw [Int.tdiv_eq_ediv_of_nonneg (by omega)]; simp
  have y3 := wq (x := (x : Int)) (n := (dg b n : Int) + 1) (by omega) (by omega) (by omega)
  have y4 := wq (x := (x : Int)) (n := (dg b n : Int)) (by omega) (by omega) (by omega)
  rw [y1] at y3
  rw [y2] at y4
  obtain ⟨lo0, hlo0⟩ : ∃ l : Int, l = (x / (dg b n + 1) : Nat) := ⟨_, rfl⟩
  obtain ⟨hi0, hhi0⟩ : ∃ l : Int, l = (x / dg b n : Nat) := ⟨_, rfl⟩
  rw [← hlo0] at y1 y3
  rw [← hhi0] at y2 y4
  have z1 : ¬ (dg b n : Int) + 1 = 0 := by omega
  have z2 : ¬ dg b n = 0 := by omega
  obtain ⟨D, hD⟩ : ∃ D : Int, D = (r / b : Nat) := ⟨_, rfl⟩
  rw [← hD]
  have hD0 : 0 ≤ D := by rw [hD]; exact Int.natCast_nonneg _
  have hDq : D ≤ 999999999 := by rw [hD]; generalize r / b = z at hq ⊢; omega
  have hDlo : lo0 ≤ D := by rw [hlo0, hD]; generalize r / b = z at hlo ⊢; generalize x / (dg b n + 1) = z2 at hlo ⊢; omega
  have hDhi : D ≤ hi0 := by rw [hhi0, hD]; generalize r / b = z at hhi ⊢; generalize x / dg b n = z2 at hhi ⊢; omega
  have hlo00 : 0 ≤ lo0 := by rw [hlo0]; exact Int.natCast_nonneg _
  refine AW_runA ?_
  simp
  refine AW_runA ?_
  simp
  refine AW_runA ?_
  simp [w0, lr]
  refine AW_mid (fun _ : Unit => [(0, .sl (iv (lim r))), (1, .sl (iv (lim b))), (5, .int .i64 (lim b).length), (6, .int .i64 x)]) (fun _ => bl) (fun _ => True) 63 ?_ ?_
  · refine AW_run ?_
    simp [-binV, -intV]
    refine ⟨fun h => ?_, fun h => ?_⟩
    · have q2 : (lim r)[(lim b).length]'h = d1 := by rw [lim_at h, hn, hd1]
      simp [-binV, -intV, q1, h, q2, w1, w2]
      rw [midQ_normal]
      exact ⟨(), trivial, rfl, by simp, Sub.refl _⟩
    · have e0 : dg r (n + 1) = 0 := dg_out (by omega)
      have ex : dg r n = x := by rw [hx, e0]; simp
      rw [midQ_normal]
      exact ⟨(), trivial, rfl, by simp [ex], Sub.refl _⟩
  rintro _ _
  refine AW_run ?_
  simp [w0, lb, w3, y1, y2, y3, y4, z1, z2, minV]
  refine AW_for (fun p : DL2 => [(0, .sl (iv (lim r))), (1, .sl (iv (lim b))), (7, .int .i64 p.lo), (8, .int .i64 p.hi)]) (fun _ => bl) (fun p => 0 ≤ p.lo ∧ p.lo ≤ D ∧ D ≤ p.hi ∧ p.hi ≤ 999999999) (fun p => (p.hi - p.lo).toNat) _ ⟨lo0, if hi0 < 999999999 then hi0 else 999999999⟩ ⟨hlo00, hDlo, by simp only; split <;> omega, by simp only; split <;> omega⟩ ⟨rfl, by simp [minV], Sub.refl _⟩ ?_
  rintro ⟨lo, hi⟩ ⟨a1, a2, a3, a4⟩
  simp only at a1 a2 a3 a4
  refine AW_run ?_
  simp
  refine ⟨fun h => ?_, fun h => ?_⟩
  · have v1 : IntKind.i64.wrap (lo + hi) = lo + hi := i64_in (by omega) (by omega)
    have v2 : IntKind.i64.wrap (lo + hi + 1) = lo + hi + 1 := i64_in (by omega) (by omega)
    have v3 := wq (x := lo + hi + 1) (n := 2) (by omega) (by omega) (by omega)
    have v4 : (lo + hi + 1).tdiv 2 = (((lo + hi + 1) / 2).toNat : Nat) := by rw [Int.tdiv_eq_ediv_of_nonneg (by omega)]; omega
    rw [v4] at v3
    obtain ⟨q, hqq⟩ : ∃ q : Nat, q = ((lo + hi + 1) / 2).toNat := ⟨_, rfl⟩
    rw [← hqq] at v3 v4
    have hq2 : (q : Int) = (lo + hi + 1) / 2 := by omega
    have hqle : q ≤ 999999999 := by omega
    simp [v1, v2, v3, v4]
    refine callP_ro (spec_NatOf_ro q (by omega)) ?_
    simp
    have lq : (lim q).length ≤ 3 := lim_u64 (by omega)
    refine callP_ro (l02Mul_ro b q (by omega) (by omega)) ?_
    simp
    have lbq := len_mul (k := 300002) (l := 3) (show (lim b).length ≤ 300002 by omega) lq
    refine callP_ro (l02Cmp_ro _ _ (by omega) (by omega)) ?_
    simp [cmpN_le]
    have hdh := digit_half (r := r) (q := q) hb0
    refine ⟨fun h2 => ?_, fun h2 => ?_⟩
    · rw [loopQ_normal]
      have h3 := hdh.1 h2
      refine ⟨⟨q, hi⟩, ⟨by simp only; omega, ?_, a3, a4⟩, by simp only; omega, rfl, by simp, Sub.refl _⟩
      simp only
      rw [hD]
      generalize r / b = z at h3 ⊢
      omega
    · have v5 : IntKind.i64.wrap ((q : Int) - 1) = (q : Int) - 1 := i64_in (by omega) (by omega)
      simp [v5]
      rw [loopQ_normal]
      have h3 : ¬ q ≤ r / b := fun hh => by have := hdh.2 hh; omega
      refine ⟨⟨lo, (q : Int) - 1⟩, ⟨a1, a2, ?_, by simp only; omega⟩, by simp only; omega, rfl, by simp, Sub.refl _⟩
      simp only
      rw [hD]
      generalize r / b = z at h3 ⊢
      omega
  · have : lo = D := by omega
    rw [this]
    exact retRO0 (by simp) rfl rfl

theorem len_digit {r d k : Nat} (hr : (lim r).length ≤ k) (hd : d < 1000000000) : (lim (r * 1000000000 + d)).length ≤ k + 1 := by
  refine lim_length_le.2 ?_
  have h5 := lim_length_le.1 hr
  have e : LB ^ (k + 1) = LB ^ k * 1000000000 := Nat.pow_succ ..
  rw [e]
  generalize LB ^ k = P at h5 ⊢
  omega
structure SD where
  g : Int
  i : Nat
  Q : List Int
  r : Nat
theorem l02Div_ro (a b : Nat) (hb0 : 0 < b) (ha : (lim a).length ≤ 200000) (hbl : (lim b).length ≤ 200000) : RO Tryz.prog 286 [.sl (iv (lim a)), .sl (iv (lim b))] (.tup [.sl (iv (lim (a / b))), .sl (iv (lim (a % b)))]) := by
  refine ro_of2 Tryz.func286 rfl rfl (by rw [Tryz.ntmps286]; simp) fun bl => ?_
  rw [Tryz.ntmps286, Tryz.results286]
  refine AW_runA ?_
  simp
  refine AW_runA ?_
  simp
  refine ⟨fun h1 => ?_, fun h1 => ?_⟩
  · have h1' : (lim b).length = 1 := by omega
    obtain ⟨b1, b2, b3⟩ := len1 h1'
    simp [lv_get b 0 (by omega), b1]
    refine callP_ro (l02Small_ro a b (by omega) b3 b2) ?_
    have hr : a % b < b := Nat.mod_lt _ b3
    obtain ⟨r, hr2⟩ : ∃ r, r = a % b := ⟨_, rfl⟩
    rw [← hr2] at hr ⊢
    simp
    refine callP_ro (spec_NatOf_ro r (by omega)) ?_
    simp
    exact retRO [.sl (iv (lim (a / b))), .sl (iv (lim r))] 1 (by simp) rfl (Sub.refl _)
  have hbz : (lim b).length ≠ 0 := fun h0 => by have := lim_nil.1 (List.length_eq_zero_iff.1 h0); omega
  obtain ⟨n, hn⟩ : ∃ n, (lim b).length = n + 1 := ⟨(lim b).length - 1, by omega⟩
  have w0 : IntKind.i64.wrap (((lim a).length : Int) - 1) = ((lim a).length : Int) - 1 := i64_in (by omega) (by omega)
  refine AW_run ?_
  simp
  refine ⟨by omega, by unfold maxLen; omega, fun g8 hg8 hb8 g9 hg9 h98 hb9 => ?_⟩
  have er : List.replicate ((lim a).length) [V.int IntKind.i64 0] = iv (List.replicate ((lim a).length) 0) := by simp [iv]
  simp [er, w0]
  have hb8' : bl g8 = none := by simpa using hb8
  refine AW_frzAt 1 9 (.sl (iv (lim 0))) (upd bl g8 (some ⟨1, iv (List.replicate (lim a).length 0)⟩)) (by simp [h98, hb9]) ?_ ?_
  · rw [lim_zero]
    exact frz_slice hg9 (by simp [h98, hb9]) (by simp; rfl) rfl rfl
  refine AW_for (fun p : SL => [(0, .sl (iv (lim a))), (1, .sl (iv (lim b))), (8, .lsl g8 1 0 (lim a).length), (9, .sl (iv (lim p.r.toNat))), (10, .int .i64 ((p.i : Int) - 1))]) (fun p => upd bl g8 (some ⟨1, iv (List.replicate p.i 0 ++ p.Q)⟩))
    (fun p => DivI a b p.i p.Q p.r.toNat) (fun p => p.i) _ ⟨(lim a).length, [], 0⟩ (DivI.start a b hb0) ⟨rfl, by simp, sub_eq (by simp)⟩ ?_
  rintro ⟨i, Q, r⟩ hI
  simp only at hI
  have hr := hI.rlt
  have hle := hI.le
  have hql := hI.len
  generalize r.toNat = r at *
  refine AW_run ?_
  simp
  refine ⟨fun h1 => ?_, fun h1 => ?_⟩
  · obtain ⟨m, rfl⟩ : ∃ m, i = m + 1 := ⟨i - 1, by omega⟩
    have hm : m < (lim a).length := by omega
    have hd := dg_lt a m
    obtain ⟨z, hz⟩ : ∃ z, z = r * 1000000000 + dg a m := ⟨_, rfl⟩
    have hN := hI.next (q := z / b) (r' := z % b) (by rw [hz]) (by rw [hz])
    have e1 : ((m + 1 : Nat) : Int) - 1 = m := by omega
    have er1 : List.range 1 = [0] := rfl
    have hrl : (lim r).length ≤ 200000 := len_mono (Nat.le_of_lt hr) hbl
    simp [e1, lv_get _ _ hm]
    refine ⟨by omega, ?_⟩
    intro g2 hg2 h28 hb2
    have hall : ((iv (lim r)).all fun c => c.length == 1 && c.all V.one) = true := by simp [iv]
    simp [h28, Ne.symm h28, appV, elsV, Int.not_lt.2 hg2, hall, er1]
    refine ⟨by omega, fun g3 hg3 hb3 => ?_⟩
    have hb3' : g3 ≠ g8 ∧ bl g3 = none := by grind
    have hv : val ((dg a m : Int) :: lim r) = z := by
      have hLB : LB = 1000000000 := rfl
      rw [val, val_lim, hLB, hz]; simp; omega
    have hD : Dig ((dg a m : Int) :: lim r) := fun d hd2 => by
      rcases List.mem_cons.1 hd2 with rfl | hd2
      · omega
      · exact lim_dig r d hd2
    refine callP_gro 1 (upd bl g8 (some ⟨1, iv (List.replicate (m + 1) 0 ++ Q)⟩)) _ ?_ (frz_own (ns := (dg a m : Int) :: lim r) hg3 (by simp [hb3'.1, hb3'.2]) (by simp [iv]) (by simp)) (l02Trim_ro _ hD (by simp; omega)) ?_
    · intro u y hu
      simp only [upd_apply, rem_apply] at hu ⊢
      grind
    rw [hv]
    have hzr : (lim z).length ≤ 200001 := by rw [hz]; exact len_digit hrl hd
    simp
    refine callP_ro (l02Cmp_ro z b (by omega) (by omega)) ?_
    have w3 : IntKind.i64.wrap ((m : Int) - 1) = (m : Int) - 1 := i64_in (by omega) (by omega)
    simp [cmpN_lt]
    refine ⟨fun h5 => ?_, fun h5 => ?_⟩
    · rw [Nat.div_eq_of_lt h5, Nat.mod_eq_of_lt h5] at hN
      simp [w3]
      rw [loopQ_normal]
      refine ⟨⟨m, 0 :: Q, z⟩, by simpa using hN, by simp only; omega, rfl, by simp, sub_eq ?_⟩
      rw [← fill_none]
    · have hzb : z < LB * b := by
        have hLB : LB = 1000000000 := rfl
        rw [hLB, hz]; omega
      refine callP_ro (l02Digit_ro z b n hn h5 hzb (by omega)) ?_
      have q5 : (iv (List.replicate (m + 1) 0 ++ Q))[m]? = some [.int .i64 0] := by rw [iv_get _ _ (by simp; omega)]; simp
      have hqq : z / b ≤ 999999999 := by
        have : z / b < LB := by rw [Nat.div_lt_iff_lt_mul hb0]; exact hzb
        have hLB : LB = 1000000000 := rfl
        omega
      obtain ⟨q, hq⟩ : ∃ q, q = z / b := ⟨_, rfl⟩
      have hmod : z - b * q = z % b := by rw [hq]; have := Nat.div_add_mod z b; omega
      have hle2 : b * q ≤ z := by rw [hq]; exact Nat.mul_div_le z b
      rw [← hq] at hqq hN ⊢
      simp [q5, hm]
      refine callP_ro (spec_NatOf_ro q (by omega)) ?_
      simp
      have lq : (lim q).length ≤ 3 := lim_u64 (by omega)
      refine callP_ro (l02Mul_ro b q (by omega) (by omega)) ?_
      simp
      refine callP_ro (l02Sub_ro z (b * q) hle2 (by omega)) ?_
      rw [hmod]
      simp [w3]
      rw [loopQ_normal]
      refine ⟨⟨m, (q : Int) :: Q, (z % b : Nat)⟩, by simp only [Int.toNat_natCast]; exact hN, by simp only; omega, rfl, by simp only [Int.toNat_natCast]; simp, sub_eq ?_⟩
      rw [← fill_set m _ 0 Q, ← iv_set]
  · have e : i = 0 := by omega
    subst e
    obtain ⟨h2, h3⟩ := hI.done
    refine callP_gro 1 bl _ (by simp [hb8']) (frz_own (ns := Q) hg8 hb8' (by simp) (by simp [hql])) (l02Trim_ro _ hI.dig (by omega)) ?_
    rw [h2, h3]
    simp
    exact retRO [.sl (iv (lim (a / b))), .sl (iv (lim (a % b)))] 1 (by simp) rfl (by simp)

theorem frz_any {bl bl0 : Int → Option Blk} {g : Int} {ns : List Int} (h0 : 0 ≤ g ∨ ns = []) (hg : bl0 g = none) (hb : bl g = some ⟨1, iv ns⟩) : frz (dropB bl bl0) 1 (.lsl g 1 0 ns.length) = some (.sl (iv ns)) := by
  rcases Int.lt_or_le g 0 with h | h
  · have : ns = [] := by rcases h0 with h0 | h0; omega; exact h0
    subst this
    unfold frz
    rw [if_pos h]; rfl
  · exact frz_slice h hg hb (by simp) (iv_cl ns)
theorem l02Gcd_ro (a b : Nat) (ha : (lim a).length ≤ 200000) (hb : (lim b).length ≤ 200000) : RO Tryz.prog 263 [.sl (iv (lim a)), .sl (iv (lim b))] (.sl (iv (lim (Nat.gcd a b)))) := by
  have hall : ∀ n : Nat, ((iv (lim n)).all fun c => c.length == 1 && c.all V.one) = true := fun n => by simp [iv]
  have hnil : ∀ n : Nat, iv (lim n) = [] → lim n = [] := fun n h => by simpa [iv] using h
  refine ro_of2 Tryz.func263 rfl rfl (by rw [Tryz.ntmps263]; simp) fun bl => ?_
  rw [Tryz.ntmps263, Tryz.results263]
  refine AW_run ?_
  simp
  intro g0 hg0 hb0
  simp [appV, elsV, hall, Int.not_lt.2 hg0]
  refine ⟨by omega, fun g1 hg1 hb1 g2 hg2 n21 hb2 => ?_⟩
  have hb2' : bl g2 = none := by grind
  have hb1' : bl g1 = none := by grind
  try simp [appV, elsV, hall, Int.not_lt.2 hg2]
  refine ⟨by omega, fun g3 hg3 hb3 => ?_⟩
  have n31 : g3 ≠ g1 := by grind
  have hb3' : bl g3 = none := by grind
  refine AW_frzAt 1 5 (.sl (iv (lim a))) (upd bl g3 (some ⟨1, iv (lim b)⟩)) ?_ ?_ ?_
  · intro u y hu
    simp only [upd_apply, rem_apply] at hu ⊢
    grind
  · exact frz_any (hg1.imp id (hnil a)) (by simp [Ne.symm n31, hb1']) (by simp [n21, Ne.symm n21, n31, Ne.symm n31])
  refine AW_frzAt 1 6 (.sl (iv (lim b))) bl (by simp [hb3']) ?_ ?_
  · exact frz_any (hg3.imp id (hnil b)) hb3' (by simp)
  refine AW_for (fun p : Nat × Nat => [(5, .sl (iv (lim p.1))), (6, .sl (iv (lim p.2)))]) (fun _ => bl) (fun p => Nat.gcd p.1 p.2 = Nat.gcd a b ∧ (lim p.1).length ≤ 200000 ∧ (lim p.2).length ≤ 200000) (fun p => p.2) _ (a, b) ⟨rfl, ha, hb⟩ ⟨rfl, by simp, Sub.refl _⟩ ?_
  rintro ⟨x, y⟩ ⟨hg, hx, hy⟩
  simp only at hg hx hy
  refine AW_run ?_
  simp
  refine ⟨fun h => ?_, fun h => ?_⟩
  · have hy0 : 0 < y := (len_pos_iff y).1 (by simpa using h)
    refine AW_way0 [(5, .sl (iv (lim x))), (6, .sl (iv (lim y)))] _ bl 29 (.bool (decide ((lim x).length < 3) && decide ((lim y).length < 3))) ⟨rfl, by simp, Sub.refl _⟩ rfl ?_ ?_
    · simp
      refine ⟨fun h3 => ?_, fun h3 h4 => by omega⟩
      rw [Bool.eq_iff_iff]; simp; omega
    simp
    refine ⟨fun h1 h2 => ?_, fun h1 => ?_⟩
    · have bx : x ≤ 9223372036854775807 := by
        have := lim_length_le.1 (show (lim x).length ≤ 2 by omega)
        have e : LB ^ 2 = 1000000000000000000 := by decide +kernel
        omega
      have by' : y ≤ 9223372036854775807 := by
        have := lim_length_le.1 (show (lim y).length ≤ 2 by omega)
        have e : LB ^ 2 = 1000000000000000000 := by decide +kernel
        omega
      refine callP_ro (NatToInt_ro x bx) ?_
      simp
      refine callP_ro (NatToInt_ro y by') ?_
      simp
      refine callP_ro (l02Plain_ro x y bx by') ?_
      rw [hg]
      simp
      exact retRO0 (by simp) rfl rfl
    · refine callP_ro (l02Div_ro x y hy0 hx hy) ?_
      simp
      rw [loopQ_normal]
      have hlt := Nat.mod_lt x hy0
      refine ⟨(y, x % y), ⟨?_, hy, ?_⟩, hlt, rfl, by simp, Sub.refl _⟩
      · rw [← hg, Nat.gcd_comm x y, Nat.gcd_rec y x, Nat.gcd_comm]
      · exact Nat.le_trans (lim_length_mono (Nat.le_of_lt hlt)) hy
  · have h0 : y = 0 := lim_nil.1 (by simpa using h)
    subst h0
    rw [Nat.gcd_zero_right] at hg
    rw [← hg]
    exact retRO0 (by simp) rfl rfl

end Go.Proofs.YticmgmemnpcbbaaGreat.Vm
