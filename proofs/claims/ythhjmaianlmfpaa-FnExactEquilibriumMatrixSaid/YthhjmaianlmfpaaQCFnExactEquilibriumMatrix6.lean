/- Limbs in the reference: long division, greatest common divisors. -/

import Derived.Test.YthhjmaianlmfpaaQCFnExactEquilibriumMatrix5

namespace Go.Proofs.Ythhjmaianlmfpaa.Vm
open Go Go.Proofs
set_option linter.unusedSimpArgs false
set_option linter.unusedVariables false

theorem natOk_lim {n : Nat} (h : (lim n).length ≤ 60) : natOk (lim n) = true := by unfold natOk; simp [h]
theorem lim_max : lim 9223372036854775807 = [854775807, 223372036, 9] := by
  refine lim_of ?_ (by decide +kernel) (.inr (by decide +kernel))
  intro d hd
  simp at hd
  omega
theorem cmpN_gt {a b : Nat} : 0 < cmpN a b ↔ b < a := by unfold cmpN; split <;> (try split) <;> omega
theorem cmpN_le {a b : Nat} : cmpN a b ≤ 0 ↔ a ≤ b := by unfold cmpN; split <;> (try split) <;> omega
theorem val_drop_le (n k : Nat) : val ((lim n).drop k) ≤ n := by
  rcases Nat.lt_or_ge (lim n).length k with h | h
  · rw [List.drop_of_length_le (by omega)]; exact Nat.zero_le _
  · have := val_split (lim n) h
    rw [val_lim] at this
    have hp : 1 ≤ LB ^ k := Nat.pow_pos LB_pos
    have := Nat.mul_le_mul_right (val ((lim n).drop k)) hp
    omega
theorem NatToInt_ro (n : Nat) (hn : n ≤ 9223372036854775807) : RO Try.prog 167 [.sl (iv (lim n))] (.tup [.int .i64 n, .bool true]) := by
  have hL := lim_u64 (show n ≤ 18446744073709551615 by omega)
  refine ro_of2 Try.func167 rfl rfl (by rw [Try.ntmps167]; simp) fun bl => ?_
  rw [Try.ntmps167, Try.results167]
  refine AW_run ?_
  simp
  refine AW_wayS [(0, .sl (iv (lim n)))] _ bl 14 (.bool false) ⟨rfl, by simp, Sub.refl _⟩ rfl ?_ ?_
  · simp
    refine callP_ro (spec_NatOk_ro _ (by omega)) ?_
    simp [natOk_lim (show (lim n).length ≤ 60 by omega)]
    intro g hg0 hg
    refine callP_borrow 1 (ys := [.sl (iv (lim n)), .sl (iv (lim 9223372036854775807))]) ?_ (l02Cmp_ro n 9223372036854775807 (by omega) (by rw [lim_max]; simp)) rfl ?_
    · have er3 : List.range 3 = [0, 1, 2] := rfl
      simp [frzL, frz, lim_max, iv, V.cl, Int.not_lt.2 hg0, er3]
    simp [hg]
    have := cmpN_le.2 hn
    omega
  have w0 : IntKind.i64.wrap (((lim n).length : Int) - 1) = ((lim n).length : Int) - 1 := i64_in (by omega) (by omega)
  simp [w0]
  refine AW_for (fun p : Nat × Int => [(0, .sl (iv (lim n))), (4, .int .i64 p.2), (5, .int .i64 ((p.1 : Int) - 1))]) (fun _ => bl) (fun p => p.1 ≤ (lim n).length ∧ p.2 = (val ((lim n).drop p.1) : Nat)) (fun p => p.1) _ ((lim n).length, 0) ⟨Nat.le_refl _, by simp [val]⟩ ⟨rfl, by simp, Sub.refl _⟩ ?_
  rintro ⟨k, x⟩ ⟨hk, hx⟩
  simp only at hk hx
  refine AW_run ?_
  simp [-binV, -intV]
  refine ⟨fun h1 => ?_, fun h1 => ?_⟩
  · obtain ⟨m, rfl⟩ : ∃ m, k = m + 1 := ⟨k - 1, by omega⟩
    have hm : m < (lim n).length := by omega
    have e1 : ((m + 1 : Nat) : Int) - 1 = m := by omega
    have hv : val ((lim n).drop m) = dg n m + LB * val ((lim n).drop (m + 1)) := by
      rw [List.drop_eq_getElem_cons hm, val, lim_at hm, Int.toNat_natCast]
    have hle := val_drop_le n m
    have hLB : LB = 1000000000 := rfl
    rw [hLB] at hv
    have w1 : IntKind.i64.wrap (x * 1000000000) = x * 1000000000 := i64_in (by omega) (by omega)
    have w2 : IntKind.i64.wrap (x * 1000000000 + dg n m) = x * 1000000000 + dg n m := i64_in (by omega) (by omega)
    have w3 : IntKind.i64.wrap ((m : Int) - 1) = (m : Int) - 1 := i64_in (by omega) (by omega)
    simp [-binV, -intV, e1, lv_get _ _ hm, w1, w2, w3]
    refine ⟨by omega, ?_⟩
    rw [loopQ_normal]
    refine ⟨(m, x * 1000000000 + dg n m), ⟨by simp only; omega, by simp only; omega⟩, by simp only; omega, rfl, by simp, Sub.refl _⟩
  · have e : k = 0 := by omega
    subst e
    have hx2 : x = n := by rw [hx]; simp
    rw [hx2]
    exact retRO [.int .i64 n, .bool true] 1 (by simp) rfl (Sub.refl _)

structure DL2 where
  lo : Int
  hi : Int
theorem l02Digit_ro (r b n : Nat) (hn : (lim b).length = n + 1) (hbr : b ≤ r) (hrb : r < LB * b) (hl : n ≤ 300000) : RO Try.prog 197 [.sl (iv (lim r)), .sl (iv (lim b))] (.int .i64 (r / b : Nat)) := by
  have ht : 0 < dg b n := top_pos hn
  have htl := dg_lt b n
  have hb0 : 0 < b := by
    rcases Nat.eq_zero_or_pos b with h | h
    · rw [h, lim_zero] at hn; simp at hn
    · exact h
  have hlr : n + 1 ≤ (lim r).length := by have := lim_length_mono hbr; omega
  have hbl : b < LB ^ (n + 1) := lim_length_le.1 (by omega)
  have hlr2 : (lim r).length ≤ n + 2 := by
    refine lim_length_le.2 (Nat.lt_of_lt_of_le hrb ?_)
    rw [Nat.pow_succ, Nat.mul_comm]
    exact Nat.mul_le_mul_right _ (Nat.le_of_lt hbl)
  have hLB : LB = 1000000000 := rfl
  have er : r = (dg r (n + 1) * LB + dg r n) * LB ^ n + pv r n := by
    have h1 := pv_succ r n
    have h2 := pv_succ r (n + 1)
    rw [pv_out (by omega)] at h2
    have e1 : dg r (n + 1) * LB * LB ^ n = LB ^ n * LB * dg r (n + 1) := by ac_rfl
    have e2 : dg r n * LB ^ n = LB ^ n * dg r n := Nat.mul_comm _ _
    rw [Nat.pow_succ] at h2
    rw [Nat.add_mul]
    omega
  have eb : b = dg b n * LB ^ n + pv b n := by
    have h1 := pv_succ b n
    rw [pv_out (by omega)] at h1
    have e2 : dg b n * LB ^ n = LB ^ n * dg b n := Nat.mul_comm _ _
    omega
  obtain ⟨x, hx⟩ : ∃ x, x = dg r (n + 1) * LB + dg r n := ⟨_, rfl⟩
  have hlo : x / (dg b n + 1) ≤ r / b := by
    have := digit_lo (x := x) (rl := pv r n) (pv_lt b n) ht
    rw [hx, ← er, ← eb, ← hx] at this; exact this
  have hhi : r / b ≤ x / dg b n := by
    have := digit_hi (x := x) (bl := pv b n) (pv_lt r n) ht
    rw [hx, ← er, ← eb, ← hx] at this; exact this
  have hq : r / b ≤ 999999999 := by
    have : r / b < LB := by rw [Nat.div_lt_iff_lt_mul hb0]; exact hrb
    omega
  have hr1 := dg_lt r (n + 1)
  have hr0 := dg_lt r n
  have hxl : x ≤ 1000000000000000000 := by rw [hx, hLB]; omega
  refine ro_of2 Try.func197 rfl rfl (by rw [Try.ntmps197]; simp) fun bl => ?_
  rw [Try.ntmps197, Try.results197]
  obtain ⟨d1, hd1⟩ : ∃ d1 : Int, d1 = dg r (n + 1) := ⟨_, rfl⟩
  have w0 : IntKind.i64.wrap (((lim b).length : Int) - 1) = (n : Int) := by rw [i64_in (by omega) (by omega)]; omega
  have w1 : IntKind.i64.wrap (d1 * 1000000000) = d1 * 1000000000 := i64_in (by omega) (by omega)
  have w2 : IntKind.i64.wrap ((dg r n : Int) + d1 * 1000000000) = x := by rw [i64_in (by omega) (by omega), hx, hLB]; omega
  have w3 : IntKind.i64.wrap ((dg b n : Int) + 1) = (dg b n : Int) + 1 := i64_in (by omega) (by omega)
  have lr := lv_get r n (by omega)
  have lb := lv_get b n (by omega)
  have q1 : (iv (lim r))[(lim b).length]? = if (lim b).length < (lim r).length then some [.int .i64 d1] else none := by
    split
    · rename_i h; rw [lv_get _ _ h, hn, hd1]
    · rename_i h; rw [List.getElem?_eq_none (by simp; omega)]
  have y1 : (x : Int).tdiv ((dg b n : Int) + 1) = (x / (dg b n + 1) : Nat) := by rw [Int.tdiv_eq_ediv_of_nonneg (by omega)]; simp
  have y2 : (x : Int).tdiv (dg b n : Int) = (x / dg b n : Nat) := by rw [Int.tdiv_eq_ediv_of_nonneg (by omega)]; simp
  have y3 := wq (x := (x : Int)) (n := (dg b n : Int) + 1) (by omega) (by omega) (by omega)
  have y4 := wq (x := (x : Int)) (n := (dg b n : Int)) (by omega) (by omega) (by omega)
  rw [y1] at y3
  rw [y2] at y4
  obtain ⟨lo0, hlo0⟩ : ∃ l : Int, l = (x / (dg b n + 1) : Nat) := ⟨_, rfl⟩
  obtain ⟨hi0, hhi0⟩ : ∃ l : Int, l = (x / dg b n : Nat) := ⟨_, rfl⟩
  rw [← hlo0] at y1 y3
  rw [← hhi0] at y2 y4
  have z1 : ¬ (dg b n : Int) + 1 = 0 := by omega
  have z2 : ¬ dg b n = 0 := by omega
  obtain ⟨D, hD⟩ : ∃ D : Int, D = (r / b : Nat) := ⟨_, rfl⟩
  rw [← hD]
  have hD0 : 0 ≤ D := by rw [hD]; exact Int.natCast_nonneg _
  have hDq : D ≤ 999999999 := by rw [hD]; generalize r / b = z at hq ⊢; omega
  have hDlo : lo0 ≤ D := by rw [hlo0, hD]; generalize r / b = z at hlo ⊢; generalize x / (dg b n + 1) = z2 at hlo ⊢; omega
  have hDhi : D ≤ hi0 := by rw [hhi0, hD]; generalize r / b = z at hhi ⊢; generalize x / dg b n = z2 at hhi ⊢; omega
  have hlo00 : 0 ≤ lo0 := by rw [hlo0]; exact Int.natCast_nonneg _
  refine AW_runA ?_
  simp
  refine AW_runA ?_
  simp
  refine AW_runA ?_
  simp [w0, lr]
  refine AW_mid (fun _ : Unit => [(0, .sl (iv (lim r))), (1, .sl (iv (lim b))), (5, .int .i64 (lim b).length), (6, .int .i64 x)]) (fun _ => bl) (fun _ => True) 63 ?_ ?_
  · refine AW_run ?_
    simp [-binV, -intV]
    refine ⟨fun h => ?_, fun h => ?_⟩
    · have q2 : (lim r)[(lim b).length]'h = d1 := by rw [lim_at h, hn, hd1]
      simp [-binV, -intV, q1, h, q2, w1, w2]
      rw [midQ_normal]
      exact ⟨(), trivial, rfl, by simp, Sub.refl _⟩
    · have e0 : dg r (n + 1) = 0 := dg_out (by omega)
      have ex : dg r n = x := by rw [hx, e0]; simp
      rw [midQ_normal]
      exact ⟨(), trivial, rfl, by simp [ex], Sub.refl _⟩
  rintro _ _
  refine AW_run ?_
  simp [w0, lb, w3, y1, y2, y3, y4, z1, z2, minV]
  refine AW_for (fun p : DL2 => [(0, .sl (iv (lim r))), (1, .sl (iv (lim b))), (7, .int .i64 p.lo), (8, .int .i64 p.hi)]) (fun _ => bl) (fun p => 0 ≤ p.lo ∧ p.lo ≤ D ∧ D ≤ p.hi ∧ p.hi ≤ 999999999) (fun p => (p.hi - p.lo).toNat) _ ⟨lo0, if hi0 < 999999999 then hi0 else 999999999⟩ ⟨hlo00, hDlo, by simp only; split <;> omega, by simp only; split <;> omega⟩ ⟨rfl, by simp [minV], Sub.refl _⟩ ?_
  rintro ⟨lo, hi⟩ ⟨a1, a2, a3, a4⟩
  simp only at a1 a2 a3 a4
  refine AW_run ?_
  simp
  refine ⟨fun h => ?_, fun h => ?_⟩
  · have v1 : IntKind.i64.wrap (lo + hi) = lo + hi := i64_in (by omega) (by omega)
    have v2 : IntKind.i64.wrap (lo + hi + 1) = lo + hi + 1 := i64_in (by omega) (by omega)
    have v3 := wq (x := lo + hi + 1) (n := 2) (by omega) (by omega) (by omega)
    have v4 : (lo + hi + 1).tdiv 2 = (((lo + hi + 1) / 2).toNat : Nat) := by rw [Int.tdiv_eq_ediv_of_nonneg (by omega)]; omega
    rw [v4] at v3
    obtain ⟨q, hqq⟩ : ∃ q : Nat, q = ((lo + hi + 1) / 2).toNat := ⟨_, rfl⟩
    rw [← hqq] at v3 v4
    have hq2 : (q : Int) = (lo + hi + 1) / 2 := by omega
    have hqle : q ≤ 999999999 := by omega
    simp [v1, v2, v3, v4]
    refine callP_ro (spec_NatOf_ro q (by omega)) ?_
    simp
    have lq : (lim q).length ≤ 3 := lim_u64 (by omega)
    refine callP_ro (l02Mul_ro b q (by omega) (by omega)) ?_
    simp
    have lbq := len_mul (k := 300002) (l := 3) (show (lim b).length ≤ 300002 by omega) lq
    refine callP_ro (l02Cmp_ro _ _ (by omega) (by omega)) ?_
    simp [cmpN_le]
    have hdh := digit_half (r := r) (q := q) hb0
    refine ⟨fun h2 => ?_, fun h2 => ?_⟩
    · rw [loopQ_normal]
      have h3 := hdh.1 h2
      refine ⟨⟨q, hi⟩, ⟨by simp only; omega, ?_, a3, a4⟩, by simp only; omega, rfl, by simp, Sub.refl _⟩
      simp only
      rw [hD]
      generalize r / b = z at h3 ⊢
      omega
    · have v5 : IntKind.i64.wrap ((q : Int) - 1) = (q : Int) - 1 := i64_in (by omega) (by omega)
      simp [v5]
      rw [loopQ_normal]
      have h3 : ¬ q ≤ r / b := fun hh => by have := hdh.2 hh; omega
      refine ⟨⟨lo, (q : Int) - 1⟩, ⟨a1, a2, ?_, by simp only; omega⟩, by simp only; omega, rfl, by simp, Sub.refl _⟩
      simp only
      rw [hD]
      generalize r / b = z at h3 ⊢
      omega
  · have : lo = D := by omega
    rw [this]
    exact retRO0 (by simp) rfl rfl

theorem len_digit {r d k : Nat} (hr : (lim r).length ≤ k) (hd : d < 1000000000) : (lim (r * 1000000000 + d)).length ≤ k + 1 := by
  refine lim_length_le.2 ?_
  have h5 := lim_length_le.1 hr
  have e : LB ^ (k + 1) = LB ^ k * 1000000000 := Nat.pow_succ ..
  rw [e]
  generalize LB ^ k = P at h5 ⊢
  omega
structure SD where
  g : Int
  i : Nat
  Q : List Int
  r : Nat
theorem l02Div_ro (a b : Nat) (hb0 : 0 < b) (ha : (lim a).length ≤ 200000) (hbl : (lim b).length ≤ 200000) : RO Try.prog 169 [.sl (iv (lim a)), .sl (iv (lim b))] (.tup [.sl (iv (lim (a / b))), .sl (iv (lim (a % b)))]) := by
  refine ro_of2 Try.func169 rfl rfl (by rw [Try.ntmps169]; simp) fun bl => ?_
  rw [Try.ntmps169, Try.results169]
  refine AW_runA ?_
  simp
  refine AW_runA ?_
  simp
  refine ⟨fun h1 => ?_, fun h1 => ?_⟩
  · have h1' : (lim b).length = 1 := by omega
    obtain ⟨b1, b2, b3⟩ := len1 h1'
    simp [lv_get b 0 (by omega), b1]
    refine callP_ro (l02Small_ro a b (by omega) b3 b2) ?_
    have hr : a % b < b := Nat.mod_lt _ b3
    obtain ⟨r, hr2⟩ : ∃ r, r = a % b := ⟨_, rfl⟩
    rw [← hr2] at hr ⊢
    simp
    refine callP_ro (spec_NatOf_ro r (by omega)) ?_
    simp
    exact retRO [.sl (iv (lim (a / b))), .sl (iv (lim r))] 1 (by simp) rfl (Sub.refl _)
  have hbz : (lim b).length ≠ 0 := fun h0 => by have := lim_nil.1 (List.length_eq_zero_iff.1 h0); omega
  obtain ⟨n, hn⟩ : ∃ n, (lim b).length = n + 1 := ⟨(lim b).length - 1, by omega⟩
  have w0 : IntKind.i64.wrap (((lim a).length : Int) - 1) = ((lim a).length : Int) - 1 := i64_in (by omega) (by omega)
  refine AW_run ?_
  simp
  refine ⟨by omega, by unfold maxLen; omega, fun g8 hg8 hb8 g9 hg9 h98 hb9 => ?_⟩
  have er : List.replicate ((lim a).length) [V.int IntKind.i64 0] = iv (List.replicate ((lim a).length) 0) := by simp [iv]
  simp [er, w0]
  have hb8' : bl g8 = none := by simpa using hb8
  refine AW_frzAt 1 9 (.sl (iv (lim 0))) (upd bl g8 (some ⟨1, iv (List.replicate (lim a).length 0)⟩)) (by simp [h98, hb9]) ?_ ?_
  · rw [lim_zero]
    exact frz_slice hg9 (by simp [h98, hb9]) (by simp; rfl) rfl rfl
  refine AW_for (fun p : SL => [(0, .sl (iv (lim a))), (1, .sl (iv (lim b))), (8, .lsl g8 1 0 (lim a).length), (9, .sl (iv (lim p.r.toNat))), (10, .int .i64 ((p.i : Int) - 1))]) (fun p => upd bl g8 (some ⟨1, iv (List.replicate p.i 0 ++ p.Q)⟩))
    (fun p => DivI a b p.i p.Q p.r.toNat) (fun p => p.i) _ ⟨(lim a).length, [], 0⟩ (DivI.start a b hb0) ⟨rfl, by simp, sub_eq (by simp)⟩ ?_
  rintro ⟨i, Q, r⟩ hI
  simp only at hI
  have hr := hI.rlt
  have hle := hI.le
  have hql := hI.len
  generalize r.toNat = r at *
  refine AW_run ?_
  simp
  refine ⟨fun h1 => ?_, fun h1 => ?_⟩
  · obtain ⟨m, rfl⟩ : ∃ m, i = m + 1 := ⟨i - 1, by omega⟩
    have hm : m < (lim a).length := by omega
    have hd := dg_lt a m
    obtain ⟨z, hz⟩ : ∃ z, z = r * 1000000000 + dg a m := ⟨_, rfl⟩
    have hN := hI.next (q := z / b) (r' := z % b) (by rw [hz]) (by rw [hz])
    have e1 : ((m + 1 : Nat) : Int) - 1 = m := by omega
    have er1 : List.range 1 = [0] := rfl
    have hrl : (lim r).length ≤ 200000 := len_mono (Nat.le_of_lt hr) hbl
    simp [e1, lv_get _ _ hm]
    refine ⟨by omega, ?_⟩
    intro g2 hg2 h28 hb2
    have hall : ((iv (lim r)).all fun c => c.length == 1 && c.all V.one) = true := by simp [iv]
    simp [h28, Ne.symm h28, appV, elsV, Int.not_lt.2 hg2, hall, er1]
    refine ⟨by omega, fun g3 hg3 hb3 => ?_⟩
    have hb3' : g3 ≠ g8 ∧ bl g3 = none := by grind
    have hv : val ((dg a m : Int) :: lim r) = z := by
      have hLB : LB = 1000000000 := rfl
      rw [val, val_lim, hLB, hz]; simp; omega
    have hD : Dig ((dg a m : Int) :: lim r) := fun d hd2 => by
      rcases List.mem_cons.1 hd2 with rfl | hd2
      · omega
      · exact lim_dig r d hd2
    refine callP_gro 1 (upd bl g8 (some ⟨1, iv (List.replicate (m + 1) 0 ++ Q)⟩)) _ ?_ (frz_own (ns := (dg a m : Int) :: lim r) hg3 (by simp [hb3'.1, hb3'.2]) (by simp [iv]) (by simp)) (l02Trim_ro _ hD (by simp; omega)) ?_
    · intro u y hu
      simp only [upd_apply, rem_apply] at hu ⊢
      grind
    rw [hv]
    have hzr : (lim z).length ≤ 200001 := by rw [hz]; exact len_digit hrl hd
    simp
    refine callP_ro (l02Cmp_ro z b (by omega) (by omega)) ?_
    have w3 : IntKind.i64.wrap ((m : Int) - 1) = (m : Int) - 1 := i64_in (by omega) (by omega)
    simp [cmpN_lt]
    refine ⟨fun h5 => ?_, fun h5 => ?_⟩
    · rw [Nat.div_eq_of_lt h5, Nat.mod_eq_of_lt h5] at hN
      simp [w3]
      rw [loopQ_normal]
      refine ⟨⟨m, 0 :: Q, z⟩, by simpa using hN, by simp only; omega, rfl, by simp, sub_eq ?_⟩
      rw [← fill_none]
    · have hzb : z < LB * b := by
        have hLB : LB = 1000000000 := rfl
        rw [hLB, hz]; omega
      refine callP_ro (l02Digit_ro z b n hn h5 hzb (by omega)) ?_
      have q5 : (iv (List.replicate (m + 1) 0 ++ Q))[m]? = some [.int .i64 0] := by rw [iv_get _ _ (by simp; omega)]; simp
      have hqq : z / b ≤ 999999999 := by
        have : z / b < LB := by rw [Nat.div_lt_iff_lt_mul hb0]; exact hzb
        have hLB : LB = 1000000000 := rfl
        omega
      obtain ⟨q, hq⟩ : ∃ q, q = z / b := ⟨_, rfl⟩
      have hmod : z - b * q = z % b := by rw [hq]; have := Nat.div_add_mod z b; omega
      have hle2 : b * q ≤ z := by rw [hq]; exact Nat.mul_div_le z b
      rw [← hq] at hqq hN ⊢
      simp [q5, hm]
      refine callP_ro (spec_NatOf_ro q (by omega)) ?_
      simp
      have lq : (lim q).length ≤ 3 := lim_u64 (by omega)
      refine callP_ro (l02Mul_ro b q (by omega) (by omega)) ?_
      simp
      refine callP_ro (l02Sub_ro z (b * q) hle2 (by omega)) ?_
      rw [hmod]
      simp [w3]
      rw [loopQ_normal]
      refine ⟨⟨m, (q : Int) :: Q, (z % b : Nat)⟩, by simp only [Int.toNat_natCast]; exact hN, by simp only; omega, rfl, by simp only [Int.toNat_natCast]; simp, sub_eq ?_⟩
      rw [← fill_set m _ 0 Q, ← iv_set]
  · have e : i = 0 := by omega
    subst e
    obtain ⟨h2, h3⟩ := hI.done
    refine callP_gro 1 bl _ (by simp [hb8']) (frz_own (ns := Q) hg8 hb8' (by simp) (by simp [hql])) (l02Trim_ro _ hI.dig (by omega)) ?_
    rw [h2, h3]
    simp
    exact retRO [.sl (iv (lim (a / b))), .sl (iv (lim (a % b)))] 1 (by simp) rfl (by simp)

theorem frz_any {bl bl0 : Int → Option Blk} {g : Int} {ns : List Int} (h0 : 0 ≤ g ∨ ns = []) (hg : bl0 g = none) (hb : bl g = some ⟨1, iv ns⟩) : frz (dropB bl bl0) 1 (.lsl g 1 0 ns.length) = some (.sl (iv ns)) := by
  rcases Int.lt_or_le g 0 with h | h
  · have : ns = [] := by rcases h0 with h0 | h0; omega; exact h0
    subst this
    unfold frz
    rw [if_pos h]; rfl
  · exact frz_slice h hg hb (by simp) (iv_cl ns)
theorem l02Gcd_ro (a b : Nat) (ha : (lim a).length ≤ 200000) (hb : (lim b).length ≤ 200000) : RO Try.prog 120 [.sl (iv (lim a)), .sl (iv (lim b))] (.sl (iv (lim (Nat.gcd a b)))) := by
  have hall : ∀ n : Nat, ((iv (lim n)).all fun c => c.length == 1 && c.all V.one) = true := fun n => by simp [iv]
  have hnil : ∀ n : Nat, iv (lim n) = [] → lim n = [] := fun n h => by simpa [iv] using h
  refine ro_of2 Try.func120 rfl rfl (by rw [Try.ntmps120]; simp) fun bl => ?_
  rw [Try.ntmps120, Try.results120]
  refine AW_run ?_
  simp
  intro g0 hg0 hb0
  simp [appV, elsV, hall, Int.not_lt.2 hg0]
  refine ⟨by omega, fun g1 hg1 hb1 g2 hg2 n21 hb2 => ?_⟩
  have hb2' : bl g2 = none := by grind
  have hb1' : bl g1 = none := by grind
  try simp [appV, elsV, hall, Int.not_lt.2 hg2]
  refine ⟨by omega, fun g3 hg3 hb3 => ?_⟩
  have n31 : g3 ≠ g1 := by grind
  have hb3' : bl g3 = none := by grind
  refine AW_frzAt 1 5 (.sl (iv (lim a))) (upd bl g3 (some ⟨1, iv (lim b)⟩)) ?_ ?_ ?_
  · intro u y hu
    simp only [upd_apply, rem_apply] at hu ⊢
    grind
  · exact frz_any (hg1.imp id (hnil a)) (by simp [Ne.symm n31, hb1']) (by simp [n21, Ne.symm n21, n31, Ne.symm n31])
  refine AW_frzAt 1 6 (.sl (iv (lim b))) bl (by simp [hb3']) ?_ ?_
  · exact frz_any (hg3.imp id (hnil b)) hb3' (by simp)
  refine AW_for (fun p : Nat × Nat => [(5, .sl (iv (lim p.1))), (6, .sl (iv (lim p.2)))]) (fun _ => bl) (fun p => Nat.gcd p.1 p.2 = Nat.gcd a b ∧ (lim p.1).length ≤ 200000 ∧ (lim p.2).length ≤ 200000) (fun p => p.2) _ (a, b) ⟨rfl, ha, hb⟩ ⟨rfl, by simp, Sub.refl _⟩ ?_
  rintro ⟨x, y⟩ ⟨hg, hx, hy⟩
  simp only at hg hx hy
  refine AW_run ?_
  simp
  refine ⟨fun h => ?_, fun h => ?_⟩
  · have hy0 : 0 < y := (len_pos_iff y).1 (by simpa using h)
    refine AW_way0 [(5, .sl (iv (lim x))), (6, .sl (iv (lim y)))] _ bl 29 (.bool (decide ((lim x).length < 3) && decide ((lim y).length < 3))) ⟨rfl, by simp, Sub.refl _⟩ rfl ?_ ?_
    · simp
      refine ⟨fun h3 => ?_, fun h3 h4 => by omega⟩
      rw [Bool.eq_iff_iff]; simp; omega
    simp
    refine ⟨fun h1 h2 => ?_, fun h1 => ?_⟩
    · have bx : x ≤ 9223372036854775807 := by
        have := lim_length_le.1 (show (lim x).length ≤ 2 by omega)
        have e : LB ^ 2 = 1000000000000000000 := by decide +kernel
        omega
      have by' : y ≤ 9223372036854775807 := by
        have := lim_length_le.1 (show (lim y).length ≤ 2 by omega)
        have e : LB ^ 2 = 1000000000000000000 := by decide +kernel
        omega
      refine callP_ro (NatToInt_ro x bx) ?_
      simp
      refine callP_ro (NatToInt_ro y by') ?_
      simp
      refine callP_ro (l02Plain_ro x y bx by') ?_
      rw [hg]
      simp
      exact retRO0 (by simp) rfl rfl
    · refine callP_ro (l02Div_ro x y hy0 hx hy) ?_
      simp
      rw [loopQ_normal]
      have hlt := Nat.mod_lt x hy0
      refine ⟨(y, x % y), ⟨?_, hy, ?_⟩, hlt, rfl, by simp, Sub.refl _⟩
      · rw [← hg, Nat.gcd_comm x y, Nat.gcd_rec y x, Nat.gcd_comm]
      · exact Nat.le_trans (lim_length_mono (Nat.le_of_lt hlt)) hy
  · have h0 : y = 0 := lim_nil.1 (by simpa using h)
    subst h0
    rw [Nat.gcd_zero_right] at hg
    rw [← hg]
    exact retRO0 (by simp) rfl rfl

end Go.Proofs.Ythhjmaianlmfpaa.Vm

namespace Go.Proofs.Ythhjmaianlmfpaa.Vm
open Go Go.Proofs
set_option linter.unusedSimpArgs false
set_option linter.unusedVariables false

theorem frz_pair {bl bl0 : Int → Option Blk} {g : Int} {ns : List Int} {b : Bool} (h0 : 0 ≤ g ∨ ns = []) (hg : bl0 g = none) (hb : bl g = some ⟨1, iv ns⟩) : frz (dropB bl bl0) 2 (.agg [.bool b, .lsl g 1 0 ns.length]) = some (.agg [.bool b, .sl (iv ns)]) := by
  have h1 := frz_any h0 hg hb
  have h2 : frz (dropB bl bl0) 1 (.bool b) = some (.bool b) := by simp [frz]
  rw [frz_agg]
  simp only [List.mapM_cons, List.mapM_nil, h1, h2]
  rfl
theorem l03Make_ro (neg : Bool) (m : Nat) (hm : (lim m).length ≤ 60) : RO Try.prog 122 [.bool neg, .sl (iv (lim m))] (.agg (biC (sg neg m))) := by
  have hall : ((iv (lim m)).all fun c => c.length == 1 && c.all V.one) = true := by simp [iv]
  refine ro_of2 Try.func122 rfl rfl (by rw [Try.ntmps122]; simp) fun bl => ?_
  rw [Try.ntmps122, Try.results122]
  refine AW_run ?_
  simp
  intro g hg0 hg
  refine callP_ro (l02Cap_ro (lim m) (lim_dig m) (by omega)) ?_
  rw [val_lim, if_pos hm]
  simp
  cases neg
  all_goals
    refine AW_region (Ops_of ?_)
    simp
    intro g1 hg1 h1g hb1
    simp [h1g, Ne.symm h1g, appV, elsV, Int.not_lt.2 hg1, hall]
    refine ⟨by omega, fun g2 hg2 hb2 => ?_⟩
    have h2g : g2 ≠ g := by grind
    have hb2' : bl g2 = none := by grind
    have hnn : 0 ≤ g2 ∨ lim m = [] := hg2.imp id (fun h => by simpa [iv] using h)
    simp [h1g, Ne.symm h1g, h2g, Ne.symm h2g]
  · refine retRO [.agg [.bool false, .lsl g2 1 0 (lim m).length]] 2 (by simp [h1g, Ne.symm h1g, h2g, Ne.symm h2g]) ?_ (by simp [hg, hb1, hb2', h1g, h2g])
    rw [biC_sg]
    exact frz_pair hnn hb2' (by simp [h2g])
  · refine retRO [.agg [.bool (decide (0 < (lim m).length)), .lsl g2 1 0 (lim m).length]] 2 (by simp [h1g, Ne.symm h1g, h2g, Ne.symm h2g]) ?_ (by simp [hg, hb1, hb2', h1g, h2g])
    rw [biC_sg]
    exact frz_pair hnn hb2' (by simp [h2g])

theorem l03Cmp_ro (x y : Int) (hx : (lim x.natAbs).length ≤ 1048576) (hy : (lim y.natAbs).length ≤ 1048576) : RO Try.prog 121 [.agg (biC x), .agg (biC y)] (.int .i64 (cmpZ x y)) := by
  refine ro_of2 Try.func121 rfl rfl (by rw [Try.ntmps121]; simp) fun bl => ?_
  rw [Try.ntmps121, Try.results121]
  refine AW_runA ?_
  rw [show biC x = [.bool (decide (x < 0)), .sl (iv (lim x.natAbs))] from rfl, show biC y = [.bool (decide (y < 0)), .sl (iv (lim y.natAbs))] from rfl]
  simp
  intro g hg0 hg g2 hg2 h2g hb2
  refine AW_run ?_
  simp [h2g, Ne.symm h2g]
  by_cases h1 : x < 0 <;> by_cases h2 : y < 0
  · refine AW_way [(2, .loc g 2 0 0), (3, .loc g2 2 0 0)] _ (upd (upd bl g (some ⟨2, [[.bool (decide (x < 0)), .sl (iv (lim x.natAbs))]]⟩)) g2 (some ⟨2, [[.bool (decide (y < 0)), .sl (iv (lim y.natAbs))]]⟩)) 5 (.bool false) (upd (upd bl g (some ⟨2, [[.bool (decide (x < 0)), .sl (iv (lim x.natAbs))]]⟩)) g2 (some ⟨2, [[.bool (decide (y < 0)), .sl (iv (lim y.natAbs))]]⟩)) ⟨rfl, by simp, Sub.refl _⟩ rfl (by simp [h1, h2, h2g, Ne.symm h2g]) ?_
    simp [h1, h2, h2g, Ne.symm h2g]
    refine AW_way [(2, .loc g 2 0 0), (3, .loc g2 2 0 0)] _ (upd (upd bl g (some ⟨2, [[.bool (decide (x < 0)), .sl (iv (lim x.natAbs))]]⟩)) g2 (some ⟨2, [[.bool (decide (y < 0)), .sl (iv (lim y.natAbs))]]⟩)) 13 (.bool false) (upd (upd bl g (some ⟨2, [[.bool (decide (x < 0)), .sl (iv (lim x.natAbs))]]⟩)) g2 (some ⟨2, [[.bool (decide (y < 0)), .sl (iv (lim y.natAbs))]]⟩)) ⟨rfl, by simp, sub_eq (by simp [h1, h2])⟩ rfl (by simp [h1, h2, h2g, Ne.symm h2g]) ?_
    simp [h1, h2, h2g, Ne.symm h2g]
    refine callP_ro (l02Cmp_ro _ _ hy hx) ?_
    simp
    refine retRO [.int .i64 (cmpZ x y)] 0 ?_ (by simp [frz]) (by simp [hg, hb2])
    have : cmpN y.natAbs x.natAbs = cmpZ x y := by unfold cmpN cmpZ; split <;> split <;> (try split) <;> (try split) <;> omega
    simp [this]
  · refine AW_way [(2, .loc g 2 0 0), (3, .loc g2 2 0 0)] _ (upd (upd bl g (some ⟨2, [[.bool (decide (x < 0)), .sl (iv (lim x.natAbs))]]⟩)) g2 (some ⟨2, [[.bool (decide (y < 0)), .sl (iv (lim y.natAbs))]]⟩)) 5 (.bool true) (upd (upd bl g (some ⟨2, [[.bool (decide (x < 0)), .sl (iv (lim x.natAbs))]]⟩)) g2 (some ⟨2, [[.bool (decide (y < 0)), .sl (iv (lim y.natAbs))]]⟩)) ⟨rfl, by simp, Sub.refl _⟩ rfl (by simp [h1, h2, h2g, Ne.symm h2g]) ?_
    simp [h1, h2, h2g, Ne.symm h2g]
    have : cmpZ x y = -1 := by unfold cmpZ; rw [if_pos (by omega)]
    exact retRO [.int .i64 (-1)] 0 (by simp) (by simp [frz, this]) (by simp [hg, hb2])
  · refine AW_way [(2, .loc g 2 0 0), (3, .loc g2 2 0 0)] _ (upd (upd bl g (some ⟨2, [[.bool (decide (x < 0)), .sl (iv (lim x.natAbs))]]⟩)) g2 (some ⟨2, [[.bool (decide (y < 0)), .sl (iv (lim y.natAbs))]]⟩)) 5 (.bool false) (upd (upd bl g (some ⟨2, [[.bool (decide (x < 0)), .sl (iv (lim x.natAbs))]]⟩)) g2 (some ⟨2, [[.bool (decide (y < 0)), .sl (iv (lim y.natAbs))]]⟩)) ⟨rfl, by simp, Sub.refl _⟩ rfl (by simp [h1, h2, h2g, Ne.symm h2g]) ?_
    simp [h1, h2, h2g, Ne.symm h2g]
    refine AW_way [(2, .loc g 2 0 0), (3, .loc g2 2 0 0)] _ (upd (upd bl g (some ⟨2, [[.bool (decide (x < 0)), .sl (iv (lim x.natAbs))]]⟩)) g2 (some ⟨2, [[.bool (decide (y < 0)), .sl (iv (lim y.natAbs))]]⟩)) 13 (.bool true) (upd (upd bl g (some ⟨2, [[.bool (decide (x < 0)), .sl (iv (lim x.natAbs))]]⟩)) g2 (some ⟨2, [[.bool (decide (y < 0)), .sl (iv (lim y.natAbs))]]⟩)) ⟨rfl, by simp, sub_eq (by simp [h1, h2])⟩ rfl (by simp [h1, h2, h2g, Ne.symm h2g]) ?_
    simp [h1, h2, h2g, Ne.symm h2g]
    have : cmpZ x y = 1 := by unfold cmpZ; rw [if_neg (by omega), if_neg (by omega)]
    exact retRO [.int .i64 1] 0 (by simp) (by simp [frz, this]) (by simp [hg, hb2])
  · refine AW_way [(2, .loc g 2 0 0), (3, .loc g2 2 0 0)] _ (upd (upd bl g (some ⟨2, [[.bool (decide (x < 0)), .sl (iv (lim x.natAbs))]]⟩)) g2 (some ⟨2, [[.bool (decide (y < 0)), .sl (iv (lim y.natAbs))]]⟩)) 5 (.bool false) (upd (upd bl g (some ⟨2, [[.bool (decide (x < 0)), .sl (iv (lim x.natAbs))]]⟩)) g2 (some ⟨2, [[.bool (decide (y < 0)), .sl (iv (lim y.natAbs))]]⟩)) ⟨rfl, by simp, Sub.refl _⟩ rfl (by simp [h1, h2, h2g, Ne.symm h2g]) ?_
    simp [h1, h2, h2g, Ne.symm h2g]
    refine AW_way [(2, .loc g 2 0 0), (3, .loc g2 2 0 0)] _ (upd (upd bl g (some ⟨2, [[.bool (decide (x < 0)), .sl (iv (lim x.natAbs))]]⟩)) g2 (some ⟨2, [[.bool (decide (y < 0)), .sl (iv (lim y.natAbs))]]⟩)) 13 (.bool false) (upd (upd bl g (some ⟨2, [[.bool (decide (x < 0)), .sl (iv (lim x.natAbs))]]⟩)) g2 (some ⟨2, [[.bool (decide (y < 0)), .sl (iv (lim y.natAbs))]]⟩)) ⟨rfl, by simp, sub_eq (by simp [h1, h2])⟩ rfl (by simp [h1, h2, h2g, Ne.symm h2g]) ?_
    simp [h1, h2, h2g, Ne.symm h2g]
    refine callP_ro (l02Cmp_ro _ _ hx hy) ?_
    simp
    refine retRO [.int .i64 (cmpZ x y)] 0 ?_ (by simp [frz]) (by simp [hg, hb2])
    have : cmpN x.natAbs y.natAbs = cmpZ x y := by unfold cmpN cmpZ; split <;> split <;> (try split) <;> (try split) <;> omega
    simp [this]

theorem l04One_ro (n : Nat) : RO Try.prog 119 [.sl (iv (lim n))] (.bool (decide (n = 1))) := by
  refine ro_of2 Try.func119 rfl rfl (by rw [Try.ntmps119]; simp) fun bl => ?_
  rw [Try.ntmps119, Try.results119]
  refine AW_run ?_
  simp
  refine AW_way0 [(0, .sl (iv (lim n)))] _ bl 2 (.bool (decide (n = 1))) ⟨rfl, by simp, Sub.refl _⟩ rfl ?_ ?_
  · simp
    by_cases h : (lim n).length = 1
    · obtain ⟨k1, k2, k3⟩ := len1 h
      simp [h, lv_get n 0 (by omega), k1, eq_dec]
      rw [lim_at (by omega), k1]
      omega
    · have hn : n ≠ 1 := fun e => h (by rw [e, lim1]; rfl)
      have h2 : ¬ ((lim n).length : Int) = 1 := by omega
      simp [h, h2, hn]
  simp
  exact retRO0 (by simp) rfl rfl

theorem l04Cmp_ro (a b : Rat) (ha : fits a) (hb : fits b) : RO Try.prog 69 [.agg (rq a).c, .agg (rq b).c] (.int .i64 (cmpR a b)) := by
  obtain ⟨a1, a2⟩ := ha
  obtain ⟨b1, b2⟩ := hb
  have n1 := len_mul a1 b2
  have n2 := len_mul b1 a2
  have e1 : sg (decide (a.num < 0)) (a.num.natAbs * b.den) = a.num * b.den := by
    have := sg_mul a.num b.den
    have h0 : decide (((b.den : Nat) : Int) < 0) = false := decide_eq_false (by omega)
    rw [h0, Bool.bne_false, Int.natAbs_natCast] at this
    exact this
  have e2 : sg (decide (b.num < 0)) (b.num.natAbs * a.den) = b.num * a.den := by
    have := sg_mul b.num a.den
    have h0 : decide (((a.den : Nat) : Int) < 0) = false := decide_eq_false (by omega)
    rw [h0, Bool.bne_false, Int.natAbs_natCast] at this
    exact this
  refine ro_of2 Try.func69 rfl rfl (by rw [Try.ntmps69]; simp) fun bl => ?_
  rw [Try.ntmps69, Try.results69]
  refine AW_runA ?_
  rw [rqc_def, rqc_def]
  simp
  intro g hg0 hg g2 hg2 h2g hb2
  refine AW_run ?_
  simp
  refine AW_quiet mixedO (by kernel_rfl) ?_
  simp [h2g, Ne.symm h2g]
  refine hcQ_ro (l02Mul_ro _ _ (by omega) (by omega)) ?_
  simp
  refine hcQ_ro (l03Make_ro _ _ (by omega)) ?_
  rw [e1]
  simp [h2g, Ne.symm h2g]
  refine hcQ_ro (l02Mul_ro _ _ (by omega) (by omega)) ?_
  simp
  refine hcQ_ro (l03Make_ro _ _ (by omega)) ?_
  rw [e2]
  simp
  refine hcQ_ro (l03Cmp_ro _ _ (by rw [← e1, sg_abs]; omega) (by rw [← e2, sg_abs]; omega)) ?_
  simp
  exact retRO [.int .i64 (cmpR a b)] 0 (by simp [cmpR]) (by simp [frz]) (by simp [hg, hb2])

theorem spec_RatOk_ro (r : RT) (hm : r.m.length ≤ 140737488351232) (hd : r.d.length ≤ 140737488351232) : RO Try.prog 67 [.agg r.c] (.bool (decide r.ok)) := by
  refine ro_of2 Try.func67 rfl rfl (by rw [Try.ntmps67]; simp) fun bl => ?_
  rw [Try.ntmps67, Try.results67]
  refine AW_run ?_
  simp [RT.c]
  intro g hg0 hg
  refine AW_way [(1, .loc g 3 0 0)] _ (upd bl g (some ⟨3, [[.bool r.neg, .sl (iv r.m), .sl (iv r.d)]]⟩)) 31 (.bool r.bad) (upd bl g (some ⟨3, [[.bool r.neg, .sl (iv r.m), .sl (iv r.d)]]⟩)) ⟨rfl, by simp, Sub.refl _⟩ rfl ?_ ?_
  · simp
    refine callP_ro (spec_BigIntOk_ro r.neg r.m hm) ?_
    simp [RT.bad]
    refine ⟨fun h => by simp [h], fun h => ?_⟩
    refine callP_ro (spec_NatOk_ro r.d hd) ?_
    simp [h]
    refine ⟨fun a => by simp [a], fun a => ⟨fun b => by simp [b], fun b => ⟨fun c => .inr (by omega), fun c => ?_⟩⟩⟩
    have c2 : ¬ 24 < r.d.length := by omega
    simp [a, b, c2]
    omega
  simp
  refine ⟨fun h => ?_, fun h => ?_⟩
  · refine retRO [.bool false] 0 (by simp) ?_ (by simp [hg])
    have : ¬ r.ok := fun hk => by have := (RT.ok_iff.1 hk).1; rw [h] at this; cases this
    simp [frz, this]
  · obtain ⟨l1, l2, l3, l4⟩ := RT.lims h
    rw [l1, l2]
    refine callP_ro (l02Gcd_ro (val r.m) (val r.d) (by rw [← l1]; omega) (by rw [← l2]; omega)) ?_
    simp
    refine callP_ro (l04One_ro _) ?_
    simp
    refine retRO [.bool (decide (Nat.gcd (val r.m) (val r.d) = 1))] 0 (by simp) ?_ (by simp [hg])
    simp [frz, RT.ok_iff, h]

/-- The sign of a fraction; 0 for none. -/
def sgq (x : Option Rat) : Int := match x with | some q => q.num.sign | none => 0
theorem RatSign_ro (r : RT) (hm : r.m.length ≤ 140737488351232) (hd : r.d.length ≤ 140737488351232) : RO Try.prog 68 [.agg r.c] (.int .i64 (sgq (rd r))) := by
  have key : (decide r.ok = false ∨ r.m = [] → sgq (rd r) = 0) ∧ (r.ok → r.m ≠ [] → sgq (rd r) = if r.neg then -1 else 1) := by
    have none_of : ¬ r.ok → rd r = none := fun h => by unfold rd; rw [if_neg h]
    constructor
    · rintro (h | h)
      · rw [none_of (by simpa using h)]; rfl
      · cases hq : rd r with
        | none => rfl
        | some q =>
          obtain ⟨hr, _⟩ := rd_some hq
          have : q.num = 0 := by
            have : lim q.num.natAbs = [] := by rw [← h, hr]; rfl
            have := lim_nil.1 this; omega
          simp [sgq, this]
    · intro h hm
      obtain ⟨q, hq⟩ : ∃ q, rd r = some q := ⟨_, by unfold rd; rw [if_pos h]⟩
      obtain ⟨hr, _⟩ := rd_some hq
      rw [hq]
      have h1 : q.num ≠ 0 := fun h0 => hm (by rw [hr]; show lim q.num.natAbs = []; rw [h0]; exact lim_zero)
      have h2 : r.neg = decide (q.num < 0) := by rw [hr]; rfl
      rw [h2]
      by_cases h3 : q.num < 0
      · simp [sgq, h3, Int.sign_eq_neg_one_of_neg h3]
      · simp [sgq, h3, Int.sign_eq_one_of_pos (show 0 < q.num by omega)]
  refine ro_of2 Try.func68 rfl rfl (by rw [Try.ntmps68]; simp) fun bl => ?_
  rw [Try.ntmps68, Try.results68]
  refine AW_run ?_
  simp [RT.c]
  intro g hg0 hg
  refine AW_way [(1, .loc g 3 0 0)] _ (upd bl g (some ⟨3, [[.bool r.neg, .sl (iv r.m), .sl (iv r.d)]]⟩)) 3 (.bool (!decide r.ok || decide (r.m = []))) (upd bl g (some ⟨3, [[.bool r.neg, .sl (iv r.m), .sl (iv r.d)]]⟩)) ⟨rfl, by simp, Sub.refl _⟩ rfl ?_ ?_
  · simp
    refine callP_ro (spec_RatOk_ro r hm hd) ?_
    simp [len_dec]
    by_cases h : r.ok <;> simp [h]
  simp
  refine ⟨fun h => ?_, fun h1 h2 => ⟨fun h3 => ?_, fun h3 => ?_⟩⟩
  · exact retRO [.int .i64 0] 0 (by simp) (by rw [key.1 (by simpa using h)]; simp [frz]) (by simp [hg])
  · exact retRO [.int .i64 (-1)] 0 (by simp) (by rw [key.2 h1 h2, h3]; simp [frz]) (by simp [hg])
  · exact retRO [.int .i64 1] 0 (by simp) (by rw [key.2 h1 h2, h3]; simp [frz]) (by simp [hg])

end Go.Proofs.Ythhjmaianlmfpaa.Vm

namespace Go.Proofs.Ythhjmaianlmfpaa.Vm
open Go Go.Proofs
set_option linter.unusedSimpArgs false
set_option linter.unusedVariables false

theorem bne_dec (a b : Int) : (a != b) = !decide (a = b) := by rw [Bool.eq_iff_iff]; simp
structure SP where
  lo : RT
  hi : RT
  nl : Bool
  nh : Bool
def SP.c (s : SP) : List V := [.bool s.lo.neg, .sl (iv s.lo.m), .sl (iv s.lo.d), .bool s.hi.neg, .sl (iv s.hi.m), .sl (iv s.hi.d), .bool s.nl, .bool s.nh]
/-- No list of a form is longer than that. -/
def RT.le (r : RT) (k : Nat) : Prop := r.m.length ≤ k ∧ r.d.length ≤ k
def SP.le (s : SP) (k : Nat) : Prop := s.lo.le k ∧ s.hi.le k
def spBad (s : SP) : Bool := match rd s.lo, rd s.hi with
  | some a, some b => (s.nl && decide (a.num.sign ≠ 0)) || (s.nh && decide (b.num.sign ≠ 0))
  | _, _ => true
def spFine (s : SP) : Bool := match rd s.lo, rd s.hi with
  | some a, some b => (s.nl || s.nh) || decide (cmpR a b ≤ 0)
  | _, _ => false
def spOk (s : SP) : Bool := !spBad s && spFine s
theorem ends_ro (s : SP) (hs : s.le 1048576) : RO Try.prog 70 [.agg s.c] (.tup [fv (if spBad s then none else rd s.lo), fv (if spBad s then none else rd s.hi), .bool (spOk s)]) := by
  obtain ⟨⟨h1, h2⟩, h3, h4⟩ := hs
  refine ro_of2 Try.func70 rfl rfl (by rw [Try.ntmps70]; simp) fun bl => ?_
  rw [Try.ntmps70, Try.results70]
  refine AW_run ?_
  simp [SP.c]
  intro g hg0 hg
  refine AW_quiet mixedO (by kernel_rfl) ?_
  simp
  refine hcQ_ro (load_ro s.lo (by omega) (by omega)) ?_
  simp
  refine hcQ_ro (load_ro s.hi (by omega) (by omega)) ?_
  simp
  have hx := okQ_rd s.lo
  have hy := okQ_rd s.hi
  rcases e1 : rd s.lo with _ | a
  · have hb : spBad s = true := by unfold spBad; rw [e1]
    have hk : spOk s = false := by unfold spOk; rw [hb]; rfl
    refine AW_way [(1, .loc g 8 0 0), (5, .nilp), (6, fv (rd s.hi))] _ (upd bl g (some ⟨8, [s.c]⟩)) 36 (.bool true) (upd bl g (some ⟨8, [s.c]⟩)) ⟨rfl, by simp [fv], sub_eq (by simp [SP.c])⟩ rfl ?_ ?_
    · simp
    simp [hb, hk, fv]
    exact retRO [.nilp, .nilp, .bool false] 1 (by simp) rfl (by simp [hg])
  rcases e2 : rd s.hi with _ | b
  · have hb : spBad s = true := by unfold spBad; rw [e1, e2]
    have hk : spOk s = false := by unfold spOk; rw [hb]; rfl
    refine AW_way [(1, .loc g 8 0 0), (5, fv (some a)), (6, .nilp)] _ (upd bl g (some ⟨8, [s.c]⟩)) 36 (.bool true) (upd bl g (some ⟨8, [s.c]⟩)) ⟨rfl, by simp [fv], sub_eq (by simp [SP.c])⟩ rfl ?_ ?_
    · simp [fv]
    simp [hb, hk, fv]
    exact retRO [.nilp, .nilp, .bool false] 1 (by simp) rfl (by simp [hg])
  have fa := hx a e1
  have fb := hy b e2
  refine AW_way [(1, .loc g 8 0 0), (5, .ptr (rq a).c), (6, .ptr (rq b).c)] _ (upd bl g (some ⟨8, [s.c]⟩)) 36 (.bool (spBad s)) (upd bl g (some ⟨8, [s.c]⟩)) ⟨rfl, by simp [fv], sub_eq (by simp [SP.c])⟩ rfl ?_ ?_
  · have hbv : spBad s = ((s.nl && decide (a.num.sign ≠ 0)) || (s.nh && decide (b.num.sign ≠ 0))) := by unfold spBad; rw [e1, e2]
    rw [hbv]
    cases hnl : s.nl <;> cases hnh : s.nh
    · simp [SP.c, hnl, hnh]
    · simp [SP.c, hnl, hnh]
      refine callP_ro (Sign_ro b) ?_
      simp [SP.c, hnl, hnh, bne_dec]
    · simp [SP.c, hnl, hnh]
      refine callP_ro (Sign_ro a) ?_
      simp [SP.c, hnl, hnh, bne_dec]
    · simp [SP.c, hnl, hnh]
      refine callP_ro (Sign_ro a) ?_
      simp [SP.c, hnl, hnh, bne_dec]
      refine ⟨fun h => .inl h, fun h => ?_⟩
      refine callP_ro (Sign_ro b) ?_
      simp [SP.c, hnl, hnh, bne_dec, h]
  cases hb : spBad s
  · have hkv : spOk s = ((s.nl || s.nh) || decide (cmpR a b ≤ 0)) := by unfold spOk spFine; rw [hb, e1, e2]; rfl
    rw [hkv]
    simp [fv]
    cases hnl : s.nl <;> cases hnh : s.nh
    · refine AW_region (Ops_of ?_)
      simp [SP.c, hnl, hnh]
      refine callP_ro (Cmp_ro a b (few_mono fa (by decide)) (few_mono fb (by decide))) ?_
      simp [SP.c, hnl, hnh]
      exact retRO [.ptr (rq a).c, .ptr (rq b).c, .bool (decide (cmpR a b ≤ 0))] 1 (by simp) rfl (by simp [hg])
    all_goals
      refine AW_region (Ops_of ?_)
      simp [SP.c, hnl, hnh]
      exact retRO [.ptr (rq a).c, .ptr (rq b).c, .bool true] 1 (by simp) rfl (by simp [hg])
  · have hk : spOk s = false := by unfold spOk; rw [hb]; rfl
    simp [fv, hk]
    exact retRO [.nilp, .nilp, .bool false] 1 (by simp) rfl (by simp [hg])

theorem impl_SpanOk_ro (s : SP) (hs : s.le 1048576) : RO Try.prog 23 [.agg s.c] (.bool (spOk s)) := by
  refine ro_of2 Try.func23 rfl rfl (by rw [Try.ntmps23]; simp) fun bl => ?_
  rw [Try.ntmps23, Try.results23]
  refine AW_run ?_
  simp [SP.c]
  intro g hg0 hg
  refine callP_ro (ends_ro s hs) ?_
  simp
  exact retRO [.bool (spOk s)] 0 (by simp) (by simp [frz]) (by simp [hg])
theorem impl_IsOpen_ro (s : SP) (hs : s.le 1048576) : RO Try.prog 26 [.agg s.c] (.bool (spOk s && (s.nl || s.nh))) := by
  refine ro_of2 Try.func26 rfl rfl (by rw [Try.ntmps26]; simp) fun bl => ?_
  rw [Try.ntmps26, Try.results26]
  refine AW_run ?_
  simp [SP.c]
  intro g hg0 hg
  refine AW_way [(1, .loc g 8 0 0)] _ (upd bl g (some ⟨8, [s.c]⟩)) 2 (.bool (spOk s && (s.nl || s.nh))) (upd bl g (some ⟨8, [s.c]⟩)) ⟨rfl, by simp, sub_eq (by simp [SP.c])⟩ rfl ?_ ?_
  · simp [SP.c]
    refine callP_ro (impl_SpanOk_ro s hs) ?_
    cases spOk s <;> cases hnl : s.nl <;> simp [SP.c, hnl]
  simp
  exact retRO [.bool (spOk s && (s.nl || s.nh))] 0 (by simp) (by simp [frz]) (by simp [hg])

/-! ### Spans in the reference -/
theorem spec_SpanOk_ro (s : SP) (hs : s.le 1048576) : RO Try.prog 21 [.agg s.c] (.bool (spOk s)) := by
  obtain ⟨⟨h1, h2⟩, h3, h4⟩ := hs
  refine ro_of2 Try.func21 rfl rfl (by rw [Try.ntmps21]; simp) fun bl => ?_
  rw [Try.ntmps21, Try.results21]
  refine AW_run ?_
  simp [SP.c]
  intro g hg0 hg
  refine AW_way [(1, .loc g 8 0 0)] _ (upd bl g (some ⟨8, [s.c]⟩)) 32 (.bool (spBad s)) (upd bl g (some ⟨8, [s.c]⟩)) ⟨rfl, by simp, sub_eq (by simp [SP.c])⟩ rfl ?_ ?_
  · simp [SP.c]
    refine callP_ro (spec_RatOk_ro s.lo (by omega) (by omega)) ?_
    simp
    refine ⟨fun h => ?_, fun h => ?_⟩
    · have : rd s.lo = none := by unfold rd; rw [if_neg h]
      simp [spBad, this]
    refine callP_ro (spec_RatOk_ro s.hi (by omega) (by omega)) ?_
    simp [h]
    refine ⟨fun h5 => ?_, fun h5 => ?_⟩
    · have : rd s.hi = none := by unfold rd; rw [if_neg h5]
      simp [spBad, this]
    obtain ⟨a, e1⟩ : ∃ q, rd s.lo = some q := ⟨_, by unfold rd; rw [if_pos h]⟩
    obtain ⟨b, e2⟩ : ∃ q, rd s.hi = some q := ⟨_, by unfold rd; rw [if_pos h5]⟩
    have hbv : spBad s = ((s.nl && decide (a.num.sign ≠ 0)) || (s.nh && decide (b.num.sign ≠ 0))) := by unfold spBad; rw [e1, e2]
    rw [hbv]
    have ra := RatSign_ro s.lo (by omega) (by omega)
    have rb := RatSign_ro s.hi (by omega) (by omega)
    rw [e1] at ra
    rw [e2] at rb
    cases hnl : s.nl <;> cases hnh : s.nh
    · simp [SP.c, hnl, hnh, h5]
    · simp [SP.c, hnl, hnh, h5]
      refine callP_ro rb ?_
      simp [SP.c, hnl, hnh, bne_dec, sgq]
    · simp [SP.c, hnl, hnh, h5]
      refine callP_ro ra ?_
      simp [SP.c, hnl, hnh, bne_dec, sgq]
    · simp [SP.c, hnl, hnh, h5]
      refine callP_ro ra ?_
      simp [SP.c, hnl, hnh, bne_dec, sgq]
      refine ⟨fun h => .inl h, fun h => ?_⟩
      refine callP_ro rb ?_
      simp [SP.c, hnl, hnh, bne_dec, h, sgq]
  cases hb : spBad s
  · simp
    rcases e1 : rd s.lo with _ | a
    · unfold spBad at hb; rw [e1] at hb; cases hb
    rcases e2 : rd s.hi with _ | b
    · unfold spBad at hb; rw [e1, e2] at hb; cases hb
    obtain ⟨ha, fa⟩ := rd_some e1
    obtain ⟨hb2, fb⟩ := rd_some e2
    have hc := l04Cmp_ro a b fa fb
    rw [← ha, ← hb2] at hc
    have hkv : spOk s = ((s.nl || s.nh) || decide (cmpR a b ≤ 0)) := by unfold spOk spFine; rw [hb, e1, e2]; rfl
    rw [hkv]
    cases hnl : s.nl <;> cases hnh : s.nh
    · refine AW_region (Ops_of ?_)
      simp [SP.c, hnl, hnh]
      refine callP_ro hc ?_
      simp [SP.c, hnl, hnh]
      exact retRO [.bool (decide (cmpR a b ≤ 0))] 0 (by simp) (by simp [frz]) (by simp [hg])
    all_goals
      refine AW_region (Ops_of ?_)
      simp [SP.c, hnl, hnh]
      exact retRO [.bool true] 0 (by simp) (by simp [frz]) (by simp [hg])
  · have hk : spOk s = false := by unfold spOk; rw [hb]; rfl
    simp [hk]
    exact retRO [.bool false] 0 (by simp) (by simp [frz]) (by simp [hg])
theorem spec_IsOpen_ro (s : SP) (hs : s.le 1048576) : RO Try.prog 25 [.agg s.c] (.bool (spOk s && (s.nl || s.nh))) := by
  refine ro_of2 Try.func25 rfl rfl (by rw [Try.ntmps25]; simp) fun bl => ?_
  rw [Try.ntmps25, Try.results25]
  refine AW_run ?_
  simp [SP.c]
  intro g hg0 hg
  refine AW_way [(1, .loc g 8 0 0)] _ (upd bl g (some ⟨8, [s.c]⟩)) 2 (.bool (spOk s && (s.nl || s.nh))) (upd bl g (some ⟨8, [s.c]⟩)) ⟨rfl, by simp, sub_eq (by simp [SP.c])⟩ rfl ?_ ?_
  · simp [SP.c]
    refine callP_ro (spec_SpanOk_ro s hs) ?_
    cases spOk s <;> cases hnl : s.nl <;> simp [SP.c, hnl]
  simp
  exact retRO [.bool (spOk s && (s.nl || s.nh))] 0 (by simp) (by simp [frz]) (by simp [hg])

end Go.Proofs.Ythhjmaianlmfpaa.Vm

namespace Go.Proofs.Ythhjmaianlmfpaa.Vm
open Go Go.Proofs
set_option linter.unusedSimpArgs false
set_option linter.unusedVariables false

theorem celT_int : Try.prog.cellsOf 3 = 1 := by kernel_rfl
theorem celT_bool : Try.prog.cellsOf 4 = 1 := by kernel_rfl
theorem celT_string : Try.prog.cellsOf 9 = 1 := by kernel_rfl
theorem celT_Joint : Try.prog.cellsOf 169 = 4 := by kernel_rfl

theorem len2 {cs : List V} (h : cs.length = 2) : ∃ a b, cs = [a, b] := by
  match cs, h with
  | [a, b], _ => exact ⟨a, b, rfl⟩
theorem len3 {cs : List V} (h : cs.length = 3) : ∃ a b c, cs = [a, b, c] := by
  match cs, h with
  | [a, b, c], _ => exact ⟨a, b, c, rfl⟩
theorem len4 {cs : List V} (h : cs.length = 4) : ∃ a b c d, cs = [a, b, c, d] := by
  match cs, h with
  | [a, b, c, d], _ => exact ⟨a, b, c, d, rfl⟩

theorem j_of_co {cs : List V} (h : CO Try.prog 169 cs) : ∃ j : J, cs = j.c ∧ j.fit := by
  obtain ⟨hl, hf⟩ := co_struct Try.underlying169 h
  rw [celT_Joint] at hl
  obtain ⟨a, b, c, d, rfl⟩ := len4 hl
  simp [celT_int, celT_bool, celT_string] at hf
  obtain ⟨h0, h1, h2, h3⟩ := hf
  obtain ⟨s, h0, hs⟩ := co_str Try.underlying9 h0
  obtain ⟨x, h1, hx⟩ := co_int Try.underlying3 h1
  obtain ⟨y, h2, hy⟩ := co_int Try.underlying3 h2
  obtain ⟨f, h3⟩ := co_bool Try.underlying4 h3
  cases h0; cases h1; cases h2; cases h3
  exact ⟨⟨s, x, y, f⟩, rfl, hs, wf_i64 hx, wf_i64 hy⟩

theorem bytes_int : Try.prog.bytesOf 3 = 8 := by kernel_rfl

theorem iv_of_co {cs : List V} (h : CO Try.prog 27 cs) : ∃ ns : List Int, cs = [.sl (iv ns)] ∧ ns.length ≤ 17592186043904 ∧ ∀ n, n ∈ ns → -9223372036854775808 ≤ n ∧ n ≤ 9223372036854775807 := by
  obtain ⟨xs, rfl, hx, hl⟩ := co_slice Try.underlying27 h
  rw [bytes_int] at hl
  have : ∃ ns : List Int, xs = iv ns ∧ ∀ n, n ∈ ns → -9223372036854775808 ≤ n ∧ n ≤ 9223372036854775807 := by
    clear hl h
    induction xs with
    | nil => exact ⟨[], rfl, fun n hn => by cases hn⟩
    | cons x xs ih =>
      obtain ⟨ns, rfl, hns⟩ := ih fun y hy => hx y (List.mem_cons_of_mem _ hy)
      obtain ⟨n, rfl, hn⟩ := co_int Try.underlying3 (hx x List.mem_cons_self)
      refine ⟨n :: ns, rfl, fun m hm => ?_⟩
      rcases List.mem_cons.1 hm with rfl | hm
      · exact wf_i64 hn
      · exact hns m hm
  obtain ⟨ns, rfl, hns⟩ := this
  exact ⟨ns, rfl, by simp at hl; omega, hns⟩

end Go.Proofs.Ythhjmaianlmfpaa.Vm

namespace Go.Proofs.Ythhjmaianlmfpaa.Vm
open Go Go.Proofs
set_option linter.unusedSimpArgs false
set_option linter.unusedVariables false

theorem celT_Member : Try.prog.cellsOf 173 = 3 := by kernel_rfl
theorem celT_Structure : Try.prog.cellsOf 69 = 2 := by kernel_rfl
theorem celT_Joints : Try.prog.cellsOf 66 = 1 := by kernel_rfl
theorem celT_Members : Try.prog.cellsOf 67 = 1 := by kernel_rfl
theorem bytes_Joint : 1 ≤ Try.prog.bytesOf 169 := by
  have : Try.prog.bytesOf 169 = 40 := by kernel_rfl
  omega
theorem bytes_Member : 1 ≤ Try.prog.bytesOf 173 := by
  have : Try.prog.bytesOf 173 = 24 := by kernel_rfl
  omega

def In64 (n : Int) : Prop := -9223372036854775808 ≤ n ∧ n ≤ 9223372036854775807
structure Mb.fit (m : Mb) : Prop where
  a : In64 m.a
  b : In64 m.b
  kind : In64 m.kind
structure Str.fit (s : Str) : Prop where
  js : s.js.length ≤ 140737488351232
  ms : s.ms.length ≤ 140737488351232
  names : ∀ j, j ∈ s.js → j.name.size ≤ 140737488351232
  joints : ∀ j, j ∈ s.js → j.fit
  members : ∀ m, m ∈ s.ms → m.fit

theorem m_of_co {cs : List V} (h : CO Try.prog 173 cs) : ∃ m : Mb, cs = m.c ∧ m.fit := by
  obtain ⟨hl, hf⟩ := co_struct Try.underlying173 h
  rw [celT_Member] at hl
  obtain ⟨a, b, c, rfl⟩ := len3 hl
  simp [celT_int, celT_bool, celT_string] at hf
  obtain ⟨h0, h1, h2⟩ := hf
  obtain ⟨x, h0, hx⟩ := co_int Try.underlying3 h0
  obtain ⟨y, h1, hy⟩ := co_int Try.underlying3 h1
  obtain ⟨z, h2, hz⟩ := co_int Try.underlying3 h2
  cases h0; cases h1; cases h2
  exact ⟨⟨x, y, z⟩, rfl, wf_i64 hx, wf_i64 hy, wf_i64 hz⟩

theorem jv_of {xs : List (List V)} (hx : ∀ x, x ∈ xs → CO Try.prog 169 x) : ∃ js : List J, xs = jv js ∧ ∀ j, j ∈ js → j.fit := by
  induction xs with
  | nil => exact ⟨[], rfl, fun n hn => by cases hn⟩
  | cons x xs ih =>
    obtain ⟨ns, rfl, hns⟩ := ih fun y hy => hx y (List.mem_cons_of_mem _ hy)
    obtain ⟨n, rfl, hn⟩ := j_of_co (hx x List.mem_cons_self)
    refine ⟨n :: ns, rfl, fun m hm => ?_⟩
    rcases List.mem_cons.1 hm with rfl | hm
    · exact hn
    · exact hns m hm
theorem mv_of {xs : List (List V)} (hx : ∀ x, x ∈ xs → CO Try.prog 173 x) : ∃ js : List Mb, xs = mv js ∧ ∀ j, j ∈ js → j.fit := by
  induction xs with
  | nil => exact ⟨[], rfl, fun n hn => by cases hn⟩
  | cons x xs ih =>
    obtain ⟨ns, rfl, hns⟩ := ih fun y hy => hx y (List.mem_cons_of_mem _ hy)
    obtain ⟨n, rfl, hn⟩ := m_of_co (hx x List.mem_cons_self)
    refine ⟨n :: ns, rfl, fun m hm => ?_⟩
    rcases List.mem_cons.1 hm with rfl | hm
    · exact hn
    · exact hns m hm

theorem len_of {xs : List (List V)} {b n : Nat} (hl : xs.length * b ≤ n) (hb : 1 ≤ b) : xs.length ≤ n := Nat.le_trans (Nat.le_mul_of_pos_right _ hb) hl

theorem str_of_co {cs : List V} (h : CO Try.prog 69 cs) : ∃ s : Str, cs = s.c ∧ s.fit := by
  obtain ⟨hl, hf⟩ := co_struct Try.underlying69 h
  rw [celT_Structure] at hl
  obtain ⟨a, b, rfl⟩ := len2 hl
  simp [celT_Joints, celT_Members] at hf
  obtain ⟨h0, h1⟩ := hf
  obtain ⟨x, h0, hx, hlx⟩ := co_slice Try.underlying66 h0
  obtain ⟨y, h1, hy, hly⟩ := co_slice Try.underlying67 h1
  cases h0; cases h1
  obtain ⟨js, rfl, hjs⟩ := jv_of hx
  obtain ⟨ms, rfl, hms⟩ := mv_of hy
  exact ⟨⟨js, ms⟩, rfl, by simpa using len_of hlx bytes_Joint, by simpa using len_of hly bytes_Member, fun j hj => (hjs j hj).1, hjs, hms⟩

end Go.Proofs.Ythhjmaianlmfpaa.Vm

namespace Go.Proofs.Ythhjmaianlmfpaa.Vm
open Go Go.Proofs
set_option linter.unusedSimpArgs false
set_option linter.unusedVariables false

theorem szBigInt_ro (neg : Bool) (m : List Int) (left : Int) (hl : -1 ≤ left ∧ left ≤ 1048576) (hm : m.length ≤ 140737488351232) : RO Try.prog 71 [.agg [.bool neg, .sl (iv m)], .int .i64 left] (.int .i64 (less left m.length)) := by
  refine ro_of2 Try.func71 rfl rfl (by rw [Try.ntmps71]; simp) fun bl => ?_
  rw [Try.ntmps71, Try.results71]
  refine AW_run ?_
  simp
  intro g hg0 hg
  refine callP_ro (szIntS_ro m left hl hm) ?_
  simp
  refine ⟨fun h => ?_, fun h => ?_⟩
  · have : less left m.length = -1 := by unfold less at h ⊢; split at h <;> split <;> omega
    exact retRO [.int .i64 (-1)] 0 (by simp) (by simp [frz, this]) (by simp [hg])
  · exact retRO [.int .i64 (less left m.length)] 0 (by simp) (by simp [frz]) (by simp [hg])
theorem less_n {left : Int} {n : Nat} (h : 0 ≤ less left n) : (n : Int) ≤ left := by unfold less at h; split at h <;> omega
theorem less_neg {left : Int} {n : Nat} (h : less left n < 0) : less left n = -1 := by unfold less at h ⊢; split at h <;> split <;> omega
def szR (r : RT) (left : Int) : Int := if less left r.m.length < 0 then -1 else less (less left r.m.length) r.d.length
theorem szR_le {r : RT} {left : Int} (hl : -1 ≤ left ∧ left ≤ 1048576) : -1 ≤ szR r left ∧ szR r left ≤ 1048576 := by
  unfold szR; split
  · omega
  · exact less_le (less_le hl)
theorem szR_n {r : RT} {left : Int} (hl : -1 ≤ left ∧ left ≤ 1048576) (h : 0 ≤ szR r left) : r.le 1048576 := by
  unfold szR at h
  split at h
  · omega
  · have h1 := less_n (show 0 ≤ less left r.m.length by omega)
    have h2 := less_n h
    have := (less_le (n := r.m.length) hl).2
    exact ⟨by omega, by omega⟩
theorem szRat_ro (r : RT) (left : Int) (hl : -1 ≤ left ∧ left ≤ 1048576) (hr : r.le 140737488351232) : RO Try.prog 27 [.agg r.c, .int .i64 left] (.int .i64 (szR r left)) := by
  refine ro_of2 Try.func27 rfl rfl (by rw [Try.ntmps27]; simp) fun bl => ?_
  rw [Try.ntmps27, Try.results27]
  refine AW_run ?_
  simp [RT.c]
  intro g hg0 hg
  refine callP_ro (szBigInt_ro r.neg r.m left hl hr.1) ?_
  simp
  refine ⟨fun h => ?_, fun h => ?_⟩
  · exact retRO [.int .i64 (-1)] 0 (by simp) (by simp [frz, szR, h]) (by simp [hg])
  · refine callP_ro (szIntS_ro r.d _ (less_le hl) hr.2) ?_
    have hn : ¬ less left r.m.length < 0 := by omega
    simp
    refine ⟨fun h2 => ?_, fun h2 => ?_⟩
    · exact retRO [.int .i64 (-1)] 0 (by simp) (by simp [frz, szR, hn, less_neg h2]) (by simp [hg])
    · exact retRO [.int .i64 (szR r left)] 0 (by simp [szR, hn]) (by simp [frz]) (by simp [hg])
def szSp (s : SP) (left : Int) : Int := if szR s.lo left < 0 then -1 else szR s.hi (szR s.lo left)
theorem szR_neg {r : RT} {left : Int} (h : szR r left < 0) : szR r left = -1 := by
  unfold szR at h ⊢
  split at h
  · rw [if_pos (by assumption)]
  · rename_i hn; rw [if_neg hn]; exact less_neg h
theorem szSp_le {s : SP} {left : Int} (hl : -1 ≤ left ∧ left ≤ 1048576) : -1 ≤ szSp s left ∧ szSp s left ≤ 1048576 := by
  unfold szSp; split
  · omega
  · exact szR_le (szR_le hl)
theorem szSp_n {s : SP} {left : Int} (hl : -1 ≤ left ∧ left ≤ 1048576) (h : 0 ≤ szSp s left) : s.le 1048576 := by
  unfold szSp at h
  split at h
  · omega
  · exact ⟨szR_n hl (by omega), szR_n (szR_le hl) h⟩
theorem szSpan_ro (s : SP) (left : Int) (hl : -1 ≤ left ∧ left ≤ 1048576) (hs : s.le 140737488351232) : RO Try.prog 20 [.agg s.c, .int .i64 left] (.int .i64 (szSp s left)) := by
  refine ro_of2 Try.func20 rfl rfl (by rw [Try.ntmps20]; simp) fun bl => ?_
  rw [Try.ntmps20, Try.results20]
  refine AW_run ?_
  simp [SP.c]
  intro g hg0 hg
  refine callP_ro (szRat_ro s.lo left hl hs.1) ?_
  simp
  refine ⟨fun h => ?_, fun h => ?_⟩
  · exact retRO [.int .i64 (-1)] 0 (by simp) (by simp [frz, szSp, h]) (by simp [hg])
  · refine callP_ro (szRat_ro s.hi _ (szR_le hl) hs.2) ?_
    have hn : ¬ szR s.lo left < 0 := by omega
    simp
    refine ⟨fun h2 => ?_, fun h2 => ?_⟩
    · exact retRO [.int .i64 (-1)] 0 (by simp) (by simp [frz, szSp, hn, szR_neg h2]) (by simp [hg])
    · exact retRO [.int .i64 (szSp s left)] 0 (by simp [szSp, hn]) (by simp [frz]) (by simp [hg])

/-! ### Copies -/
theorem toBigInt_ro (neg : Bool) (m : List Int) (hm : m.length ≤ 1048576) : RO Try.prog 73 [.agg [.bool neg, .sl (iv m)]] (.agg [.bool neg, .sl (iv m)]) := by
  refine ro_of2 Try.func73 rfl rfl (by rw [Try.ntmps73]; simp) fun bl => ?_
  rw [Try.ntmps73, Try.results73]
  refine AW_run ?_
  simp
  intro g1 hg1 hb1 g2 hg2 h21 hb2 g3 hg3 h32 h31 hb3
  try simp [h21, h31, h32, Ne.symm h21, Ne.symm h31, Ne.symm h32]
  refine callP_ro (toIntS_ro m hm) ?_
  simp [h21, h31, h32, Ne.symm h21, Ne.symm h31, Ne.symm h32]
  exact retRO [.agg [.bool neg, .sl (iv m)]] 1 (by simp [h21, h31, h32, Ne.symm h21, Ne.symm h31, Ne.symm h32]) rfl (by simp [hb1, hb2, hb3])
theorem toRat_ro (r : RT) (hr : r.le 1048576) : RO Try.prog 29 [.agg r.c] (.agg r.c) := by
  refine ro_of2 Try.func29 rfl rfl (by rw [Try.ntmps29]; simp) fun bl => ?_
  rw [Try.ntmps29, Try.results29]
  refine AW_run ?_
  simp [RT.c]
  intro g1 hg1 hb1 g2 hg2 h21 hb2 g3 hg3 h32 h31 hb3
  try simp [h21, h31, h32, Ne.symm h21, Ne.symm h31, Ne.symm h32]
  refine callP_ro (toBigInt_ro r.neg r.m hr.1) ?_
  simp [h21, h31, h32, Ne.symm h21, Ne.symm h31, Ne.symm h32]
  refine callP_ro (toIntS_ro r.d hr.2) ?_
  simp [h21, h31, h32, Ne.symm h21, Ne.symm h31, Ne.symm h32]
  exact retRO [.agg [.bool r.neg, .sl (iv r.m), .sl (iv r.d)]] 1 (by simp [h21, h31, h32, Ne.symm h21, Ne.symm h31, Ne.symm h32]) rfl (by simp [hb1, hb2, hb3])
theorem toSpan_ro (s : SP) (hs : s.le 1048576) : RO Try.prog 22 [.agg s.c] (.agg s.c) := by
  refine ro_of2 Try.func22 rfl rfl (by rw [Try.ntmps22]; simp) fun bl => ?_
  rw [Try.ntmps22, Try.results22]
  refine AW_run ?_
  simp [SP.c]
  intro g1 hg1 hb1 g2 hg2 h21 hb2 g3 hg3 h32 h31 hb3
  try simp [h21, h31, h32, Ne.symm h21, Ne.symm h31, Ne.symm h32]
  refine callP_ro (toRat_ro s.lo hs.1) ?_
  simp [h21, h31, h32, Ne.symm h21, Ne.symm h31, Ne.symm h32, RT.c]
  refine callP_ro (toRat_ro s.hi hs.2) ?_
  simp [h21, h31, h32, Ne.symm h21, Ne.symm h31, Ne.symm h32, RT.c]
  exact retRO [.agg s.c] 1 (by simp [SP.c, h21, h31, h32, Ne.symm h21, Ne.symm h31, Ne.symm h32]) rfl (by simp [hb1, hb2, hb3])

/-! ### Comparisons with itself -/
theorem eqBigInt_ro (neg : Bool) (m : List Int) (hm : m.length ≤ 140737488351232) : RO Try.prog 77 [.agg [.bool neg, .sl (iv m)], .agg [.bool neg, .sl (iv m)]] (.bool true) := by
  refine ro_of2 Try.func77 rfl rfl (by rw [Try.ntmps77]; simp) fun bl => ?_
  rw [Try.ntmps77, Try.results77]
  refine AW_run ?_
  simp
  intro g1 hg1 hb1 g2 hg2 h21 hb2
  try simp [h21, Ne.symm h21]
  refine callP_ro (eqIntS_ro m m hm) ?_
  simp
  exact retRO [.bool true] 0 (by simp) rfl (by simp [hb1, hb2])
theorem eqRat_ro (r : RT) (hr : r.le 140737488351232) : RO Try.prog 31 [.agg r.c, .agg r.c] (.bool true) := by
  refine ro_of2 Try.func31 rfl rfl (by rw [Try.ntmps31]; simp) fun bl => ?_
  rw [Try.ntmps31, Try.results31]
  refine AW_run ?_
  simp [RT.c]
  intro g1 hg1 hb1 g2 hg2 h21 hb2
  try simp [h21, Ne.symm h21]
  refine callP_ro (eqBigInt_ro r.neg r.m hr.1) ?_
  simp [h21, Ne.symm h21]
  refine callP_ro (eqIntS_ro r.d r.d hr.2) ?_
  simp
  exact retRO [.bool true] 0 (by simp) rfl (by simp [hb1, hb2])
theorem eqSpan_ro (s : SP) (hs : s.le 140737488351232) : RO Try.prog 24 [.agg s.c, .agg s.c] (.bool true) := by
  refine ro_of2 Try.func24 rfl rfl (by rw [Try.ntmps24]; simp) fun bl => ?_
  rw [Try.ntmps24, Try.results24]
  refine AW_run ?_
  simp [SP.c]
  intro g1 hg1 hb1 g2 hg2 h21 hb2
  try simp [h21, Ne.symm h21]
  refine callP_ro (eqRat_ro s.lo hs.1) ?_
  simp [h21, Ne.symm h21]
  refine callP_ro (eqRat_ro s.hi hs.2) ?_
  simp [h21, Ne.symm h21]
  exact retRO [.bool true] 0 (by simp) rfl (by simp [hb1, hb2])

end Go.Proofs.Ythhjmaianlmfpaa.Vm

namespace Go.Proofs.Ythhjmaianlmfpaa.Vm
open Go Go.Proofs
set_option linter.unusedSimpArgs false
set_option linter.unusedVariables false

theorem own_pair {bl : Int → Option Blk} {d e : D} {vs : List V} {gs : List Int} : OwnL bl [d, e] vs gs ↔ ∃ v w g1 g2, vs = [v, w] ∧ gs = g1 ++ g2 ∧ (∀ g, g ∈ g1 → g ∉ g2) ∧ OwnD bl d v g1 ∧ OwnD bl e w g2 := by
  rw [OwnL]
  constructor
  · rintro ⟨v, vs', g1, g2, rfl, rfl, h1, h2, h3⟩
    rw [OwnL] at h3
    obtain ⟨w, vs'', g3, g4, rfl, rfl, h4, h5, h6⟩ := h3
    rw [OwnL] at h6
    obtain ⟨rfl, rfl⟩ := h6
    rw [List.append_nil] at h1 ⊢
    exact ⟨v, w, g1, g3, rfl, rfl, h1, h2, h5⟩
  · rintro ⟨v, w, g1, g2, rfl, rfl, h1, h2, h3⟩
    refine ⟨v, [w], g1, g2, rfl, rfl, h1, h2, ?_⟩
    rw [OwnL]
    exact ⟨w, [], g2, [], rfl, by simp, by simp, h3, by rw [OwnL]; exact ⟨rfl, rfl⟩⟩
theorem OwnD.one {bl : Int → Option Blk} {sz : Nat} {rows : List (List V)} {v : V} {gs : List Int} (h : OwnD bl (fl sz rows) v gs) : v.one = true ∧ v.cells = [v] := by
  unfold fl at h
  rw [OwnD] at h
  rcases h with ⟨_, rfl, _⟩ | ⟨g, els, gs', rfl, _⟩ <;> exact ⟨rfl, rfl⟩
theorem frz_iv {bl : Int → Option Blk} {ns : List Int} {v : V} {gs : List Int} (h : OwnD bl (fl 1 (iv ns)) v gs) (n : Nat) : frz bl (n + 1) v = some (.sl (iv ns)) := by
  rw [h.frz (fl_dep _ _ _), fl_fz]
theorem sc_iv (ns : List Int) : (fl 1 (iv ns)).sc = true := fl_sc (iv_ow ns)
theorem new_keep {bl bl' : Int → Option Blk} {gs : List Int} (h2 : ∀ g, g ∈ gs → bl g = none) (h3 : ∀ g, g ∉ gs → bl' g = bl g) {x : Int} {b : Blk} (hx : bl x = some b) : bl' x = some b :=
  Made.sub (d := default) (v := default) h2 h3 x b hx
theorem OwnD.keep {bl bl' : Int → Option Blk} {d : D} {v : V} {gs : List Int} (h : OwnD bl d v gs) (hg : ∀ x, x ∈ gs → ∀ b, bl x = some b → bl' x = some b) : OwnD bl' d v gs := h.frame fun x hx => by
  obtain ⟨b, hb⟩ := h.has x hx
  rw [hb, hg x hx b hb]
theorem OwnL.keep {bl bl' : Int → Option Blk} {d : List D} {v : List V} {gs : List Int} (h : OwnL bl d v gs) (hg : ∀ x, x ∈ gs → ∀ b, bl x = some b → bl' x = some b) : OwnL bl' d v gs := h.frame fun x hx => by
  obtain ⟨b, hb⟩ := h.has x hx
  rw [hb, hg x hx b hb]
theorem OwnL.not {bl : Int → Option Blk} {d : List D} {v : List V} {gs : List Int} (h : OwnL bl d v gs) {g : Int} (hg : bl g = none) : g ∉ gs := fun hh => by
  obtain ⟨b, hb⟩ := h.has g hh
  rw [hg] at hb; cases hb
theorem OwnD.not {bl : Int → Option Blk} {d : D} {v : V} {gs : List Int} (h : OwnD bl d v gs) {g : Int} (hg : bl g = none) : g ∉ gs := fun hh => by
  obtain ⟨b, hb⟩ := h.has g hh
  rw [hg] at hb; cases hb
theorem sub_new {bl bl' : Int → Option Blk} {g : Int} {b : Option Blk} (hs : Sub bl bl') (hg : bl' g = none) : Sub bl (upd bl' g b) := hs.upd (fresh_of hs hg) b
theorem OwnR.keep {bl bl' : Int → Option Blk} {sz : Nat} {d : List (List D)} {v : List (List V)} {gs : List Int} (h : OwnR bl sz d v gs) (hg : ∀ x, x ∈ gs → ∀ b, bl x = some b → bl' x = some b) : OwnR bl' sz d v gs := h.frame fun x hx => by
  obtain ⟨b, hb⟩ := h.has x hx
  rw [hb, hg x hx b hb]
theorem OwnR.not {bl : Int → Option Blk} {sz : Nat} {d : List (List D)} {v : List (List V)} {gs : List Int} (h : OwnR bl sz d v gs) {g : Int} (hg : bl g = none) : g ∉ gs := fun hh => by
  obtain ⟨b, hb⟩ := h.has g hh
  rw [hg] at hb; cases hb
theorem OwnR.snoc {bl : Int → Option Blk} {sz : Nat} {r : List D} {e : List V} {g2 : List Int} (hr : OwnL bl r e g2) (hl : e.length = sz) (ho : e.all V.one = true) : ∀ {rs : List (List D)} {els : List (List V)} {g1 : List Int}, OwnR bl sz rs els g1 → (∀ x, x ∈ g1 → x ∉ g2) → OwnR bl sz (rs ++ [r]) (els ++ [e]) (g1 ++ g2)
  | [], els, g1, h, hd => by
    rw [OwnR] at h
    obtain ⟨rfl, rfl⟩ := h
    show OwnR bl sz [r] [e] g2
    rw [OwnR]
    exact ⟨e, [], g2, [], rfl, by simp, by simp, hl, ho, hr, by rw [OwnR]; exact ⟨rfl, rfl⟩⟩
  | r1 :: rs, els, g1, h, hd => by
    rw [OwnR] at h
    obtain ⟨e1, els', ga, gb, rfl, rfl, h3, h4, h5, h6, h7⟩ := h
    have ih := OwnR.snoc hr hl ho h7 fun x hx => hd x (by simp [hx])
    show OwnR bl sz (r1 :: (rs ++ [r])) (e1 :: (els' ++ [e])) (ga ++ gb ++ g2)
    rw [OwnR]
    refine ⟨e1, els' ++ [e], ga, gb ++ g2, rfl, by simp, fun x hx hx2 => ?_, h4, h5, h6, ih⟩
    rcases List.mem_append.1 hx2 with hx2 | hx2
    · exact h3 x hx hx2
    · exact hd x (by simp [hx]) hx2
theorem OwnR.at {bl : Int → Option Blk} {sz : Nat} : ∀ {rs : List (List D)} {els : List (List V)} {gs : List Int} (i : Nat) (hi : i < rs.length), OwnR bl sz rs els gs →
    ∃ e gi, els[i]? = some e ∧ OwnL bl rs[i] e gi ∧ e.length = sz ∧ e.all V.one = true ∧ (∀ x, x ∈ gi → x ∈ gs) ∧
      ∀ bl' r' e', OwnL bl' r' e' gi → e'.length = sz → e'.all V.one = true → (∀ x, x ∈ gs → x ∉ gi → ∀ y, bl x = some y → bl' x = some y) → OwnR bl' sz (rs.set i r') (els.set i e') gs
  | [], els, gs, i, hi, _ => by simp at hi
  | r :: rs, els, gs, 0, hi, h => by
    rw [OwnR] at h
    obtain ⟨e, els', g1, g2, rfl, rfl, h3, h4, h5, h6, h7⟩ := h
    refine ⟨e, g1, rfl, h6, h4, h5, fun x hx => by simp [hx], fun bl' r' e' a1 a2 a3 a4 => ?_⟩
    show OwnR bl' sz (r' :: rs) (e' :: els') (g1 ++ g2)
    rw [OwnR]
    exact ⟨e', els', g1, g2, rfl, rfl, h3, a2, a3, a1, h7.keep fun x hx b hb => a4 x (by simp [hx]) (fun h => h3 x h hx) b hb⟩
  | r :: rs, els, gs, i + 1, hi, h => by
    rw [OwnR] at h
    obtain ⟨e, els', g1, g2, rfl, rfl, h3, h4, h5, h6, h7⟩ := h
    obtain ⟨e2, gi, b1, b2, b3, b4, b5, b6⟩ := OwnR.at (rs := rs) i (by simpa using hi) h7
    refine ⟨e2, gi, by simpa using b1, by simpa using b2, b3, b4, fun x hx => by simp [b5 x hx], fun bl' r' e' a1 a2 a3 a4 => ?_⟩
    show OwnR bl' sz (r :: rs.set i r') (e :: els'.set i e') (g1 ++ g2)
    rw [OwnR]
    refine ⟨e, els'.set i e', g1, g2, rfl, rfl, h3, h4, h5, h6.keep fun x hx b hb => a4 x (by simp [hx]) (fun h => h3 x hx (b5 x h)) b hb, b6 bl' r' e' a1 a2 a3 fun x hx hn y hy => a4 x (by simp [hx]) hn y hy⟩
theorem grow_get (els : List (List V)) (z : List V) (n : Nat) (h : els.length < n) : (els ++ List.replicate (n - els.length) z)[els.length]? = some z := by
  rw [List.getElem?_append_right (Nat.le_refl _), Nat.sub_self, List.getElem?_replicate, if_pos (by omega)]
theorem grow_set (els : List (List V)) (z x : List V) (n : Nat) (h : els.length < n) : (els ++ List.replicate (n - els.length) z).set els.length x = (els ++ [x]) ++ List.replicate (n - (els ++ [x]).length) z := by
  rw [List.set_append_right _ _ (Nat.le_refl _), Nat.sub_self]
  obtain ⟨m, hm⟩ : ∃ m, n - els.length = m + 1 := ⟨n - els.length - 1, by omega⟩
  have h2 : n - (els ++ [x]).length = m := by simp; omega
  rw [hm, h2, List.replicate_succ]
  simp
theorem grow_set' (els : List (List V)) (z x : List V) (n : Nat) (h : els.length < n) : els ++ (List.replicate (n - els.length) z).set 0 x = (els ++ [x]) ++ List.replicate (n - (els ++ [x]).length) z := by
  rw [← grow_set els z x n h, List.set_append_right _ _ (Nat.le_refl _), Nat.sub_self]
theorem own_single {bl : Int → Option Blk} {d : D} {v : V} {gs : List Int} : OwnL bl [d] [v] gs ↔ OwnD bl d v gs := by
  rw [OwnL]
  constructor
  · rintro ⟨v', vs', g1, g2, h1, rfl, _, h2, h3⟩
    cases h1
    rw [OwnL] at h3
    rw [h3.2, List.append_nil]; exact h2
  · intro h
    exact ⟨v, [], gs, [], rfl, by simp, by simp, h, by rw [OwnL]; exact ⟨rfl, rfl⟩⟩
theorem sub_new' {bl bl' : Int → Option Blk} {g : Int} {b : Option Blk} (hg : bl g = none) (hs : Sub bl bl') : Sub bl (upd bl' g b) := hs.upd hg b
structure Grow where
  els : List (List V)
  gs : List Int
  b : Int → Option Blk
theorem own_cons {bl : Int → Option Blk} {d : D} {ds : List D} {v : V} {vs : List V} {g1 g2 : List Int} (h1 : OwnD bl d v g1) (h2 : OwnL bl ds vs g2) (hd : ∀ g, g ∈ g1 → g ∉ g2) : OwnL bl (d :: ds) (v :: vs) (g1 ++ g2) := by
  rw [OwnL]; exact ⟨v, vs, g1, g2, rfl, rfl, hd, h1, h2⟩
theorem own_nil {bl : Int → Option Blk} : OwnL bl [] [] [] := by rw [OwnL]; exact ⟨rfl, rfl⟩
theorem own_int {bl : Int → Option Blk} (n : Int) : OwnD bl (.c (.int .i64 n)) (.int .i64 n) [] := by rw [OwnD]; exact ⟨rfl, rfl, rfl⟩
theorem own_bool {bl : Int → Option Blk} (b : Bool) : OwnD bl (.c (.bool b)) (.bool b) [] := by rw [OwnD]; exact ⟨rfl, rfl, rfl⟩

end Go.Proofs.Ythhjmaianlmfpaa.Vm

namespace Go.Proofs.Ythhjmaianlmfpaa.Vm
open Go Go.Proofs
set_option linter.unusedSimpArgs false
set_option linter.unusedVariables false

/-- Rows written over from the beginning. -/
def over (ys xs : List (List V)) (i : Nat) : List (List V) := ys.take i ++ xs.drop i
@[simp] theorem over_zero (ys xs : List (List V)) : over ys xs 0 = xs := by simp [over]
theorem over_length (ys xs : List (List V)) (i : Nat) (hl : ys.length = xs.length) : (over ys xs i).length = xs.length := by simp [over]; omega
theorem over_all (ys xs : List (List V)) (i : Nat) (hl : ys.length = xs.length) (hi : xs.length ≤ i) : over ys xs i = ys := by
  simp [over, List.take_of_length_le (show ys.length ≤ i by omega), List.drop_of_length_le hi]
theorem over_get (ys xs : List (List V)) (i : Nat) (hl : ys.length = xs.length) (hi : i < xs.length) : (over ys xs i)[i]? = some xs[i] := by
  unfold over
  rw [List.getElem?_append_right (by simp; omega), List.length_take, Nat.min_eq_left (by omega), Nat.sub_self, List.getElem?_drop]
  simp [hi]
theorem over_getE (ys xs : List (List V)) (i : Nat) (hl : ys.length = xs.length) (hi : i < xs.length) : (over ys xs i)[i]'(by rw [over_length ys xs i hl]; exact hi) = xs[i] := by
  have := over_get ys xs i hl hi
  rw [List.getElem?_eq_getElem (by rw [over_length ys xs i hl]; exact hi)] at this
  exact Option.some.inj this
theorem over_set (ys xs : List (List V)) (i : Nat) (hl : ys.length = xs.length) (hi : i < ys.length) (x : List V) (hx : x = ys[i]) : (over ys xs i).set i x = over ys xs (i + 1) := by
  subst hx
  apply List.ext_getElem?
  intro j
  have hz : ∀ k, k ≤ ys.length → ∀ j, (over ys xs k)[j]? = if j < k then ys[j]? else xs[j]? := by
    intro k hk j
    unfold over
    by_cases hj : j < k
    · rw [if_pos hj, List.getElem?_append_left (by simp; omega), List.getElem?_take_of_lt hj]
    · rw [if_neg hj, List.getElem?_append_right (by simp; omega), List.length_take, Nat.min_eq_left hk, List.getElem?_drop]
      congr 1; omega
  rw [List.getElem?_set, hz i (by omega), hz (i + 1) (by omega), over_length _ _ _ hl]
  by_cases hij : i = j
  · subst hij; simp [hi]; omega
  · rw [if_neg hij]
    by_cases h1 : j < i
    · simp [h1, show j < i + 1 by omega]
    · simp [h1, show ¬ j < i + 1 by omega]

def marks (k : Int) (n : Nat) : List Int := (List.range n).map fun (i : Nat) => k + i
@[simp] theorem marks_length (k : Int) (n : Nat) : (marks k n).length = n := by simp [marks]
@[simp] theorem marks_getE (k : Int) (n i : Nat) (h : i < (marks k n).length) : (marks k n)[i] = k + i := by simp [marks]
theorem marks_at (k : Int) (n i : Nat) (h : i < n) : (iv (marks k n))[i]'(by simpa using h) = [.int .i64 (k + i)] := by simp [marks]

theorem markIntS_cp {bl : Int → Option Blk} {K : V → (Int → Option Blk) → Prop} (xs : List Int) (k : Int) (v : V) (gs : List Int) (h : OwnD bl (fl 1 (iv xs)) v gs) (hk : -1 ≤ k ∧ k + xs.length ≤ 4611686018427387904)
    (hK : ∀ bl', OwnD bl' (fl 1 (iv (marks k xs.length))) v gs → (∀ g, g ∉ gs → bl' g = bl g) → K (.int .i64 (k + xs.length)) bl') : CallP Try.prog 83 [v, .int .i64 k] bl K := by
  refine callP_of Try.func83 rfl rfl (by rw [Try.ntmps83]; simp) ?_
  rw [Try.ntmps83, Try.results83]
  refine AW_run ?_
  rcases own_iv.1 h with ⟨rfl, rfl, rfl⟩ | ⟨g, rfl, rfl, hb, hg0⟩
  · simp
    refine AW_for (fun _ : Unit => [(0, .nils), (1, .int .i64 k), (5, .int .i64 0)]) (fun _ => bl) (fun _ => True) (fun _ => 0) _ () trivial ⟨rfl, by simp, Sub.refl _⟩ ?_
    intro _ _
    refine AW_run ?_
    simp
    rw [retK_ret]
    refine ⟨[.int .i64 k], by simp, ?_⟩
    have := hK bl (own_iv.2 (.inl ⟨rfl, rfl, rfl⟩)) (fun _ _ => rfl)
    simpa using this
  · simp
    refine AW_for (fun i : Nat => [(0, .lsl g 1 0 xs.length), (1, .int .i64 (k + i)), (5, .int .i64 i)]) (fun i => upd bl g (some ⟨1, over (iv (marks k xs.length)) (iv xs) i⟩)) (fun i => i ≤ xs.length) (fun i => xs.length - i) _ 0 (Nat.zero_le _) ⟨rfl, by simp, sub_eq ?_⟩ ?_
    · funext x
      simp only [upd_apply]
      split
      · rename_i hx; subst hx; simp [hb]
      · rfl
    intro i hi
    refine AW_run ?_
    simp
    refine ⟨fun h1 => ?_, fun h1 => ?_⟩
    · have h2 : i < (iv xs).length := by simpa using h1
      have hge : 0 ≤ g := by
        rcases Int.lt_or_le g 0 with hlt | hge
        · have := hg0 hlt; subst this; simp at h1
        · exact hge
      have hgi := over_get (iv (marks k xs.length)) (iv xs) i (by simp) h2
      simp (disch := omega) [h1, hgi, i64_in, loopQ_normal]
      refine ⟨i + 1, by omega, by omega, rfl, by simp; omega, sub_eq ?_⟩
      rw [over_set _ _ _ (by simp) (by simpa using h1) _ (by simp [marks])]
    · have hi' : i = xs.length := by omega
      subst hi'
      rw [retK_ret]
      refine ⟨[.int .i64 (k + xs.length)], by simp, ?_⟩
      refine hK _ (own_iv.2 (.inr ⟨g, by simp, rfl, ?_, fun h => by have := hg0 h; subst this; rfl⟩)) (fun g' hg' => ?_)
      · simp; rw [over_all _ _ _ (by simp) (by simp)]
      · simp at hg'; simp [hg']

theorem heldIntS_ro (n : Nat) (k : Int) (hk : -1 ≤ k ∧ k + n ≤ 4611686018427387904) : RO Try.prog 85 [.sl (iv (marks k n)), .int .i64 k] (.int .i64 (k + n)) := by
  refine ro_of2 Try.func85 rfl rfl (by rw [Try.ntmps85]; simp) fun bl => ?_
  rw [Try.ntmps85, Try.results85]
  refine AW_run ?_
  simp
  refine AW_for (fun i : Nat => [(0, .sl (iv (marks k n))), (1, .int .i64 (k + i)), (5, .int .i64 i)]) (fun _ => bl) (fun i => i ≤ n) (fun i => n - i) _ 0 (Nat.zero_le _) ⟨rfl, by simp, Sub.refl _⟩ ?_
  intro i hi
  refine AW_run ?_
  simp
  refine ⟨fun h1 => ?_, fun h1 => ?_⟩
  · have h2 : i < (iv (marks k n)).length := by simpa using h1
    simp (disch := omega) [h1, i64_in, loopQ_normal]
    refine ⟨i + 1, by omega, by omega, rfl, by simp; omega, Sub.refl _⟩
  · have hi' : i = n := by omega
    subst hi'
    exact retRO0 (by simp) rfl rfl

theorem toIntS_nw (a : List Int) (ha : a.length ≤ 1048576) : NW Try.prog 74 [.sl (iv a)] (fl 1 (iv a)) := by
  refine nw_of Try.func74 rfl rfl (by rw [Try.ntmps74]; simp) fun bl => ?_
  rw [Try.ntmps74, Try.results74]
  refine AW_run ?_
  simp
  refine ⟨by omega, by unfold maxLen; omega, fun g hg0 hg => ?_⟩
  refine AW_for (fun i : Nat => [(0, .sl (iv a)), (3, .lsl g 1 0 a.length), (4, .int .i64 i)]) (fun i => upd bl g (some ⟨1, part (iv a) [.int .i64 0] i⟩)) (fun i => i ≤ a.length) (fun i => a.length - i) _ 0 (Nat.zero_le _) ⟨rfl, by simp, sub_eq (by simp)⟩ ?_
  intro i hi
  refine AW_run ?_
  simp
  refine ⟨fun h => ?_, fun h => ?_⟩
  · have hi' : i < (iv a).length := by simpa using h
    simp (disch := omega) [h, part_get _ _ _ hi', i64_in, loopQ_normal]
    refine ⟨i + 1, by omega, by omega, rfl, by simp, sub_eq ?_⟩
    simp only [upd_idem]
    rw [part_set _ _ _ hi']
    simp
  · refine retNW [.lsl g 1 0 a.length] [g] (by simp) ?_ (by simpa using hg) (by simp [hg])
    rw [part_all _ _ _ (by simpa using h)]
    exact own_iv.2 (.inr ⟨g, rfl, rfl, by simp, by omega⟩)

end Go.Proofs.Ythhjmaianlmfpaa.Vm

namespace Go.Proofs.Ythhjmaianlmfpaa.Vm
open Go Go.Proofs
set_option linter.unusedSimpArgs false
set_option linter.unusedVariables false

def dB (neg : Bool) (m : List Int) : List D := [.c (.bool neg), fl 1 (iv m)]
def dR (r : RT) : List D := [.c (.bool r.neg), fl 1 (iv r.m), fl 1 (iv r.d)]
theorem own_bi {bl : Int → Option Blk} {neg : Bool} {m : List Int} {v : V} {gs : List Int} : OwnD bl (.a (dB neg m)) v gs ↔ ∃ vm, v = .agg [.bool neg, vm] ∧ OwnD bl (fl 1 (iv m)) vm gs := by
  rw [OwnD]; unfold dB
  constructor
  · rintro ⟨vs, rfl, h⟩
    rw [OwnL] at h
    obtain ⟨v, vs', g1, g2, rfl, rfl, _, h1, h2⟩ := h
    rw [OwnD] at h1
    obtain ⟨rfl, _, rfl⟩ := h1
    obtain ⟨w, rfl⟩ : ∃ w, vs' = [w] := by
      have := h2.length
      match vs', this with
      | [w], _ => exact ⟨w, rfl⟩
    exact ⟨w, rfl, own_single.1 h2⟩
  · rintro ⟨vm, rfl, h⟩
    exact ⟨_, rfl, own_cons (own_bool _) (own_single.2 h) (fun x hx => by cases hx)⟩
theorem own_rtL {bl : Int → Option Blk} {r : RT} {vs : List V} {gs : List Int} : OwnL bl (dR r) vs gs ↔ ∃ vm vd gm gd, vs = [.bool r.neg, vm, vd] ∧ gs = gm ++ gd ∧ (∀ g, g ∈ gm → g ∉ gd) ∧ OwnD bl (fl 1 (iv r.m)) vm gm ∧ OwnD bl (fl 1 (iv r.d)) vd gd := by
  unfold dR
  constructor
  · intro h
    rw [OwnL] at h
    obtain ⟨v, vs', g1, g2, rfl, rfl, _, h1, h2⟩ := h
    rw [OwnD] at h1
    obtain ⟨rfl, _, rfl⟩ := h1
    obtain ⟨vm, vd, gm, gd, rfl, rfl, hd, h3, h4⟩ := own_pair.1 h2
    exact ⟨vm, vd, gm, gd, rfl, rfl, hd, h3, h4⟩
  · rintro ⟨vm, vd, gm, gd, rfl, rfl, hd, h3, h4⟩
    exact own_cons (g1 := []) (g2 := gm ++ gd) (own_bool _) (own_pair.2 ⟨vm, vd, gm, gd, rfl, rfl, hd, h3, h4⟩) (fun x hx => by cases hx)
theorem own_rt {bl : Int → Option Blk} {r : RT} {v : V} {gs : List Int} : OwnD bl (.a (dR r)) v gs ↔ ∃ vm vd gm gd, v = .agg [.bool r.neg, vm, vd] ∧ gs = gm ++ gd ∧ (∀ g, g ∈ gm → g ∉ gd) ∧ OwnD bl (fl 1 (iv r.m)) vm gm ∧ OwnD bl (fl 1 (iv r.d)) vd gd := by
  rw [OwnD]
  constructor
  · rintro ⟨vs, rfl, h⟩
    obtain ⟨vm, vd, gm, gd, rfl, h2⟩ := own_rtL.1 h
    exact ⟨vm, vd, gm, gd, rfl, h2⟩
  · rintro ⟨vm, vd, gm, gd, rfl, h2⟩
    exact ⟨_, rfl, own_rtL.2 ⟨vm, vd, gm, gd, rfl, h2⟩⟩
theorem dR_fz (r : RT) : D.fzL (dR r) = r.c := by simp [dR, D.fzL, D.fz, RT.c]
theorem dRT_fz (r : RT) : (D.a (dR r)).fz = .agg r.c := by rw [D.fz, dR_fz]
theorem dR_dep (r : RT) (n : Nat) : D.depL (n + 1) (dR r) := by simp [dR, D.depL, D.dep, fl_dep]
theorem dRT_dep (r : RT) (n : Nat) : (D.a (dR r)).dep (n + 2) := by rw [D.dep]; exact ⟨by omega, dR_dep r n⟩
theorem dR_sc (r : RT) : D.scL (dR r) = true := by simp [dR, D.scL, D.sc, V.ow, sc_iv]
theorem dRT_sc (r : RT) : (D.a (dR r)).sc = true := by rw [D.sc]; exact dR_sc r
theorem frz_rt {bl : Int → Option Blk} {r : RT} {v : V} {gs : List Int} (h : OwnD bl (.a (dR r)) v gs) (n : Nat) : frz bl (n + 2) v = some (.agg r.c) := by
  rw [h.frz (dRT_dep r n), dRT_fz]

/-! ### Copies -/
theorem toBigInt_nw (neg : Bool) (m : List Int) (hm : m.length ≤ 1048576) : NW Try.prog 73 [.agg [.bool neg, .sl (iv m)]] (.a (dB neg m)) := by
  refine nw_of Try.func73 rfl rfl (by rw [Try.ntmps73]; simp) fun bl => ?_
  rw [Try.ntmps73, Try.results73]
  refine AW_run ?_
  simp
  intro g1 hg1 hb1 g2 hg2 h21 hb2 g3 hg3 h32 h31 hb3
  try simp [h21, h31, h32, Ne.symm h21, Ne.symm h31, Ne.symm h32]
  refine callP_new (toIntS_nw m hm) fun v gs b o f fr => ?_
  obtain ⟨c1, c2⟩ := o.one
  have e1 : ∀ x, x ∈ gs → x ≠ g1 ∧ x ≠ g2 ∧ x ≠ g3 ∧ bl x = none := fun x hx => by have := f x hx; simp [upd_apply] at this; grind
  have n1 : b g1 = _ := fr g1 fun h => (e1 g1 h).1 rfl
  have n2 : b g2 = _ := fr g2 fun h => (e1 g2 h).2.1 rfl
  have n3 : b g3 = _ := fr g3 fun h => (e1 g3 h).2.2.1 rfl
  simp [h21, h31, h32, Ne.symm h21, Ne.symm h31, Ne.symm h32] at n1 n2 n3
  simp [h21, h31, h32, Ne.symm h21, Ne.symm h31, Ne.symm h32, n1, n2, n3, c1, c2]
  have hsub : Sub bl b := fun x y hy => by
    have z1 : x ≠ g1 := fun h => by rw [h, hb1] at hy; cases hy
    have z2 : x ≠ g2 := fun h => by rw [h, hb2] at hy; cases hy
    have z3 : x ≠ g3 := fun h => by rw [h, hb3] at hy; cases hy
    exact new_keep f fr (by simp [upd_apply, z1, z2, z3, hy])
  refine retNW [.agg [.bool neg, v]] gs ?_ ?_ (fun x hx => (e1 x hx).2.2.2) ?_
  · simp [h21, h31, h32, Ne.symm h21, Ne.symm h31, Ne.symm h32, n1, n2, n3]
  · exact own_bi.2 ⟨v, rfl, o.frame fun x hx => by simp [upd_apply, (e1 x hx).2.1, (e1 x hx).2.2.1]⟩
  · simp [hb1, hb2, hb3, hsub]

theorem own_append {bl : Int → Option Blk} : ∀ {ds es : List D} {vs : List V} {gs : List Int}, OwnL bl (ds ++ es) vs gs ↔ ∃ v1 v2 g1 g2, vs = v1 ++ v2 ∧ gs = g1 ++ g2 ∧ (∀ g, g ∈ g1 → g ∉ g2) ∧ OwnL bl ds v1 g1 ∧ OwnL bl es v2 g2
  | [], es, vs, gs => by
    constructor
    · intro h; exact ⟨[], vs, [], gs, rfl, rfl, fun x hx => (by cases hx), own_nil, h⟩
    · rintro ⟨v1, v2, g1, g2, rfl, rfl, _, h1, h2⟩
      rw [OwnL] at h1
      obtain ⟨rfl, rfl⟩ := h1
      exact h2
  | d :: ds, es, vs, gs => by
    rw [List.cons_append]
    constructor
    · intro h
      rw [OwnL] at h
      obtain ⟨v, vs', g1, g2, rfl, rfl, hd, h1, h2⟩ := h
      obtain ⟨v1, v2, g3, g4, rfl, rfl, hd2, h3, h4⟩ := own_append.1 h2
      refine ⟨v :: v1, v2, g1 ++ g3, g4, rfl, by simp, fun x hx h => ?_, own_cons h1 h3 (fun x hx h => hd x hx (List.mem_append_left _ h)), h4⟩
      rcases List.mem_append.1 hx with hx | hx
      · exact hd x hx (List.mem_append_right _ h)
      · exact hd2 x hx h
    · rintro ⟨v1, v2, g1, g2, rfl, rfl, hd, h1, h2⟩
      rw [OwnL] at h1
      obtain ⟨v, vs', g3, g4, rfl, rfl, hd2, h3, h4⟩ := h1
      have := own_cons h3 (own_append.2 ⟨vs', v2, g4, g2, rfl, rfl, fun x hx => hd x (List.mem_append_right _ hx), h4, h2⟩) (fun x hx h => by
        rcases List.mem_append.1 h with h | h
        · exact hd2 x hx h
        · exact hd x (List.mem_append_left _ hx) h)
      simpa using this

theorem toRat_nw (r : RT) (hr : r.le 1048576) : NW Try.prog 29 [.agg r.c] (.a (dR r)) := by
  refine nw_of Try.func29 rfl rfl (by rw [Try.ntmps29]; simp) fun bl => ?_
  rw [Try.ntmps29, Try.results29]
  refine AW_run ?_
  simp [RT.c]
  intro g1 hg1 hb1 g2 hg2 h21 hb2 g3 hg3 h32 h31 hb3
  try simp [h21, h31, h32, Ne.symm h21, Ne.symm h31, Ne.symm h32]
  refine callP_new (toBigInt_nw r.neg r.m hr.1) fun v gs b o f fr => ?_
  obtain ⟨vm, rfl, om⟩ := own_bi.1 o
  obtain ⟨c1, c2⟩ := om.one
  have e1 : ∀ x, x ∈ gs → x ≠ g1 ∧ x ≠ g2 ∧ x ≠ g3 ∧ bl x = none := fun x hx => by have := f x hx; simp [upd_apply] at this; grind
  have n1 : b g1 = _ := fr g1 fun h => (e1 g1 h).1 rfl
  have n2 : b g2 = _ := fr g2 fun h => (e1 g2 h).2.1 rfl
  have n3 : b g3 = _ := fr g3 fun h => (e1 g3 h).2.2.1 rfl
  simp [h21, h31, h32, Ne.symm h21, Ne.symm h31, Ne.symm h32] at n1 n2 n3
  simp [h21, h31, h32, Ne.symm h21, Ne.symm h31, Ne.symm h32, n1, n2, n3, c1, c2]
  refine callP_new (toIntS_nw r.d hr.2) fun w gw b2 ow f2 fr2 => ?_
  obtain ⟨d1, d2⟩ := ow.one
  have e2 : ∀ x, x ∈ gw → x ≠ g3 ∧ b x = none := fun x hx => by have := f2 x hx; simp [upd_apply] at this; exact this
  have e3 : ∀ x, x ∈ gw → x ∉ gs := fun x hx hx1 => by
    obtain ⟨y, hy⟩ := om.has x hx1
    rw [(e2 x hx).2] at hy; cases hy
  have e4 : ∀ x, x ∈ gw → x ≠ g2 := fun x hx h => by have := (e2 x hx).2; rw [h, n2] at this; cases this
  have m1 : b2 g1 = _ := fr2 g1 fun h => by have := (e2 g1 h).2; rw [n1] at this; cases this
  have m2 : b2 g2 = _ := fr2 g2 fun h => by have := (e2 g2 h).2; rw [n2] at this; cases this
  have m3 : b2 g3 = _ := fr2 g3 fun h => (e2 g3 h).1 rfl
  simp [h21, h31, h32, Ne.symm h21, Ne.symm h31, Ne.symm h32, n1, n2] at m1 m2 m3
  simp [h21, h31, h32, Ne.symm h21, Ne.symm h31, Ne.symm h32, m1, m2, m3, d1, d2, c1]
  have k1 : OwnD b2 (fl 1 (iv r.m)) vm gs := om.frame fun x hx => by
    rw [fr2 x (fun h => e3 x h hx)]
    simp [upd_apply, (e1 x hx).2.2.1]
  have hsub : Sub bl b2 := fun x y hy => by
    have z1 : x ≠ g1 := fun h => by rw [h, hb1] at hy; cases hy
    have z2 : x ≠ g2 := fun h => by rw [h, hb2] at hy; cases hy
    have z3 : x ≠ g3 := fun h => by rw [h, hb3] at hy; cases hy
    have hb : b x = some y := new_keep f fr (by simp [upd_apply, z1, z2, z3, hy])
    exact new_keep f2 fr2 (by simp [upd_apply, z3, hb])
  refine retNW [.agg [.bool r.neg, vm, w]] (gs ++ gw) ?_ ?_ ?_ ?_
  · simp [h21, h31, h32, Ne.symm h21, Ne.symm h31, Ne.symm h32, m1, m2, m3]
  · refine own_rt.2 ⟨vm, w, gs, gw, rfl, rfl, fun x h1 h2 => e3 x h2 h1, ?_, ?_⟩
    · exact k1.frame fun x hx => by simp [upd_apply, (e1 x hx).2.1, (e1 x hx).2.2.1]
    · exact ow.frame fun x hx => by simp [upd_apply, (e2 x hx).1, e4 x hx]
  · intro x hx
    rcases List.mem_append.1 hx with hx | hx
    · exact (e1 x hx).2.2.2
    · refine fresh_of (bl' := b) (fun z y hy => ?_) (e2 x hx).2
      have z1 : z ≠ g1 := fun h => by rw [h, hb1] at hy; cases hy
      have z2 : z ≠ g2 := fun h => by rw [h, hb2] at hy; cases hy
      have z3 : z ≠ g3 := fun h => by rw [h, hb3] at hy; cases hy
      exact new_keep f fr (by simp [upd_apply, z1, z2, z3, hy])
  · simp [hb1, hb2, hb3, hsub]

/-! ### Marks -/
theorem kp_of {bl : Int → Option Blk} {g : Int} (hg : bl g = none) (b : Option Blk) : ∀ x y, bl x = some y → upd bl g b x = some y := fun x y hx => by rw [upd_apply, if_neg (fun e => by rw [e, hg] at hx; cases hx)]; exact hx
theorem markBigInt_cp {bl : Int → Option Blk} {K : V → (Int → Option Blk) → Prop} (neg : Bool) (m : List Int) (k : Nat) (vm : V) (gs : List Int) (h : OwnD bl (fl 1 (iv m)) vm gs) (hk : k + m.length ≤ 4611686018427387000)
    (hK : ∀ bl', OwnD bl' (fl 1 (iv (marks k m.length))) vm gs → (∀ g, g ∉ gs → ∀ b, bl g = some b → bl' g = some b) → K (.int .i64 (k + m.length : Nat)) bl') : CallP Try.prog 82 [.agg [.bool neg, vm], .int .i64 k] bl K := by
  obtain ⟨a1, a2⟩ := h.one
  refine callP_of Try.func82 rfl rfl (by rw [Try.ntmps82]; simp) ?_
  rw [Try.ntmps82, Try.results82]
  refine AW_run ?_
  simp [a1]
  intro g hg0 hg
  have na : g ∉ gs := h.not hg
  refine markIntS_cp m k vm gs (h.keep fun x _ y hy => kp_of hg _ x y hy) (by omega) fun b1 o1 q1 => ?_
  simp
  rw [retK_ret]
  refine ⟨[_], by simp; rfl, ?_⟩
  have := hK b1 o1 (fun x hx y hy => by rw [q1 x hx]; exact kp_of hg _ x y hy)
  simpa using this
def mkR (k : Nat) (r : RT) : RT := ⟨r.neg, marks k r.m.length, marks (k + r.m.length : Nat) r.d.length⟩
def mkRN (k : Nat) (r : RT) : Nat := k + r.m.length + r.d.length
theorem markRat_cp {bl : Int → Option Blk} {K : V → (Int → Option Blk) → Prop} (r : RT) (k : Nat) (vs : List V) (gs : List Int) (h : OwnL bl (dR r) vs gs) (hk : mkRN k r ≤ 4611686018427387000)
    (hK : ∀ bl', OwnL bl' (dR (mkR k r)) vs gs → (∀ g, g ∉ gs → ∀ b, bl g = some b → bl' g = some b) → K (.int .i64 (mkRN k r : Nat)) bl') : CallP Try.prog 35 [.agg vs, .int .i64 k] bl K := by
  obtain ⟨vm, vd, ga, gb, rfl, rfl, hd, h1, h2⟩ := own_rtL.1 h
  obtain ⟨a1, a2⟩ := h1.one
  obtain ⟨b1, b2⟩ := h2.one
  unfold mkRN at hk
  refine callP_of Try.func35 rfl rfl (by rw [Try.ntmps35]; simp) ?_
  rw [Try.ntmps35, Try.results35]
  refine AW_run ?_
  simp [a1, b1]
  intro g hg0 hg
  have na : g ∉ ga := h1.not hg
  have nb : g ∉ gb := h2.not hg
  refine markBigInt_cp r.neg r.m k vm ga (h1.keep fun x _ y hy => kp_of hg _ x y hy) (by omega) fun B1 o1 q1 => ?_
  have eg1 : B1 g = some ⟨3, [[.bool r.neg, vm, vd]]⟩ := q1 g na _ (by simp)
  simp [eg1]
  have t1 : (k : Int) + r.m.length = (k + r.m.length : Nat) := by simp
  rw [t1]
  refine markIntS_cp r.d (k + r.m.length : Nat) vd gb (h2.keep fun x hx y hy => q1 x (fun hh => hd x hh hx) y (kp_of hg _ x y hy)) (by omega) fun B2 o2 q2 => ?_
  simp
  rw [retK_ret]
  refine ⟨[_], by simp; rfl, ?_⟩
  have := hK B2 (own_rtL.2 ⟨vm, vd, ga, gb, rfl, rfl, hd, o1.frame fun x hx => q2 x (hd x hx), o2⟩) (fun x hx y hy => by
    simp at hx
    rw [q2 x hx.2]
    exact q1 x hx.1 y (kp_of hg _ x y hy))
  simpa [mkRN] using this
theorem heldBigInt_ro (neg : Bool) (n : Nat) (k : Nat) (hk : k + n ≤ 4611686018427387000) : RO Try.prog 84 [.agg [.bool neg, .sl (iv (marks k n))], .int .i64 k] (.int .i64 (k + n : Nat)) := by
  refine ro_of2 Try.func84 rfl rfl (by rw [Try.ntmps84]; simp) fun bl => ?_
  rw [Try.ntmps84, Try.results84]
  refine AW_run ?_
  simp
  intro g hg0 hg
  refine callP_ro (heldIntS_ro n k (by omega)) ?_
  simp
  refine ⟨fun h => by omega, fun h => ?_⟩
  exact retRO [_] 0 (by simp; rfl) (by simp [frz, V.cl]) (by simp [hg])
theorem heldRat_ro (r : RT) (k : Nat) (hk : mkRN k r ≤ 4611686018427387000) : RO Try.prog 36 [.agg (mkR k r).c, .int .i64 k] (.int .i64 (mkRN k r : Nat)) := by
  unfold mkRN at hk
  refine ro_of2 Try.func36 rfl rfl (by rw [Try.ntmps36]; simp) fun bl => ?_
  rw [Try.ntmps36, Try.results36]
  refine AW_run ?_
  simp [RT.c, mkR]
  intro g hg0 hg
  refine callP_ro (heldBigInt_ro r.neg r.m.length k (by omega)) ?_
  simp
  refine ⟨fun h => by omega, fun h => ?_⟩
  have t1 : (k : Int) + r.m.length = (k + r.m.length : Nat) := by simp
  rw [t1]
  refine callP_ro (heldIntS_ro r.d.length (k + r.m.length : Nat) (by omega)) ?_
  simp
  refine ⟨fun h => by omega, fun h => ?_⟩
  exact retRO [_] 0 (by simp; rfl) (by simp [frz, V.cl, mkRN]) (by simp [hg])

/-! ### Spans -/
def dS (s : SP) : List D := dR s.lo ++ (dR s.hi ++ [.c (.bool s.nl), .c (.bool s.nh)])
theorem own_spL {bl : Int → Option Blk} {s : SP} {vs : List V} {gs : List Int} : OwnL bl (dS s) vs gs ↔ ∃ v1 v2 g1 g2, vs = v1 ++ v2 ++ [.bool s.nl, .bool s.nh] ∧ gs = g1 ++ g2 ∧ (∀ g, g ∈ g1 → g ∉ g2) ∧ OwnL bl (dR s.lo) v1 g1 ∧ OwnL bl (dR s.hi) v2 g2 := by
  unfold dS
  constructor
  · intro h
    obtain ⟨v1, v, g1, g, rfl, rfl, hd, h1, h⟩ := own_append.1 h
    obtain ⟨v2, w, g2, g', rfl, rfl, hd2, h2, h⟩ := own_append.1 h
    have := (ownL_c (r := [.bool s.nl, .bool s.nh]) rfl).1 h
    obtain ⟨rfl, rfl⟩ := this
    refine ⟨v1, v2, g1, g2, by simp, by simp, fun x hx h => hd x hx (by simp [h]), h1, h2⟩
  · rintro ⟨v1, v2, g1, g2, rfl, rfl, hd, h1, h2⟩
    refine own_append.2 ⟨v1, v2 ++ [.bool s.nl, .bool s.nh], g1, g2, by simp, rfl, hd, h1, ?_⟩
    refine own_append.2 ⟨v2, _, g2, [], rfl, by simp, fun x hx h => (by cases h), h2, ?_⟩
    exact (ownL_c (r := [.bool s.nl, .bool s.nh]) rfl).2 ⟨rfl, rfl⟩
theorem dS_fz (s : SP) : D.fzL (dS s) = s.c := by simp [dS, dR, D.fzL, D.fz, SP.c]
theorem dSP_dep (s : SP) (n : Nat) : (D.a (dS s)).dep (n + 2) := by rw [D.dep]; exact ⟨by omega, by simp [dS, dR, D.depL, D.dep, fl_dep]⟩
theorem frz_sp {bl : Int → Option Blk} {s : SP} {vs : List V} {gs : List Int} (h : OwnL bl (dS s) vs gs) (n : Nat) : frz bl (n + 2) (.agg vs) = some (.agg s.c) := by
  have h1 : OwnD bl (.a (dS s)) (.agg vs) gs := by rw [OwnD]; exact ⟨vs, rfl, h⟩
  rw [h1.frz (dSP_dep s n), D.fz, dS_fz]

theorem toSpan_nw (s : SP) (hs : s.le 1048576) : NW Try.prog 22 [.agg s.c] (.a (dS s)) := by
  refine nw_of Try.func22 rfl rfl (by rw [Try.ntmps22]; simp) fun bl => ?_
  rw [Try.ntmps22, Try.results22]
  refine AW_run ?_
  simp [SP.c]
  intro g1 hg1 hb1 g2 hg2 h21 hb2 g3 hg3 h32 h31 hb3
  try simp [h21, h31, h32, Ne.symm h21, Ne.symm h31, Ne.symm h32]
  refine callP_new (toRat_nw s.lo hs.1) fun v gs b o f fr => ?_
  obtain ⟨vm, vd, ga, gb, rfl, rfl, hd, om, od⟩ := own_rt.1 o
  obtain ⟨c1, c2⟩ := om.one
  obtain ⟨c3, c4⟩ := od.one
  have e1 : ∀ x, x ∈ ga ++ gb → x ≠ g1 ∧ x ≠ g2 ∧ x ≠ g3 ∧ bl x = none := fun x hx => by have := f x hx; simp [upd_apply] at this; grind
  have n1 : b g1 = _ := fr g1 fun h => (e1 g1 h).1 rfl
  have n2 : b g2 = _ := fr g2 fun h => (e1 g2 h).2.1 rfl
  have n3 : b g3 = _ := fr g3 fun h => (e1 g3 h).2.2.1 rfl
  simp [h21, h31, h32, Ne.symm h21, Ne.symm h31, Ne.symm h32] at n1 n2 n3
  simp [h21, h31, h32, Ne.symm h21, Ne.symm h31, Ne.symm h32, n1, n2, n3, c1, c2, c3, c4]
  refine callP_new (toRat_nw s.hi hs.2) fun w gw b2 ow f2 fr2 => ?_
  obtain ⟨wm, wd, gc, gd, rfl, rfl, hd2, om2, od2⟩ := own_rt.1 ow
  obtain ⟨d1, d2⟩ := om2.one
  obtain ⟨d3, d4⟩ := od2.one
  have e2 : ∀ x, x ∈ gc ++ gd → x ≠ g3 ∧ b x = none := fun x hx => by have := f2 x hx; simp [upd_apply] at this; simpa using this
  have e3 : ∀ x, x ∈ gc ++ gd → x ∉ ga ++ gb := fun x hx hx1 => by
    obtain ⟨y, hy⟩ := o.has x hx1
    rw [(e2 x hx).2] at hy; cases hy
  have e4 : ∀ x, x ∈ gc ++ gd → x ≠ g2 := fun x hx h => by have := (e2 x hx).2; rw [h, n2] at this; cases this
  have m1 : b2 g1 = _ := fr2 g1 fun h => by have := (e2 g1 h).2; rw [n1] at this; cases this
  have m2 : b2 g2 = _ := fr2 g2 fun h => by have := (e2 g2 h).2; rw [n2] at this; cases this
  have m3 : b2 g3 = _ := fr2 g3 fun h => (e2 g3 h).1 rfl
  simp [h21, h31, h32, Ne.symm h21, Ne.symm h31, Ne.symm h32, n1, n2] at m1 m2 m3
  simp [h21, h31, h32, Ne.symm h21, Ne.symm h31, Ne.symm h32, m1, m2, m3, d1, d2, d3, d4, c1, c3]
  have hsb : Sub bl b := fun x y hy => by
    have z1 : x ≠ g1 := fun h => by rw [h, hb1] at hy; cases hy
    have z2 : x ≠ g2 := fun h => by rw [h, hb2] at hy; cases hy
    have z3 : x ≠ g3 := fun h => by rw [h, hb3] at hy; cases hy
    exact new_keep f fr (by simp [upd_apply, z1, z2, z3, hy])
  have hsub : Sub bl b2 := fun x y hy => by
    have z3 : x ≠ g3 := fun h => by rw [h, hb3] at hy; cases hy
    exact new_keep f2 fr2 (by simp [upd_apply, z3, hsb x y hy])
  have k1 : OwnL b2 (dR s.lo) [.bool s.lo.neg, vm, vd] (ga ++ gb) := (own_rtL.2 ⟨vm, vd, ga, gb, rfl, rfl, hd, om, od⟩).frame fun x hx => by
    rw [fr2 x (fun h => e3 x h hx)]
    simp [upd_apply, (e1 x hx).2.2.1]
  have k2 : OwnL b2 (dR s.hi) [.bool s.hi.neg, wm, wd] (gc ++ gd) := own_rtL.2 ⟨wm, wd, gc, gd, rfl, rfl, hd2, om2, od2⟩
  refine retNW [.agg [.bool s.lo.neg, vm, vd, .bool s.hi.neg, wm, wd, .bool s.nl, .bool s.nh]] ((ga ++ gb) ++ (gc ++ gd)) ?_ ?_ ?_ ?_
  · simp [h21, h31, h32, Ne.symm h21, Ne.symm h31, Ne.symm h32, m1, m2, m3]
  · show OwnD _ (.a (dS s)) _ _
    rw [OwnD]
    refine ⟨_, rfl, own_spL.2 ⟨[.bool s.lo.neg, vm, vd], [.bool s.hi.neg, wm, wd], ga ++ gb, gc ++ gd, rfl, rfl, fun x h1 h2 => e3 x h2 h1, ?_, ?_⟩⟩
    · exact k1.frame fun x hx => by simp [upd_apply, (e1 x hx).2.1, (e1 x hx).2.2.1]
    · exact k2.frame fun x hx => by simp [upd_apply, (e2 x hx).1, e4 x hx]
  · intro x hx
    rcases List.mem_append.1 hx with hx | hx
    · exact (e1 x hx).2.2.2
    · exact fresh_of hsb (e2 x hx).2
  · simp [hb1, hb2, hb3, hsub]
def mkSN (k : Nat) (s : SP) : Nat := mkRN (mkRN k s.lo) s.hi
theorem markSpan_cp {bl : Int → Option Blk} {K : V → (Int → Option Blk) → Prop} (s : SP) (k : Nat) (vs : List V) (gs : List Int) (h : OwnL bl (dS s) vs gs) (hk : mkSN k s ≤ 4611686018427387000)
    (hK : ∀ bl', (∀ g, g ∉ gs → ∀ b, bl g = some b → bl' g = some b) → K (.int .i64 (mkSN k s : Nat)) bl') : CallP Try.prog 34 [.agg vs, .int .i64 k] bl K := by
  obtain ⟨v1, v2, g1, g2, rfl, rfl, hd, h1, h2⟩ := own_spL.1 h
  obtain ⟨vm, vd, ga, gb, rfl, rfl, _, om, od⟩ := own_rtL.1 h1
  obtain ⟨wm, wd, gc, gd, rfl, rfl, _, om2, od2⟩ := own_rtL.1 h2
  obtain ⟨a1, a2⟩ := om.one
  obtain ⟨b1, b2⟩ := od.one
  obtain ⟨c1, c2⟩ := om2.one
  obtain ⟨d1, d2⟩ := od2.one
  have hle : mkRN k s.lo ≤ mkSN k s := by unfold mkSN mkRN; omega
  refine callP_of Try.func34 rfl rfl (by rw [Try.ntmps34]; simp) ?_
  rw [Try.ntmps34, Try.results34]
  refine AW_run ?_
  simp [a1, b1, c1, d1]
  intro g hg0 hg
  have na : g ∉ ga ++ gb := h1.not hg
  refine markRat_cp s.lo k [.bool s.lo.neg, vm, vd] (ga ++ gb) (h1.keep fun x _ y hy => kp_of hg _ x y hy) (by omega) fun B1 o1 q1 => ?_
  have eg1 : B1 g = some ⟨8, [[.bool s.lo.neg, vm, vd, .bool s.hi.neg, wm, wd, .bool s.nl, .bool s.nh]]⟩ := q1 g na _ (by simp)
  simp [eg1]
  refine markRat_cp s.hi (mkRN k s.lo) [.bool s.hi.neg, wm, wd] (gc ++ gd) (h2.keep fun x hx y hy => q1 x (fun hh => hd x hh hx) y (kp_of hg _ x y hy)) hk fun B2 o2 q2 => ?_
  simp
  rw [retK_ret]
  refine ⟨[_], by simp; rfl, ?_⟩
  exact hK B2 (fun x hx y hy => q2 x (fun h => hx (List.mem_append_right _ h)) y (q1 x (fun h => hx (List.mem_append_left _ h)) y (kp_of hg _ x y hy)))

end Go.Proofs.Ythhjmaianlmfpaa.Vm

namespace Go.Proofs.Ythhjmaianlmfpaa.Vm
open Go Go.Proofs
set_option linter.unusedSimpArgs false
set_option linter.unusedVariables false

theorem celT_Rat : Try.prog.cellsOf 44 = 3 := by kernel_rfl
theorem celT_BigInt : Try.prog.cellsOf 42 = 2 := by kernel_rfl
theorem celT_Span : Try.prog.cellsOf 46 = 8 := by kernel_rfl
theorem celT_ints : Try.prog.cellsOf 27 = 1 := by kernel_rfl
theorem len8 {cs : List V} (h : cs.length = 8) : ∃ a b c d e f g i, cs = [a, b, c, d, e, f, g, i] := by
  match cs, h with
  | [a, b, c, d, e, f, g, i], _ => exact ⟨a, b, c, d, e, f, g, i, rfl⟩
theorem bi_of_co {cs : List V} (h : CO Try.prog 42 cs) : ∃ (b : Bool) (m : List Int), cs = [.bool b, .sl (iv m)] ∧ m.length ≤ 17592186043904 := by
  obtain ⟨hl, hf⟩ := co_struct Try.underlying42 h
  rw [celT_BigInt] at hl
  obtain ⟨a, b, rfl⟩ := len2 hl
  simp [celT_bool, celT_ints] at hf
  obtain ⟨h0, h1⟩ := hf
  obtain ⟨x, h0⟩ := co_bool Try.underlying4 h0
  obtain ⟨m, h1, hm, _⟩ := iv_of_co h1
  cases h0; cases h1
  exact ⟨x, m, rfl, hm⟩
theorem rat_of_co {cs : List V} (h : CO Try.prog 44 cs) : ∃ r : RT, cs = r.c ∧ r.le 17592186043904 := by
  obtain ⟨hl, hf⟩ := co_struct Try.underlying44 h
  rw [celT_Rat] at hl
  obtain ⟨a, b, c, rfl⟩ := len3 hl
  simp [celT_BigInt, celT_ints] at hf
  obtain ⟨h0, h1⟩ := hf
  obtain ⟨x, m, h0, hm⟩ := bi_of_co h0
  obtain ⟨d, h1, hd, _⟩ := iv_of_co h1
  cases h0; cases h1
  exact ⟨⟨x, m, d⟩, rfl, hm, hd⟩
theorem sp_of_co {cs : List V} (h : CO Try.prog 46 cs) : ∃ s : SP, cs = s.c ∧ s.le 17592186043904 := by
  obtain ⟨hl, hf⟩ := co_struct Try.underlying46 h
  rw [celT_Span] at hl
  obtain ⟨a, b, c, d, e, f, g, i, rfl⟩ := len8 hl
  simp [celT_Rat, celT_bool] at hf
  obtain ⟨h0, h1, h2, h3⟩ := hf
  obtain ⟨r, h0, hr⟩ := rat_of_co h0
  obtain ⟨r2, h1, hr2⟩ := rat_of_co h1
  obtain ⟨x, h2⟩ := co_bool Try.underlying4 h2
  obtain ⟨y, h3⟩ := co_bool Try.underlying4 h3
  cases h0; cases h1; cases h2; cases h3
  exact ⟨⟨r, r2, x, y⟩, rfl, hr, hr2⟩
theorem SP.le_mono {s : SP} {k l : Nat} (h : s.le k) (hkl : k ≤ l) : s.le l := ⟨⟨by have := h.1.1; omega, by have := h.1.2; omega⟩, by have := h.2.1; omega, by have := h.2.2; omega⟩
theorem RT.le_mono {s : RT} {k l : Nat} (h : s.le k) (hkl : k ≤ l) : s.le l := ⟨by have := h.1; omega, by have := h.2; omega⟩

theorem spOk_some {s : SP} (h : spOk s = true) : spBad s = false ∧ ∃ a b, rd s.lo = some a ∧ rd s.hi = some b := by
  unfold spOk at h
  rw [Bool.and_eq_true, Bool.not_eq_true'] at h
  refine ⟨h.1, ?_⟩
  have := h.1
  unfold spBad at this
  rcases e1 : rd s.lo with _ | a
  · rw [e1] at this; cases this
  rcases e2 : rd s.hi with _ | b
  · rw [e1, e2] at this; cases this
  exact ⟨a, b, rfl, rfl⟩

theorem law_SpanOk_ro (s : SP) (hs : s.le 17592186043904) : RO Try.prog 4 [.agg s.c] (.bool true) := by
  refine ro_of2 Try.func4 rfl rfl (by rw [Try.ntmps4]; simp) fun bl => ?_
  rw [Try.ntmps4, Try.results4]
  refine AW_run ?_
  simp [SP.c]
  intro g hg0 hg
  refine callP_ro (szSpan_ro s _ (by omega) (SP.le_mono hs (by omega))) ?_
  simp
  refine ⟨fun h => ?_, fun h => ?_⟩
  · exact retRO [.bool true] 0 (by simp) rfl (by simp [hg])
  have hk := szSp_n (s := s) (left := 1048576) (by omega) (by omega)
  refine callP_ro (toSpan_ro s hk) ?_
  simp
  refine callP_ro (spec_SpanOk_ro s hk) ?_
  simp
  refine callP_ro (toSpan_ro s hk) ?_
  simp [SP.c]
  intro g2 hg2 h2g hb2
  try simp [h2g, Ne.symm h2g]
  refine callP_ro (impl_SpanOk_ro s hk) ?_
  simp
  refine AW_quiet mixedO (by kernel_rfl) ?_
  simp [h2g, Ne.symm h2g]
  refine hcQ_ro (toSpan_ro s hk) ?_
  simp
  refine hcQ_ro (eqSpan_ro s (SP.le_mono hs (by omega))) ?_
  simp
  exact retRO [.bool true] 0 (by simp) rfl (by simp [hg, hb2])

theorem law_IsOpen_ro (s : SP) (hs : s.le 17592186043904) : RO Try.prog 5 [.agg s.c] (.bool true) := by
  refine ro_of2 Try.func5 rfl rfl (by rw [Try.ntmps5]; simp) fun bl => ?_
  rw [Try.ntmps5, Try.results5]
  refine AW_run ?_
  simp [SP.c]
  intro g hg0 hg
  refine callP_ro (szSpan_ro s _ (by omega) (SP.le_mono hs (by omega))) ?_
  simp
  refine ⟨fun h => ?_, fun h => ?_⟩
  · exact retRO [.bool true] 0 (by simp) rfl (by simp [hg])
  have hk := szSp_n (s := s) (left := 1048576) (by omega) (by omega)
  refine callP_ro (toSpan_ro s hk) ?_
  simp
  refine callP_ro (spec_IsOpen_ro s hk) ?_
  simp
  refine callP_ro (toSpan_ro s hk) ?_
  simp [SP.c]
  intro g2 hg2 h2g hb2
  try simp [h2g, Ne.symm h2g]
  refine callP_ro (impl_IsOpen_ro s hk) ?_
  simp
  refine AW_quiet mixedO (by kernel_rfl) ?_
  simp [h2g, Ne.symm h2g]
  refine hcQ_ro (toSpan_ro s hk) ?_
  simp
  refine hcQ_ro (eqSpan_ro s (SP.le_mono hs (by omega))) ?_
  simp
  exact retRO [.bool true] 0 (by simp) rfl (by simp [hg, hb2])

end Go.Proofs.Ythhjmaianlmfpaa.Vm

namespace Go.Proofs.Ythhjmaianlmfpaa.Vm
open Go Go.Proofs
set_option linter.unusedSimpArgs false
set_option linter.unusedVariables false

def rv (rs : List RT) : List (List V) := rs.map RT.c
@[simp] theorem rv_length (rs : List RT) : (rv rs).length = rs.length := by simp [rv]
@[simp] theorem rv_getE (rs : List RT) (i : Nat) (h : i < (rv rs).length) : (rv rs)[i] = (rs[i]'(by simpa using h)).c := by simp [rv]
theorem RT.c_len (r : RT) : r.c.length = 3 := rfl
theorem RT.c_one (r : RT) : r.c.all V.one = true := by simp [RT.c]
def dRs (rs : List RT) : D := .s 3 (rs.map dR)
theorem dRs_fz (rs : List RT) : (dRs rs).fz = .sl (rv rs) := by
  unfold dRs rv
  rw [D.fz, fzR_map, List.map_map]
  congr 1
  refine List.map_congr_left fun r _ => ?_
  show List.map D.fz (dR r) = r.c
  rw [← fzL_map, dR_fz]
theorem dRs_dep (rs : List RT) (n : Nat) : (dRs rs).dep (n + 2) := by
  unfold dRs
  rw [D.dep]
  refine ⟨by omega, ?_⟩
  induction rs with
  | nil => simp [D.depR]
  | cons r rs ih => simp only [List.map_cons, D.depR]; exact ⟨dR_dep r _, ih⟩
theorem dRs_sc (rs : List RT) : (dRs rs).sc = true := by
  unfold dRs
  rw [D.sc]
  induction rs with
  | nil => simp [D.scR]
  | cons r rs ih => simp only [List.map_cons, D.scR, dR_sc, ih]; rfl
theorem frz_rs {bl : Int → Option Blk} {rs : List RT} {v : V} {gs : List Int} (h : OwnD bl (dRs rs) v gs) (n : Nat) : frz bl (n + 2) v = some (.sl (rv rs)) := by
  rw [h.frz (dRs_dep rs n), dRs_fz]
theorem own_rs {bl : Int → Option Blk} {rs : List RT} {v : V} {gs : List Int} : OwnD bl (dRs rs) v gs ↔ (rs = [] ∧ v = .nils ∧ gs = []) ∨ ∃ g els gs', v = .lsl g 3 0 rs.length ∧ gs = g :: gs' ∧ g ∉ gs' ∧ bl g = some ⟨3, els⟩ ∧ (g < 0 → els = []) ∧ OwnR bl 3 (rs.map dR) els gs' := by
  unfold dRs
  rw [OwnD]
  constructor
  · rintro (⟨h1, h2, h3⟩ | ⟨g, els, gs', h1, h2, h3, h4, h5, h6⟩)
    · exact .inl ⟨by simpa using h1, h2, h3⟩
    · exact .inr ⟨g, els, gs', by simpa using h1, h2, h3, h4, h5, h6⟩
  · rintro (⟨h1, h2, h3⟩ | ⟨g, els, gs', h1, h2, h3, h4, h5, h6⟩)
    · exact .inl ⟨by simpa using h1, h2, h3⟩
    · exact .inr ⟨g, els, gs', by simpa using h1, h2, h3, h4, h5, h6⟩
theorem own_rs1 {bl : Int → Option Blk} {rs : List RT} {v : V} {gs : List Int} (h : OwnD bl (dRs rs) v gs) : v.one = true ∧ v.cells = [v] := by
  rcases own_rs.1 h with ⟨_, rfl, _⟩ | ⟨g, els, gs', rfl, _⟩ <;> exact ⟨rfl, rfl⟩

/-! ### Sizes -/
def szTo : List RT → Int → Int
  | [], left => left
  | r :: rs, left => if szR r left < 0 then -1 else szTo rs (szR r left)
def szQs (rs : List RT) (left : Int) : Int := if less left rs.length < 0 then -1 else szTo rs (less left rs.length)
/-- The sizes of a list's fractions fit. -/
def fitQ (rs : List RT) (k : Nat) : Prop := rs.length ≤ k ∧ ∀ r, r ∈ rs → r.le k
theorem fitQ_mono {rs : List RT} {k l : Nat} (h : fitQ rs k) (hkl : k ≤ l) : fitQ rs l := ⟨by have := h.1; omega, fun r hr => RT.le_mono (h.2 r hr) hkl⟩
theorem szRatS_ro (a : List RT) (left : Int) (hl : -1 ≤ left ∧ left ≤ 1048576) (ha : fitQ a 140737488351232) : RO Try.prog 38 [.sl (rv a), .int .i64 left] (.int .i64 (szQs a left)) := by
  have ha1 := ha.1
  refine ro_of2 Try.func38 rfl rfl (by rw [Try.ntmps38]; simp) fun bl => ?_
  rw [Try.ntmps38, Try.results38]
  refine AW_run ?_
  simp
  simp (disch := omega) [i64_in]
  refine ⟨fun h => ?_, fun h => ?_⟩
  · exact retRO [_] 0 rfl (by simp [frz, szQs, less]; omega) (Sub.refl _)
  refine AW_for (fun p : Nat × Int => [(0, .sl (rv a)), (1, .int .i64 p.2), (5, .int .i64 p.1)]) (fun _ => bl) (fun p => p.1 ≤ a.length ∧ 0 ≤ p.2 ∧ p.2 ≤ 1048576 ∧ szQs a left = szTo (a.drop p.1) p.2) (fun p => a.length - p.1) _ (0, left - a.length) ⟨Nat.zero_le _, by simp; omega, by simp; omega, ?_⟩ ⟨rfl, by simp, Sub.refl _⟩ ?_
  · have h0 : ¬ (left - (a.length : Int) < 0) := by omega
    simp only [szQs, less, if_neg h0, List.drop_zero]
  intro ⟨i, l⟩ ⟨hi, hl0, hl1, hs⟩
  simp at hi hl0 hl1 hs
  refine AW_run ?_
  simp
  refine ⟨fun h1 => ?_, fun h1 => ?_⟩
  · simp [h1, RT.c]
    refine callP_ro (szRat_ro a[i] l (by omega) (ha.2 _ (List.getElem_mem _))) ?_
    simp
    rw [List.drop_eq_getElem_cons h1, szTo] at hs
    have := szR_le (r := a[i]) (left := l) (by omega)
    refine ⟨fun h2 => ?_, fun h2 => ?_⟩
    · exact retRO [_] 0 rfl (by simp [frz, hs, h2]) (Sub.refl _)
    · simp (disch := omega) [i64_in, loopQ_normal]
      rw [if_neg (by omega)] at hs
      exact ⟨i + 1, szR a[i] l, ⟨by omega, by omega, by omega, hs⟩, by omega, rfl, by simp, Sub.refl _⟩
  · rw [List.drop_eq_nil_of_le h1, szTo] at hs
    exact retRO [_] 0 rfl (by simp [frz, hs]) (Sub.refl _)
theorem szTo_le : ∀ (rs : List RT) (left : Int), -1 ≤ left ∧ left ≤ 1048576 → -1 ≤ szTo rs left ∧ szTo rs left ≤ 1048576
  | [], left, h => h
  | r :: rs, left, h => by
    unfold szTo; split
    · omega
    · exact szTo_le rs _ (szR_le h)
theorem szQs_le {rs : List RT} {left : Int} (h : -1 ≤ left ∧ left ≤ 1048576) : -1 ≤ szQs rs left ∧ szQs rs left ≤ 1048576 := by
  unfold szQs; split
  · omega
  · exact szTo_le rs _ (less_le h)
theorem szR_ge {r : RT} {left : Int} (h : 0 ≤ szR r left) : szR r left + (r.m.length + r.d.length : Nat) = left := by
  unfold szR at h ⊢
  split at h
  · omega
  · rename_i h0
    rw [if_neg h0]
    have h1 : less left r.m.length = left - r.m.length := by unfold less at *; split <;> split at * <;> omega
    have h2 : less (less left r.m.length) r.d.length = less left r.m.length - r.d.length := by
      generalize less left r.m.length = l at *
      unfold less at *; split <;> split at * <;> omega
    omega
theorem szTo_n : ∀ {rs : List RT} {left : Int}, -1 ≤ left ∧ left ≤ 1048576 → 0 ≤ szTo rs left → (∀ r, r ∈ rs → r.le 1048576) ∧ szTo rs left + ((rs.map fun r => r.m.length + r.d.length).sum : Nat) = left
  | [], left, h, h0 => ⟨fun r hr => (by cases hr), by simp [szTo]⟩
  | r :: rs, left, h, h0 => by
    unfold szTo at h0 ⊢
    split at h0
    · omega
    · rename_i hn
      rw [if_neg hn]
      have h1 := szR_ge (r := r) (left := left) (by omega)
      obtain ⟨h2, h3⟩ := szTo_n (rs := rs) (szR_le h) h0
      refine ⟨fun x hx => ?_, ?_⟩
      · rcases List.mem_cons.1 hx with rfl | hx
        · exact szR_n h (by omega)
        · exact h2 x hx
      · rw [List.map_cons, List.sum_cons]; omega
def sumQ (rs : List RT) : Nat := (rs.map fun r => r.m.length + r.d.length).sum
theorem szQs_n {rs : List RT} {left : Int} (h : -1 ≤ left ∧ left ≤ 1048576) (h0 : 0 ≤ szQs rs left) : fitQ rs 1048576 ∧ sumQ rs + rs.length ≤ 1048576 := by
  unfold szQs at h0
  split at h0
  · omega
  · rename_i hn
    have h1 := less_n (left := left) (n := rs.length) (by omega)
    have h2 : less left rs.length = left - rs.length := by unfold less at *; split <;> split at * <;> omega
    obtain ⟨h3, h4⟩ := szTo_n (less_le h) h0
    exact ⟨⟨by omega, h3⟩, by unfold sumQ; omega⟩

/-! ### Copies -/
theorem toRatS_nw (rs : List RT) (hq : fitQ rs 1048576) : NW Try.prog 41 [.sl (rv rs)] (dRs rs) := by
  have hw := hq.1
  refine nw_of Try.func41 rfl rfl (by rw [Try.ntmps41]; simp) fun bl => ?_
  rw [Try.ntmps41, Try.results41]
  refine AW_run ?_
  simp
  refine ⟨by omega, by unfold maxLen; omega, fun g hg0 hg => ?_⟩
  refine AW_for (fun p : Grow => [(0, .sl (rv rs)), (3, .lsl g 3 0 rs.length), (4, .int .i64 p.els.length)]) (fun p => p.b)
    (fun p => p.els.length ≤ rs.length ∧ p.b g = some ⟨3, p.els ++ List.replicate (rs.length - p.els.length) [.bool false, .nils, .nils]⟩ ∧ OwnR p.b 3 ((rs.map dR).take p.els.length) p.els p.gs ∧ g ∉ p.gs ∧ (∀ x, x ∈ p.gs → bl x = none) ∧ Sub bl p.b)
    (fun p => rs.length - p.els.length) 23 ⟨[], [], upd bl g (some ⟨3, List.replicate rs.length [.bool false, .nils, .nils]⟩)⟩ ⟨Nat.zero_le _, by simp, by simp [OwnR], by simp, by simp, by simp [hg]⟩ ⟨rfl, by simp, by simp⟩ ?_
  rintro ⟨els, gs, b⟩ ⟨hi, hb, ho, hn, hf, hs⟩
  simp only at hi hb ho hn hf hs
  refine AW_run ?_
  simp
  refine ⟨fun h => ?_, fun h => ?_⟩
  · simp [h, RT.c]
    refine callP_new (toRat_nw rs[els.length] (hq.2 _ (List.getElem_mem h))) fun v gv b' o f fr => ?_
    rw [OwnD] at o
    obtain ⟨vs, rfl, o⟩ := o
    obtain ⟨vm, vd, _, _, rfl, _, _, om, od⟩ := own_rtL.1 o
    have c1 := om.one.1
    have d1 := od.one.1
    have hb' : b' g = _ := new_keep f fr hb
    have hgv : g ∉ gv := fun hh => by have := f g hh; rw [hb] at this; cases this
    simp [h, hb', grow_get els [.bool false, .nils, .nils] rs.length h, c1, d1]
    simp (disch := omega) [i64_in, loopQ_normal]
    have gg := grow_set' els [.bool false, .nils, .nils] [.bool rs[els.length].neg, vm, vd] rs.length h
    refine ⟨⟨els ++ [[.bool rs[els.length].neg, vm, vd]], gs ++ gv, upd b' g (some ⟨3, (els ++ [[.bool rs[els.length].neg, vm, vd]]) ++ List.replicate (rs.length - (els ++ [[V.bool rs[els.length].neg, vm, vd]]).length) [.bool false, .nils, .nils]⟩)⟩, ⟨by simp; omega, by simp, ?_, ?_, ?_, ?_⟩, by simp; omega, rfl, by simp, sub_eq ?_⟩
    · have ht : (rs.map dR).take (els ++ [[V.bool rs[els.length].neg, vm, vd]]).length = (rs.map dR).take els.length ++ [dR rs[els.length]] := by
        rw [List.length_append, List.length_singleton, List.take_add_one, List.getElem?_map, List.getElem?_eq_getElem h]; simp
      simp only
      rw [ht]
      refine OwnR.snoc (o.frame fun x hx => by simp [show x ≠ g from fun e => hgv (e ▸ hx)]) rfl (by simp [c1, d1]) (ho.keep fun x hx y hy => ?_) fun x hx hx2 => ?_
      · rw [upd_apply, if_neg (fun e => hn (by rw [← e]; exact hx))]; exact new_keep f fr hy
      · exact ho.not (f x hx2) hx
    · simp only [List.mem_append]; rintro (h | h)
      · exact hn h
      · exact hgv h
    · intro x hx
      rcases List.mem_append.1 hx with hx | hx
      · exact hf x hx
      · exact fresh_of hs (f x hx)
    · exact sub_new' hg fun x y hy => new_keep f fr (hs x y hy)
    · show upd b' g _ = upd b' g _
      rw [gg]
  · have hl : els.length = rs.length := by omega
    refine retNW [.lsl g 3 0 rs.length] (g :: gs) (by simp) ?_ (by simpa [hg] using hf) hs
    refine own_rs.2 (.inr ⟨g, els, gs, rfl, rfl, hn, ?_, by omega, ?_⟩)
    · show b g = _
      rw [hb, hl]; simp
    · rw [hl] at ho
      rw [List.take_of_length_le (by simp)] at ho
      exact ho
theorem toRatS_ro (rs : List RT) (hq : fitQ rs 1048576) : RO Try.prog 41 [.sl (rv rs)] (.sl (rv rs)) := by
  have := ro_of_nw 2 (toRatS_nw rs hq) (dRs_dep rs 0)
  rwa [dRs_fz] at this
theorem eqRatS_ro (rs : List RT) (hq : fitQ rs 1048576) : RO Try.prog 44 [.sl (rv rs), .sl (rv rs)] (.bool true) := by
  have hw := hq.1
  refine ro_of2 Try.func44 rfl rfl (by rw [Try.ntmps44]; simp) fun bl => ?_
  rw [Try.ntmps44, Try.results44]
  refine AW_run ?_
  simp
  refine AW_for (fun i : Nat => [(0, .sl (rv rs)), (1, .sl (rv rs)), (5, .int .i64 i)]) (fun _ => bl) (fun i => i ≤ rs.length) (fun i => rs.length - i) _ 0 (Nat.zero_le _) ⟨rfl, by simp, Sub.refl _⟩ ?_
  intro i hi
  refine AW_run ?_
  simp
  refine ⟨fun h1 => ?_, fun h1 => ?_⟩
  · refine AW_quiet mixedO (by kernel_rfl) ?_
    simp [h1, RT.c]
    refine hcQ_ro (eqRat_ro rs[i] (RT.le_mono (hq.2 _ (List.getElem_mem h1)) (by omega))) ?_
    simp (disch := omega) [i64_in, loopQ_normal]
    exact ⟨i + 1, by omega, by omega, rfl, by simp, Sub.refl _⟩
  · exact retRO0 (by simp) rfl rfl

/-! ### Marks -/
def mkQ (k : Nat) (r : RT) : RT := ⟨(k : Int).tmod 3 == 0, marks (k + 1 : Nat) r.m.length, marks (k + 1 + r.m.length : Nat) r.d.length⟩
def mkQN (k : Nat) (r : RT) : Nat := k + 1 + r.m.length + r.d.length
def mkQs : Nat → List RT → List RT
  | _, [] => []
  | k, r :: rs => mkQ k r :: mkQs (mkQN k r) rs
def mkQsN (k : Nat) (rs : List RT) : Nat := rs.foldl mkQN k
@[simp] theorem mkQs_length : ∀ (k : Nat) (rs : List RT), (mkQs k rs).length = rs.length
  | _, [] => rfl
  | k, r :: rs => by rw [mkQs, List.length_cons, List.length_cons, mkQs_length]
theorem mkQsN_take_succ (k : Nat) (rs : List RT) (i : Nat) (h : i < rs.length) : mkQsN k (rs.take (i + 1)) = mkQN (mkQsN k (rs.take i)) rs[i] := by
  unfold mkQsN
  rw [List.take_add_one, List.getElem?_eq_getElem h, Option.toList_some, List.foldl_append]; rfl
theorem mkQs_at : ∀ (k : Nat) (rs : List RT) (i : Nat) (h : i < rs.length), (mkQs k rs)[i]'(by rw [mkQs_length]; exact h) = mkQ (mkQsN k (rs.take i)) rs[i]
  | k, r :: rs, 0, h => rfl
  | k, r :: rs, i + 1, h => by
    simp only [mkQs, List.getElem_cons_succ]
    rw [mkQs_at (mkQN k r) rs i (by simpa using h)]
    rfl
theorem mkQsN_sum : ∀ (k : Nat) (rs : List RT), mkQsN k rs = k + rs.length + sumQ rs
  | k, [] => by simp [mkQsN, sumQ]
  | k, r :: rs => by
    have := mkQsN_sum (mkQN k r) rs
    have e : mkQsN k (r :: rs) = mkQsN (mkQN k r) rs := rfl
    have e2 : sumQ (r :: rs) = (r.m.length + r.d.length) + sumQ rs := by unfold sumQ; rw [List.map_cons, List.sum_cons]
    rw [e, this, e2, List.length_cons]
    unfold mkQN
    omega
theorem mkQsN_mono (k : Nat) (rs : List RT) (i : Nat) : mkQsN k (rs.take i) ≤ mkQsN k rs := by
  rw [mkQsN_sum, mkQsN_sum]
  have h1 : (rs.take i).length ≤ rs.length := List.length_take_le' i rs
  have h2 : sumQ rs = sumQ (rs.take i) + sumQ (rs.drop i) := by
    unfold sumQ
    rw [← List.sum_append, ← List.map_append, List.take_append_drop]
  omega
/-- Rows from which on they are as before. -/
structure Mk where
  i : Nat
  els : List (List V)
  b : Int → Option Blk
theorem mkQs_step (k : Nat) (rs : List RT) (i : Nat) (h : i < rs.length) : ((mkQs k rs).take (i + 1) ++ rs.drop (i + 1)).map dR = (((mkQs k rs).take i ++ rs.drop i).map dR).set i (dR (mkQ (mkQsN k (rs.take i)) rs[i])) := by
  have h2 : i < (mkQs k rs).length := by simpa using h
  rw [List.take_add_one, List.getElem?_eq_getElem h2, mkQs_at k rs i h, Option.toList_some, List.drop_eq_getElem_cons h]
  simp only [List.map_append, List.map_cons, List.map_nil]
  rw [List.set_append_right _ _ (by simp; omega)]
  simp [show min i rs.length = i by omega]
theorem markRatS_cp {bl : Int → Option Blk} {K : V → (Int → Option Blk) → Prop} (rs : List RT) (k : Nat) (v : V) (gs : List Int) (h : OwnD bl (dRs rs) v gs) (hk : mkQsN k rs ≤ 4611686018427387000)
    (hK : ∀ bl', OwnD bl' (dRs (mkQs k rs)) v gs → (∀ g, g ∉ gs → ∀ b, bl g = some b → bl' g = some b) → K (.int .i64 (mkQsN k rs : Nat)) bl') : CallP Try.prog 47 [v, .int .i64 k] bl K := by
  refine callP_of Try.func47 rfl rfl (by rw [Try.ntmps47]; simp) ?_
  rw [Try.ntmps47, Try.results47]
  refine AW_run ?_
  rcases own_rs.1 h with ⟨rfl, rfl, rfl⟩ | ⟨g, els, gs', rfl, rfl, hg, hb, hneg, ho⟩
  · simp
    refine AW_for (fun _ : Unit => [(0, .nils), (1, .int .i64 k), (5, .int .i64 0)]) (fun _ => bl) (fun _ => True) (fun _ => 0) _ () trivial ⟨rfl, by simp, Sub.refl _⟩ ?_
    intro _ _
    refine AW_run ?_
    simp
    rw [retK_ret]
    refine ⟨[.int .i64 k], by simp, ?_⟩
    exact hK bl (own_rs.2 (.inl ⟨rfl, rfl, rfl⟩)) (fun _ _ _ h => h)
  · have hlen := OwnR.length ho
    simp at hlen
    simp
    refine AW_for (fun p : Mk => [(0, .lsl g 3 0 rs.length), (1, .int .i64 (mkQsN k (rs.take p.i) : Nat)), (5, .int .i64 p.i)]) (fun p => p.b)
      (fun p => p.i ≤ rs.length ∧ p.els.length = rs.length ∧ p.b g = some ⟨3, p.els⟩ ∧ OwnR p.b 3 (((mkQs k rs).take p.i ++ rs.drop p.i).map dR) p.els gs' ∧ (∀ x, x ∉ g :: gs' → ∀ y, bl x = some y → p.b x = some y))
      (fun p => rs.length - p.i) 38 ⟨0, els, bl⟩ ⟨Nat.zero_le _, hlen, hb, by simpa using ho, fun x _ y h => h⟩ ⟨rfl, by simp [mkQsN], Sub.refl _⟩ ?_
    rintro ⟨i, els, b⟩ ⟨hi, hel, hbg, hor, hfr⟩
    simp only at hi hel hbg hor hfr
    refine AW_run ?_
    simp
    have hle := mkQsN_mono k rs i
    have hsm := mkQsN_sum k rs
    refine ⟨fun h1 => ?_, fun h1 => ?_⟩
    · have hge : 0 ≤ g := by
        rcases Int.lt_or_le g 0 with hlt | hge
        · have h2 := hneg hlt; subst h2; simp at hlen; omega
        · exact hge
      have hrl : ((mkQs k rs).take i ++ rs.drop i).length = rs.length := by simp; omega
      have hri : ((mkQs k rs).take i ++ rs.drop i)[i]'(by omega) = rs[i] := by
        rw [List.getElem_append_right (by simp; omega)]
        simp [show min i rs.length = i by omega]
      obtain ⟨e, gi, a1, a2, a3, a4, a5, a6⟩ := hor.at i (by simpa using (by omega : i < ((mkQs k rs).take i ++ rs.drop i).length))
      rw [List.getElem_map, hri] at a2
      obtain ⟨vm, vd, gm, gd, rfl, rfl, hd, om, od⟩ := own_rtL.1 a2
      have c1 := om.one.1
      have d1 := od.one.1
      have hs := mkQsN_take_succ k rs i h1
      have hle2 := mkQsN_mono k rs (i + 1)
      have hst := mkQs_step k rs i h1
      generalize mkQsN k (rs.take i) = q at *
      have hr : rs[i].m.length + rs[i].d.length + q < 4611686018427387904 := by unfold mkQN at hs; omega
      have hil : i < els.length := by omega
      have ea : els[i] = [.bool rs[i].neg, vm, vd] := by
        rw [List.getElem?_eq_getElem hil] at a1; exact Option.some.inj a1
      have gi1 : g ∉ gm := fun hh => hg (a5 g (List.mem_append_left _ hh))
      have gi2 : g ∉ gd := fun hh => hg (a5 g (List.mem_append_right _ hh))
      simp [h1, hbg, hil, ea, c1, d1]
      simp (disch := omega) [i64_in]
      obtain ⟨m3, hm3⟩ : ∃ m3, ((q : Int).tmod 3 == 0) = m3 := ⟨_, rfl⟩
      rw [hm3, show (q : Int) + 1 = (q + 1 : Nat) by simp]
      have hle3 : q + 1 + rs[i].m.length + rs[i].d.length ≤ mkQsN k rs := by unfold mkQN at hs; omega
      obtain ⟨els2, he2⟩ : ∃ e, els.set i [.bool m3, vm, vd] = e := ⟨_, rfl⟩
      have ei2 : els2[i]? = some [.bool m3, vm, vd] := by rw [← he2, List.getElem?_set_self hil]
      have el2 : els2.length = rs.length := by rw [← he2, List.length_set, hel]
      have es2 : els2.set i [.bool m3, vm, vd] = els2 := by rw [← he2, List.set_set]
      rw [he2]
      refine markIntS_cp rs[i].m (q + 1 : Nat) vm gm (om.frame fun x hx => by simp [show x ≠ g from fun e => gi1 (e ▸ hx)]) (by omega) fun b1 om1 k1 => ?_
      have eb1 : b1 g = some ⟨3, els2⟩ := by rw [k1 g gi1]; simp
      simp [h1, eb1, ei2]
      rw [show (q : Int) + 1 + rs[i].m.length = (q + 1 + rs[i].m.length : Nat) by simp]
      refine markIntS_cp rs[i].d (q + 1 + rs[i].m.length : Nat) vd gd (od.frame fun x hx => by
        rw [k1 x (fun hh => hd x hh hx)]
        simp [show x ≠ g from fun e => gi2 (e ▸ hx)]) (by omega) fun b2 od2 k2 => ?_
      simp (disch := omega) [i64_in, loopQ_normal]
      refine ⟨⟨i + 1, els2, b2⟩, ⟨by simp only; omega, el2, by simp only; rw [k2 g gi2]; exact eb1, ?_, fun x hx1 hx2 y hy => ?_⟩, by simp only; omega, rfl, by simp [hs, mkQN], Sub.refl _⟩
      · have := a6 b2 (dR (mkQ q rs[i])) [.bool m3, vm, vd] (own_rtL.2 ⟨vm, vd, gm, gd, by simp [mkQ, hm3], rfl, hd, om1.frame fun x hx => k2 x (hd x hx), od2⟩) rfl (by simp [c1, d1]) (fun x hx hn y hy => by
          simp at hn
          rw [k2 x hn.2, k1 x hn.1, upd_apply, if_neg (fun e : x = g => hg (e ▸ hx))]; exact hy)
        rw [he2, ← hst] at this
        simpa using this
      · show b2 x = some y
        rw [k2 x (fun h => hx2 (a5 x (List.mem_append_right _ h))), k1 x (fun h => hx2 (a5 x (List.mem_append_left _ h))), upd_apply, if_neg hx1]
        exact hfr x (by simp [hx1, hx2]) y hy
    · have : i = rs.length := by omega
      subst this
      rw [retK_ret]
      refine ⟨[.int .i64 (mkQsN k rs : Nat)], by simp, ?_⟩
      have ht : (mkQs k rs).take rs.length = mkQs k rs := List.take_of_length_le (by simp)
      simp only [ht, List.drop_length, List.append_nil] at hor
      exact hK _ (own_rs.2 (.inr ⟨g, els, gs', by simp, rfl, hg, hbg, fun hn => by have := hneg hn; subst this; simp at hlen; exact List.eq_nil_of_length_eq_zero (by omega), hor⟩)) hfr

theorem heldRatS_ro (rs : List RT) (k : Nat) (hk : mkQsN k rs ≤ 4611686018427387000) : RO Try.prog 48 [.sl (rv (mkQs k rs)), .int .i64 k] (.int .i64 (mkQsN k rs : Nat)) := by
  refine ro_of2 Try.func48 rfl rfl (by rw [Try.ntmps48]; simp) fun bl => ?_
  rw [Try.ntmps48, Try.results48]
  refine AW_run ?_
  simp
  refine AW_for (fun i : Nat => [(0, .sl (rv (mkQs k rs))), (1, .int .i64 (mkQsN k (rs.take i) : Nat)), (5, .int .i64 i)]) (fun _ => bl) (fun i => i ≤ rs.length) (fun i => rs.length - i) _ 0 (Nat.zero_le _) ⟨rfl, by simp [mkQsN], Sub.refl _⟩ ?_
  intro i hi
  refine AW_run ?_
  simp
  refine ⟨fun h1 => ?_, fun h1 => ?_⟩
  · have hsm := mkQsN_sum k rs
    have hs := mkQsN_take_succ k rs i h1
    have hle2 := mkQsN_mono k rs (i + 1)
    have hat := mkQs_at k rs i h1
    generalize mkQsN k (rs.take i) = q at *
    have hle3 : q + 1 + rs[i].m.length + rs[i].d.length ≤ mkQsN k rs := by unfold mkQN at hs; omega
    simp [h1, hat, mkQ, RT.c]
    simp (disch := omega) [i64_in]
    refine callP_ro (heldIntS_ro rs[i].m.length ((q : Int) + 1) (by omega)) ?_
    simp [h1, hat, mkQ, RT.c]
    refine ⟨fun h => by omega, fun h => ?_⟩
    refine callP_ro (heldIntS_ro rs[i].d.length ((q : Int) + 1 + rs[i].m.length) (by omega)) ?_
    simp [h1, hat, mkQ, RT.c]
    refine ⟨fun h => by omega, fun h => ?_⟩
    simp (disch := omega) [i64_in, loopQ_normal]
    refine ⟨i + 1, by omega, by omega, rfl, by simp [hs, mkQN], Sub.refl _⟩
  · have : i = rs.length := by omega
    subst this
    exact retRO0 (by simp) rfl rfl

theorem markIntS_cpN {bl : Int → Option Blk} {K : V → (Int → Option Blk) → Prop} (xs : List Int) (k : Nat) (v : V) (gs : List Int) (h : OwnD bl (fl 1 (iv xs)) v gs) (hk : k + xs.length ≤ 4611686018427387000)
    (hK : ∀ bl', OwnD bl' (fl 1 (iv (marks k xs.length))) v gs → (∀ g, g ∉ gs → ∀ b, bl g = some b → bl' g = some b) → K (.int .i64 (k + xs.length : Nat)) bl') : CallP Try.prog 83 [v, .int .i64 k] bl K :=
  markIntS_cp xs k v gs h (by omega) fun bl' o q => by
    have := hK bl' o fun g hg b hb => by rw [q g hg]; exact hb
    simpa using this

/-! ### Arguments -/
theorem celT_Rats : Try.prog.cellsOf 70 = 1 := by kernel_rfl
theorem bytes_Rat : 1 ≤ Try.prog.bytesOf 44 := by
  have : Try.prog.bytesOf 44 = 56 := by kernel_rfl
  omega
theorem rv_of_co {cs : List V} (h : CO Try.prog 70 cs) : ∃ rs : List RT, cs = [.sl (rv rs)] ∧ fitQ rs 140737488351232 := by
  obtain ⟨xs, rfl, hx, hl⟩ := co_slice Try.underlying70 h
  have : ∃ rs : List RT, xs = rv rs ∧ ∀ r, r ∈ rs → r.le 17592186043904 := by
    clear hl h
    induction xs with
    | nil => exact ⟨[], rfl, fun n hn => by cases hn⟩
    | cons x xs ih =>
      obtain ⟨rs, rfl, hrs⟩ := ih fun y hy => hx y (List.mem_cons_of_mem _ hy)
      obtain ⟨r, rfl, hr⟩ := rat_of_co (hx x List.mem_cons_self)
      refine ⟨r :: rs, rfl, fun m hm => ?_⟩
      rcases List.mem_cons.1 hm with rfl | hm
      · exact hr
      · exact hrs m hm
  obtain ⟨rs, rfl, hrs⟩ := this
  have := len_of hl bytes_Rat
  exact ⟨rs, rfl, by simpa using this, fun r hr => RT.le_mono (hrs r hr) (by omega)⟩

end Go.Proofs.Ythhjmaianlmfpaa.Vm
