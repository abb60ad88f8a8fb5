/- Limbs in the reference: long division, greatest common divisors. -/

import Derived.Test.YtmbcofnnibpbeaaGreatQCFnExactMechanisms5

namespace Go.Proofs.YtmbcofnnibpbeaaGreat.Vm
open Go Go.Proofs
set_option linter.unusedSimpArgs false
set_option linter.unusedVariables false

theorem natOk_lim {n : Nat} (h : (lim n).length ≤ 60) : natOk (lim n) = true := by unfold natOk; simp [h]
theorem lim_max : lim 9223372036854775807 = [854775807, 223372036, 9] := by
  refine lim_of ?_ (by decide +kernel) (.inr (by decide +kernel))
  intro d hd
  simp at hd
  omega
theorem cmpN_gt {a b : Nat} : 0 < cmpN a b ↔ b < a := by unfold cmpN; split <;> (try split) <;> omega
theorem cmpN_le {a b : Nat} : cmpN a b ≤ 0 ↔ a ≤ b := by unfold cmpN; split <;> (try split) <;> omega
theorem val_drop_le (n k : Nat) : val ((lim n).drop k) ≤ n := by
  rcases Nat.lt_or_ge (lim n).length k with h | h
  · rw [List.drop_of_length_le (by omega)]; exact Nat.zero_le _
  · have := val_split (lim n) h
    rw [val_lim] at this
    have hp : 1 ≤ LB ^ k := Nat.pow_pos LB_pos
    have := Nat.mul_le_mul_right (val ((lim n).drop k)) hp
    omega
theorem NatToInt_ro (n : Nat) (hn : n ≤ 9223372036854775807) : RO Tryz.prog 202 [.sl (iv (lim n))] (.tup [.int .i64 n, .bool true]) := by
  have hL := lim_u64 (show n ≤ 18446744073709551615 by omega)
  refine ro_of2 Tryz.func202 rfl rfl (by rw [Tryz.ntmps202]; simp) fun bl => ?_
  rw [Tryz.ntmps202, Tryz.results202]
  refine AW_run ?_
  simp
  refine AW_wayS [(0, .sl (iv (lim n)))] _ bl 14 (.bool false) ⟨rfl, by simp, Sub.refl _⟩ rfl ?_ ?_
  · simp
    refine callP_ro (spec_NatOk_ro _ (by omega)) ?_
    simp [natOk_lim (show (lim n).length ≤ 60 by omega)]
    intro g hg0 hg
    refine callP_borrow 1 (ys := [.sl (iv (lim n)), .sl (iv (lim 9223372036854775807))]) ?_ (l02Cmp_ro n 9223372036854775807 (by omega) (by rw [lim_max]; simp)) rfl ?_
    · have er3 : List.range 3 = [0, 1, 2] := rfl
      simp [frzL, frz, lim_max, iv, V.cl, Int.not_lt.2 hg0, er3]
    simp [hg]
    have := cmpN_le.2 hn
    omega
  have w0 : IntKind.i64.wrap (((lim n).length : Int) - 1) = ((lim n).length : Int) - 1 := i64_in (by omega) (by omega)
  simp [w0]
  refine AW_for (fun p : Nat × Int => [(0, .sl (iv (lim n))), (4, .int .i64 p.2), (5, .int .i64 ((p.1 : Int) - 1))]) (fun _ => bl) (fun p => p.1 ≤ (lim n).length ∧ p.2 = (val ((lim n).drop p.1) : Nat)) (fun p => p.1) _ ((lim n).length, 0) ⟨Nat.le_refl _, by simp [val]⟩ ⟨rfl, by simp, Sub.refl _⟩ ?_
  rintro ⟨k, x⟩ ⟨hk, hx⟩
  simp only at hk hx
  refine AW_run ?_
  simp [-binV, -intV]
  refine ⟨fun h1 => ?_, fun h1 => ?_⟩
  · obtain ⟨m, rfl⟩ : ∃ m, k = m + 1 := ⟨k - 1, by omega⟩
    have hm : m < (lim n).length := by omega
    have e1 : ((m + 1 : Nat) : Int) - 1 = m := by omega
    have hv : val ((lim n).drop m) = dg n m + LB * val ((lim n).drop (m + 1)) := by
      rw [List.drop_eq_getElem_cons hm, val, lim_at hm, Int.toNat_natCast]
    have hle := val_drop_le n m
    have hLB : LB = 1000000000 := rfl
    rw [hLB] at hv
    have w1 : IntKind.i64.wrap (x * 1000000000) = x * 1000000000 := i64_in (by omega) (by omega)
    have w2 : IntKind.i64.wrap (x * 1000000000 + dg n m) = x * 1000000000 + dg n m := i64_in (by omega) (by omega)
    have w3 : IntKind.i64.wrap ((m : Int) - 1) = (m : Int) - 1 := i64_in (by omega) (by omega)
    simp [-binV, -intV, e1, lv_get _ _ hm, w1, w2, w3]
    refine ⟨by omega, ?_⟩
    rw [loopQ_normal]
    refine ⟨(m, x * 1000000000 + dg n m), ⟨by simp only; omega, by simp only; omega⟩, by simp only; omega, rfl, by simp, Sub.refl _⟩
  · have e : k = 0 := by omega
    subst e
    have hx2 : x = n := by rw [hx]; simp
    rw [hx2]
    exact retRO [.int .i64 n, .bool true] 1 (by simp) rfl (Sub.refl _)

structure DL2 where
  lo : Int
  hi : Int
theorem l02Digit_ro (r b n : Nat) (hn : (lim b).length = n + 1) (hbr : b ≤ r) (hrb : r < LB * b) (hl : n ≤ 300000) : RO Tryz.prog 210 [.sl (iv (lim r)), .sl (iv (lim b))] (.int .i64 (r / b : Nat)) := by
  have ht : 0 < dg b n := top_pos hn
  have htl := dg_lt b n
  have hb0 : 0 < b := by
    rcases Nat.eq_zero_or_pos b with h | h
    · rw [h, lim_zero] at hn; simp at hn
    · exact h
  have hlr : n + 1 ≤ (lim r).length := by have := lim_length_mono hbr; omega
  have hbl : b < LB ^ (n + 1) := lim_length_le.1 (by omega)
  have hlr2 : (lim r).length ≤ n + 2 := by
    refine lim_length_le.2 (Nat.lt_of_lt_of_le hrb ?_)
    rw [Nat.pow_succ, Nat.mul_comm]
    exact Nat.mul_le_mul_right _ (Nat.le_of_lt hbl)
  have hLB : LB = 1000000000 := rfl
  have er : r = (dg r (n + 1) * LB + dg r n) * LB ^ n + pv r n := by
    have h1 := pv_succ r n
    have h2 := pv_succ r (n + 1)
    rw [pv_out (by omega)] at h2
    have e1 : dg r (n + 1) * LB * LB ^ n = LB ^ n * LB * dg r (n + 1) := by ac_rfl
    have e2 : dg r n * LB ^ n = LB ^ n * dg r n := Nat.mul_comm _ _
    rw [Nat.pow_succ] at h2
    rw [Nat.add_mul]
    omega
  have eb : b = dg b n * LB ^ n + pv b n := by
    have h1 := pv_succ b n
    rw [pv_out (by omega)] at h1
    have e2 : dg b n * LB ^ n = LB ^ n * dg b n := Nat.mul_comm _ _
    omega
  obtain ⟨x, hx⟩ : ∃ x, x = dg r (n + 1) * LB + dg r n := ⟨_, rfl⟩
  have hlo : x / (dg b n + 1) ≤ r / b := by
    have := digit_lo (x := x) (rl := pv r n) (pv_lt b n) ht
    rw [hx, ← er, ← eb, ← hx] at this; exact this
  have hhi : r / b ≤ x / dg b n := by
    have := digit_hi (x := x) (bl := pv b n) (pv_lt r n) ht
    rw [hx, ← er, ← eb, ← hx] at this; exact this
  have hq : r / b ≤ 999999999 := by
    have : r / b < LB := by rw [Nat.div_lt_iff_lt_mul hb0]; exact hrb
    omega
  have hr1 := dg_lt r (n + 1)
  have hr0 := dg_lt r n
  have hxl : x ≤ 1000000000000000000 := by rw [hx, hLB]; omega
  refine ro_of2 Tryz.func210 rfl rfl (by rw [Tryz.ntmps210]; simp) fun bl => ?_
  rw [Tryz.ntmps210, Tryz.results210]
  obtain ⟨d1, hd1⟩ : ∃ d1 : Int, d1 = dg r (n + 1) := ⟨_, rfl⟩
  have w0 : IntKind.i64.wrap (((lim b).length : Int) - 1) = (n : Int) := by rw [i64_in (by omega) (by omega)]; omega
  have w1 : IntKind.i64.wrap (d1 * 1000000000) = d1 * 1000000000 := i64_in (by omega) (by omega)
  have w2 : IntKind.i64.wrap ((dg r n : Int) + d1 * 1000000000) = x := by rw [i64_in (by omega) (by omega), hx, hLB]; omega
  have w3 : IntKind.i64.wrap ((dg b n : Int) + 1) = (dg b n : Int) + 1 := i64_in (by omega) (by omega)
  have lr := lv_get r n (by omega)
  have lb := lv_get b n (by omega)
  have q1 : (iv (lim r))[(lim b).length]? = if (lim b).length < (lim r).length then some [.int .i64 d1] else none := by
    split
    · rename_i h; rw [lv_get _ _ h, hn, hd1]
    · rename_i h; rw [List.getElem?_eq_none (by simp; omega)]
  have y1 : (x : Int).tdiv ((dg b n : Int) + 1) = (x / (dg b n + 1) : Nat) := by rw [Int.tdiv_eq_ediv_of_nonneg (by omega)]; simp
  have y2 : (x : Int).tdiv (dg b n : Int) = (x / dg b n : Nat) := by rw [Int.tdiv_eq_ediv_of_nonneg (by omega)]; simp
  have y3 := wq (x := (x : Int)) (n := (dg b n : Int) + 1) (by omega) (by omega) (by omega)
  have y4 := wq (x := (x : Int)) (n := (dg b n : Int)) (by omega) (by omega) (by omega)
  rw [y1] at y3
  rw [y2] at y4
  obtain ⟨lo0, hlo0⟩ : ∃ l : Int, l = (x / (dg b n + 1) : Nat) := ⟨_, rfl⟩
  obtain ⟨hi0, hhi0⟩ : ∃ l : Int, l = (x / dg b n : Nat) := ⟨_, rfl⟩
  rw [← hlo0] at y1 y3
  rw [← hhi0] at y2 y4
  have z1 : ¬ (dg b n : Int) + 1 = 0 := by omega
  have z2 : ¬ dg b n = 0 := by omega
  obtain ⟨D, hD⟩ : ∃ D : Int, D = (r / b : Nat) := ⟨_, rfl⟩
  rw [← hD]
  have hD0 : 0 ≤ D := by rw [hD]; exact Int.natCast_nonneg _
  have hDq : D ≤ 999999999 := by rw [hD]; generalize r / b = z at hq ⊢; omega
  have hDlo : lo0 ≤ D := by rw [hlo0, hD]; generalize r / b = z at hlo ⊢; generalize x / (dg b n + 1) = z2 at hlo ⊢; omega
  have hDhi : D ≤ hi0 := by rw [hhi0, hD]; generalize r / b = z at hhi ⊢; generalize x / dg b n = z2 at hhi ⊢; omega
  have hlo00 : 0 ≤ lo0 := by rw [hlo0]; exact Int.natCast_nonneg _
  refine AW_runA ?_
  simp
  refine AW_runA ?_
  simp
  refine AW_runA ?_
  simp [w0, lr]
  refine AW_mid (fun _ : Unit => [(0, .sl (iv (lim r))), (1, .sl (iv (lim b))), (5, .int .i64 (lim b).length), (6, .int .i64 x)]) (fun _ => bl) (fun _ => True) 63 ?_ ?_
  · refine AW_run ?_
    simp [-binV, -intV]
    refine ⟨fun h => ?_, fun h => ?_⟩
    · have q2 : (lim r)[(lim b).length]'h = d1 := by rw [lim_at h, hn, hd1]
      simp [-binV, -intV, q1, h, q2, w1, w2]
      rw [midQ_normal]
      exact ⟨(), trivial, rfl, by simp, Sub.refl _⟩
    · have e0 : dg r (n + 1) = 0 := dg_out (by omega)
      have ex : dg r n = x := by rw [hx, e0]; simp
      rw [midQ_normal]
      exact ⟨(), trivial, rfl, by simp [ex], Sub.refl _⟩
  rintro _ _
  refine AW_run ?_
  simp [w0, lb, w3, y1, y2, y3, y4, z1, z2, minV]
  refine AW_for (fun p : DL2 => [(0, .sl (iv (lim r))), (1, .sl (iv (lim b))), (7, .int .i64 p.lo), (8, .int .i64 p.hi)]) (fun _ => bl) (fun p => 0 ≤ p.lo ∧ p.lo ≤ D ∧ D ≤ p.hi ∧ p.hi ≤ 999999999) (fun p => (p.hi - p.lo).toNat) _ ⟨lo0, if hi0 < 999999999 then hi0 else 999999999⟩ ⟨hlo00, hDlo, by simp only; split <;> omega, by simp only; split <;> omega⟩ ⟨rfl, by simp [minV], Sub.refl _⟩ ?_
  rintro ⟨lo, hi⟩ ⟨a1, a2, a3, a4⟩
  simp only at a1 a2 a3 a4
  refine AW_run ?_
  simp
  refine ⟨fun h => ?_, fun h => ?_⟩
  · have v1 : IntKind.i64.wrap (lo + hi) = lo + hi := i64_in (by omega) (by omega)
    have v2 : IntKind.i64.wrap (lo + hi + 1) = lo + hi + 1 := i64_in (by omega) (by omega)
    have v3 := wq (x := lo + hi + 1) (n := 2) (by omega) (by omega) (by omega)
    have v4 : (lo + hi + 1).tdiv 2 = (((lo + hi + 1) / 2).toNat : Nat) := by rw [Int.tdiv_eq_ediv_of_nonneg (by omega)]; omega
    rw [v4] at v3
    obtain ⟨q, hqq⟩ : ∃ q : Nat, q = ((lo + hi + 1) / 2).toNat := ⟨_, rfl⟩
    rw [← hqq] at v3 v4
    have hq2 : (q : Int) = (lo + hi + 1) / 2 := by omega
    have hqle : q ≤ 999999999 := by omega
    simp [v1, v2, v3, v4]
    refine callP_ro (spec_NatOf_ro q (by omega)) ?_
    simp
    have lq : (lim q).length ≤ 3 := lim_u64 (by omega)
    refine callP_ro (l02Mul_ro b q (by omega) (by omega)) ?_
    simp
    have lbq := len_mul (k := 300002) (l := 3) (show (lim b).length ≤ 300002 by omega) lq
    refine callP_ro (l02Cmp_ro _ _ (by omega) (by omega)) ?_
    simp [cmpN_le]
    have hdh := digit_half (r := r) (q := q) hb0
    refine ⟨fun h2 => ?_, fun h2 => ?_⟩
    · rw [loopQ_normal]
      have h3 := hdh.1 h2
      refine ⟨⟨q, hi⟩, ⟨by simp only; omega, ?_, a3, a4⟩, by simp only; omega, rfl, by simp, Sub.refl _⟩
      simp only
      rw [hD]
      generalize r / b = z at h3 ⊢
      omega
    · have v5 : IntKind.i64.wrap ((q : Int) - 1) = (q : Int) - 1 := i64_in (by omega) (by omega)
      simp [v5]
      rw [loopQ_normal]
      have h3 : ¬ q ≤ r / b := fun hh => by have := hdh.2 hh; omega
      refine ⟨⟨lo, (q : Int) - 1⟩, ⟨a1, a2, ?_, by simp only; omega⟩, by simp only; omega, rfl, by simp, Sub.refl _⟩
      simp only
      rw [hD]
      generalize r / b = z at h3 ⊢
      omega
  · have : lo = D := by omega
    rw [this]
    exact retRO0 (by simp) rfl rfl

theorem len_digit {r d k : Nat} (hr : (lim r).length ≤ k) (hd : d < 1000000000) : (lim (r * 1000000000 + d)).length ≤ k + 1 := by
  refine lim_length_le.2 ?_
  have h5 := lim_length_le.1 hr
  have e : LB ^ (k + 1) = LB ^ k * 1000000000 := Nat.pow_succ ..
  rw [e]
  generalize LB ^ k = P at h5 ⊢
  omega
structure SD where
  g : Int
  i : Nat
  Q : List Int
  r : Nat
theorem l02Div_ro (a b : Nat) (hb0 : 0 < b) (ha : (lim a).length ≤ 200000) (hbl : (lim b).length ≤ 200000) : RO Tryz.prog 197 [.sl (iv (lim a)), .sl (iv (lim b))] (.tup [.sl (iv (lim (a / b))), .sl (iv (lim (a % b)))]) := by
  refine ro_of2 Tryz.func197 rfl rfl (by rw [Tryz.ntmps197]; simp) fun bl => ?_
  rw [Tryz.ntmps197, Tryz.results197]
  refine AW_runA ?_
  simp
  refine AW_runA ?_
  simp
  refine ⟨fun h1 => ?_, fun h1 => ?_⟩
  · have h1' : (lim b).length = 1 := by omega
    obtain ⟨b1, b2, b3⟩ := len1 h1'
    simp [lv_get b 0 (by omega), b1]
    refine callP_ro (l02Small_ro a b (by omega) b3 b2) ?_
    have hr : a % b < b := Nat.mod_lt _ b3
    obtain ⟨r, hr2⟩ : ∃ r, r = a % b := ⟨_, rfl⟩
    rw [← hr2] at hr ⊢
    simp
    refine callP_ro (spec_NatOf_ro r (by omega)) ?_
    simp
    exact retRO [.sl (iv (lim (a / b))), .sl (iv (lim r))] 1 (by simp) rfl (Sub.refl _)
  have hbz : (lim b).length ≠ 0 := fun h0 => by have := lim_nil.1 (List.length_eq_zero_iff.1 h0); omega
  obtain ⟨n, hn⟩ : ∃ n, (lim b).length = n + 1 := ⟨(lim b).length - 1, by omega⟩
  have w0 : IntKind.i64.wrap (((lim a).length : Int) - 1) = ((lim a).length : Int) - 1 := i64_in (by omega) (by omega)
  refine AW_run ?_
  simp
  refine ⟨by omega, by unfold maxLen; omega, fun g8 hg8 hb8 g9 hg9 h98 hb9 => ?_⟩
  have er : List.replicate ((lim a).length) [V.int IntKind.i64 0] = iv (List.replicate ((lim a).length) 0) := by simp [iv]
  simp [er, w0]
  have hb8' : bl g8 = none := by simpa using hb8
  refine AW_frzAt 1 9 (.sl (iv (lim 0))) (upd bl g8 (some ⟨1, iv (List.replicate (lim a).length 0)⟩)) (by simp [h98, hb9]) ?_ ?_
  · rw [lim_zero]
    exact frz_slice hg9 (by simp [h98, hb9]) (by simp; rfl) rfl rfl
  refine AW_for (fun p : SL => [(0, .sl (iv (lim a))), (1, .sl (iv (lim b))), (8, .lsl g8 1 0 (lim a).length), (9, .sl (iv (lim p.r.toNat))), (10, .int .i64 ((p.i : Int) - 1))]) (fun p => upd bl g8 (some ⟨1, iv (List.replicate p.i 0 ++ p.Q)⟩))
    (fun p => DivI a b p.i p.Q p.r.toNat) (fun p => p.i) _ ⟨(lim a).length, [], 0⟩ (DivI.start a b hb0) ⟨rfl, by simp, sub_eq (by simp)⟩ ?_
  rintro ⟨i, Q, r⟩ hI
  simp only at hI
  have hr := hI.rlt
  have hle := hI.le
  have hql := hI.len
  generalize r.toNat = r at *
  refine AW_run ?_
  simp
  refine ⟨fun h1 => ?_, fun h1 => ?_⟩
  · obtain ⟨m, rfl⟩ : ∃ m, i = m + 1 := ⟨i - 1, by omega⟩
    have hm : m < (lim a).length := by omega
    have hd := dg_lt a m
    obtain ⟨z, hz⟩ : ∃ z, z = r * 1000000000 + dg a m := ⟨_, rfl⟩
    have hN := hI.next (q := z / b) (r' := z % b) (by rw [hz]) (by rw [hz])
    have e1 : ((m + 1 : Nat) : Int) - 1 = m := by omega
    have er1 : List.range 1 = [0] := rfl
    have hrl : (lim r).length ≤ 200000 := len_mono (Nat.le_of_lt hr) hbl
    simp [e1, lv_get _ _ hm]
    refine ⟨by omega, ?_⟩
    intro g2 hg2 h28 hb2
    have hall : ((iv (lim r)).all fun c => c.length == 1 && c.all V.one) = true := by simp [iv]
    simp [h28, Ne.symm h28, appV, elsV, Int.not_lt.2 hg2, hall, er1]
    refine ⟨by omega, fun g3 hg3 hb3 => ?_⟩
    have hb3' : g3 ≠ g8 ∧ bl g3 = none := by grind
    have hv : val ((dg a m : Int) :: lim r) = z := by
      have hLB : LB = 1000000000 := rfl
      rw [val, val_lim, hLB, hz]; simp; omega
    have hD : Dig ((dg a m : Int) :: lim r) := fun d hd2 => by
      rcases List.mem_cons.1 hd2 with rfl | hd2
      · omega
      · exact lim_dig r d hd2
    refine callP_gro 1 (upd bl g8 (some ⟨1, iv (List.replicate (m + 1) 0 ++ Q)⟩)) _ ?_ (frz_own (ns := (dg a m : Int) :: lim r) hg3 (by simp [hb3'.1, hb3'.2]) (by simp [iv]) (by simp)) (l02Trim_ro _ hD (by simp; omega)) ?_
    · intro u y hu
      simp only [upd_apply, rem_apply] at hu ⊢
      grind
    rw [hv]
    have hzr : (lim z).length ≤ 200001 := by rw [hz]; exact len_digit hrl hd
    simp
    refine callP_ro (l02Cmp_ro z b (by omega) (by omega)) ?_
    have w3 : IntKind.i64.wrap ((m : Int) - 1) = (m : Int) - 1 := i64_in (by omega) (by omega)
    simp [cmpN_lt]
    refine ⟨fun h5 => ?_, fun h5 => ?_⟩
    · rw [Nat.div_eq_of_lt h5, Nat.mod_eq_of_lt h5] at hN
      simp [w3]
      rw [loopQ_normal]
      refine ⟨⟨m, 0 :: Q, z⟩, by simpa using hN, by simp only; omega, rfl, by simp, sub_eq ?_⟩
      rw [← fill_none]
    · have hzb : z < LB * b := by
        have hLB : LB = 1000000000 := rfl
        rw [hLB, hz]; omega
      refine callP_ro (l02Digit_ro z b n hn h5 hzb (by omega)) ?_
      have q5 : (iv (List.replicate (m + 1) 0 ++ Q))[m]? = some [.int .i64 0] := by rw [iv_get _ _ (by simp; omega)]; simp
      have hqq : z / b ≤ 999999999 := by
        have : z / b < LB := by rw [Nat.div_lt_iff_lt_mul hb0]; exact hzb
        have hLB : LB = 1000000000 := rfl
        omega
      obtain ⟨q, hq⟩ : ∃ q, q = z / b := ⟨_, rfl⟩
      have hmod : z - b * q = z % b := by rw [hq]; have := Nat.div_add_mod z b; omega
      have hle2 : b * q ≤ z := by rw [hq]; exact Nat.mul_div_le z b
      rw [← hq] at hqq hN ⊢
      simp [q5, hm]
      refine callP_ro (spec_NatOf_ro q (by omega)) ?_
      simp
      have lq : (lim q).length ≤ 3 := lim_u64 (by omega)
      refine callP_ro (l02Mul_ro b q (by omega) (by omega)) ?_
      simp
      refine callP_ro (l02Sub_ro z (b * q) hle2 (by omega)) ?_
      rw [hmod]
      simp [w3]
      rw [loopQ_normal]
      refine ⟨⟨m, (q : Int) :: Q, (z % b : Nat)⟩, by simp only [Int.toNat_natCast]; exact hN, by simp only; omega, rfl, by simp only [Int.toNat_natCast]; simp, sub_eq ?_⟩
      rw [← fill_set m _ 0 Q, ← iv_set]
  · have e : i = 0 := by omega
    subst e
    obtain ⟨h2, h3⟩ := hI.done
    refine callP_gro 1 bl _ (by simp [hb8']) (frz_own (ns := Q) hg8 hb8' (by simp) (by simp [hql])) (l02Trim_ro _ hI.dig (by omega)) ?_
    rw [h2, h3]
    simp
    exact retRO [.sl (iv (lim (a / b))), .sl (iv (lim (a % b)))] 1 (by simp) rfl (by simp)

theorem frz_any {bl bl0 : Int → Option Blk} {g : Int} {ns : List Int} (h0 : 0 ≤ g ∨ ns = []) (hg : bl0 g = none) (hb : bl g = some ⟨1, iv ns⟩) : frz (dropB bl bl0) 1 (.lsl g 1 0 ns.length) = some (.sl (iv ns)) := by
  rcases Int.lt_or_le g 0 with h | h
  · have : ns = [] := by rcases h0 with h0 | h0; omega; exact h0
    subst this
    unfold frz
    rw [if_pos h]; rfl
  · exact frz_slice h hg hb (by simp) (iv_cl ns)
theorem l02Gcd_ro (a b : Nat) (ha : (lim a).length ≤ 200000) (hb : (lim b).length ≤ 200000) : RO Tryz.prog 189 [.sl (iv (lim a)), .sl (iv (lim b))] (.sl (iv (lim (Nat.gcd a b)))) := by
  have hall : ∀ n : Nat, ((iv (lim n)).all fun c => c.length == 1 && c.all V.one) = true := fun n => by simp [iv]
  have hnil : ∀ n : Nat, iv (lim n) = [] → lim n = [] := fun n h => by simpa [iv] using h
  refine ro_of2 Tryz.func189 rfl rfl (by rw [Tryz.ntmps189]; simp) fun bl => ?_
  rw [Tryz.ntmps189, Tryz.results189]
  refine AW_run ?_
  simp
  intro g0 hg0 hb0
  simp [appV, elsV, hall, Int.not_lt.2 hg0]
  refine ⟨by omega, fun g1 hg1 hb1 g2 hg2 n21 hb2 => ?_⟩
  have hb2' : bl g2 = none := by grind
  have hb1' : bl g1 = none := by grind
  try simp [appV, elsV, hall, Int.not_lt.2 hg2]
  refine ⟨by omega, fun g3 hg3 hb3 => ?_⟩
  have n31 : g3 ≠ g1 := by grind
  have hb3' : bl g3 = none := by grind
  refine AW_frzAt 1 5 (.sl (iv (lim a))) (upd bl g3 (some ⟨1, iv (lim b)⟩)) ?_ ?_ ?_
  · intro u y hu
    simp only [upd_apply, rem_apply] at hu ⊢
    grind
  · exact frz_any (hg1.imp id (hnil a)) (by simp [Ne.symm n31, hb1']) (by simp [n21, Ne.symm n21, n31, Ne.symm n31])
  refine AW_frzAt 1 6 (.sl (iv (lim b))) bl (by simp [hb3']) ?_ ?_
  · exact frz_any (hg3.imp id (hnil b)) hb3' (by simp)
  refine AW_for (fun p : Nat × Nat => [(5, .sl (iv (lim p.1))), (6, .sl (iv (lim p.2)))]) (fun _ => bl) (fun p => Nat.gcd p.1 p.2 = Nat.gcd a b ∧ (lim p.1).length ≤ 200000 ∧ (lim p.2).length ≤ 200000) (fun p => p.2) _ (a, b) ⟨rfl, ha, hb⟩ ⟨rfl, by simp, Sub.refl _⟩ ?_
  rintro ⟨x, y⟩ ⟨hg, hx, hy⟩
  simp only at hg hx hy
  refine AW_run ?_
  simp
  refine ⟨fun h => ?_, fun h => ?_⟩
  · have hy0 : 0 < y := (len_pos_iff y).1 (by simpa using h)
    refine AW_way0 [(5, .sl (iv (lim x))), (6, .sl (iv (lim y)))] _ bl 29 (.bool (decide ((lim x).length < 3) && decide ((lim y).length < 3))) ⟨rfl, by simp, Sub.refl _⟩ rfl ?_ ?_
    · simp
      refine ⟨fun h3 => ?_, fun h3 h4 => by omega⟩
      rw [Bool.eq_iff_iff]; simp; omega
    simp
    refine ⟨fun h1 h2 => ?_, fun h1 => ?_⟩
    · have bx : x ≤ 9223372036854775807 := by
        have := lim_length_le.1 (show (lim x).length ≤ 2 by omega)
        have e : LB ^ 2 = 1000000000000000000 := by decide +kernel
        omega
      have by' : y ≤ 9223372036854775807 := by
        have := lim_length_le.1 (show (lim y).length ≤ 2 by omega)
        have e : LB ^ 2 = 1000000000000000000 := by decide +kernel
        omega
      refine callP_ro (NatToInt_ro x bx) ?_
      simp
      refine callP_ro (NatToInt_ro y by') ?_
      simp
      refine callP_ro (l02Plain_ro x y bx by') ?_
      rw [hg]
      simp
      exact retRO0 (by simp) rfl rfl
    · refine callP_ro (l02Div_ro x y hy0 hx hy) ?_
      simp
      rw [loopQ_normal]
      have hlt := Nat.mod_lt x hy0
      refine ⟨(y, x % y), ⟨?_, hy, ?_⟩, hlt, rfl, by simp, Sub.refl _⟩
      · rw [← hg, Nat.gcd_comm x y, Nat.gcd_rec y x, Nat.gcd_comm]
      · exact Nat.le_trans (lim_length_mono (Nat.le_of_lt hlt)) hy
  · have h0 : y = 0 := lim_nil.1 (by simpa using h)
    subst h0
    rw [Nat.gcd_zero_right] at hg
    rw [← hg]
    exact retRO0 (by simp) rfl rfl

end Go.Proofs.YtmbcofnnibpbeaaGreat.Vm

namespace Go.Proofs.YtmbcofnnibpbeaaGreat.Vm
open Go Go.Proofs
set_option linter.unusedSimpArgs false
set_option linter.unusedVariables false

theorem frz_pair {bl bl0 : Int → Option Blk} {g : Int} {ns : List Int} {b : Bool} (h0 : 0 ≤ g ∨ ns = []) (hg : bl0 g = none) (hb : bl g = some ⟨1, iv ns⟩) : frz (dropB bl bl0) 2 (.agg [.bool b, .lsl g 1 0 ns.length]) = some (.agg [.bool b, .sl (iv ns)]) := by
  have h1 := frz_any h0 hg hb
  have h2 : frz (dropB bl bl0) 1 (.bool b) = some (.bool b) := by simp [frz]
  rw [frz_agg]
  simp only [List.mapM_cons, List.mapM_nil, h1, h2]
  rfl
theorem l03Make_ro (neg : Bool) (m : Nat) (hm : (lim m).length ≤ 60) : RO Tryz.prog 152 [.bool neg, .sl (iv (lim m))] (.agg (biC (sg neg m))) := by
  have hall : ((iv (lim m)).all fun c => c.length == 1 && c.all V.one) = true := by simp [iv]
  refine ro_of2 Tryz.func152 rfl rfl (by rw [Tryz.ntmps152]; simp) fun bl => ?_
  rw [Tryz.ntmps152, Tryz.results152]
  refine AW_run ?_
  simp
  intro g hg0 hg
  refine callP_ro (l02Cap_ro (lim m) (lim_dig m) (by omega)) ?_
  rw [val_lim, if_pos hm]
  simp
  cases neg
  all_goals
    refine AW_region (Ops_of ?_)
    simp
    intro g1 hg1 h1g hb1
    simp [h1g, Ne.symm h1g, appV, elsV, Int.not_lt.2 hg1, hall]
    refine ⟨by omega, fun g2 hg2 hb2 => ?_⟩
    have h2g : g2 ≠ g := by grind
    have hb2' : bl g2 = none := by grind
    have hnn : 0 ≤ g2 ∨ lim m = [] := hg2.imp id (fun h => by simpa [iv] using h)
    simp [h1g, Ne.symm h1g, h2g, Ne.symm h2g]
  · refine retRO [.agg [.bool false, .lsl g2 1 0 (lim m).length]] 2 (by simp [h1g, Ne.symm h1g, h2g, Ne.symm h2g]) ?_ (by simp [hg, hb1, hb2', h1g, h2g])
    rw [biC_sg]
    exact frz_pair hnn hb2' (by simp [h2g])
  · refine retRO [.agg [.bool (decide (0 < (lim m).length)), .lsl g2 1 0 (lim m).length]] 2 (by simp [h1g, Ne.symm h1g, h2g, Ne.symm h2g]) ?_ (by simp [hg, hb1, hb2', h1g, h2g])
    rw [biC_sg]
    exact frz_pair hnn hb2' (by simp [h2g])

theorem l04One_ro (n : Nat) : RO Tryz.prog 188 [.sl (iv (lim n))] (.bool (decide (n = 1))) := by
  refine ro_of2 Tryz.func188 rfl rfl (by rw [Tryz.ntmps188]; simp) fun bl => ?_
  rw [Tryz.ntmps188, Tryz.results188]
  refine AW_run ?_
  simp
  refine AW_way0 [(0, .sl (iv (lim n)))] _ bl 2 (.bool (decide (n = 1))) ⟨rfl, by simp, Sub.refl _⟩ rfl ?_ ?_
  · simp
    by_cases h : (lim n).length = 1
    · obtain ⟨k1, k2, k3⟩ := len1 h
      simp [h, lv_get n 0 (by omega), k1, eq_dec]
      rw [lim_at (by omega), k1]
      omega
    · have hn : n ≠ 1 := fun e => h (by rw [e, lim1]; rfl)
      have h2 : ¬ ((lim n).length : Int) = 1 := by omega
      simp [h, h2, hn]
  simp
  exact retRO0 (by simp) rfl rfl

theorem spec_RatOk_ro (r : RT) (hm : r.m.length ≤ 140737488351232) (hd : r.d.length ≤ 140737488351232) : RO Tryz.prog 159 [.agg r.c] (.bool (decide r.ok)) := by
  refine ro_of2 Tryz.func159 rfl rfl (by rw [Tryz.ntmps159]; simp) fun bl => ?_
  rw [Tryz.ntmps159, Tryz.results159]
  refine AW_run ?_
  simp [RT.c]
  intro g hg0 hg
  refine AW_way [(1, .loc g 3 0 0)] _ (upd bl g (some ⟨3, [[.bool r.neg, .sl (iv r.m), .sl (iv r.d)]]⟩)) 31 (.bool r.bad) (upd bl g (some ⟨3, [[.bool r.neg, .sl (iv r.m), .sl (iv r.d)]]⟩)) ⟨rfl, by simp, Sub.refl _⟩ rfl ?_ ?_
  · simp
    refine callP_ro (spec_BigIntOk_ro r.neg r.m hm) ?_
    simp [RT.bad]
    refine ⟨fun h => by simp [h], fun h => ?_⟩
    refine callP_ro (spec_NatOk_ro r.d hd) ?_
    simp [h]
    refine ⟨fun a => by simp [a], fun a => ⟨fun b => by simp [b], fun b => ⟨fun c => .inr (by omega), fun c => ?_⟩⟩⟩
    have c2 : ¬ 24 < r.d.length := by omega
    simp [a, b, c2]
    omega
  simp
  refine ⟨fun h => ?_, fun h => ?_⟩
  · refine retRO [.bool false] 0 (by simp) ?_ (by simp [hg])
    have : ¬ r.ok := fun hk => by have := (RT.ok_iff.1 hk).1; rw [h] at this; cases this
    simp [frz, this]
  · obtain ⟨l1, l2, l3, l4⟩ := RT.lims h
    rw [l1, l2]
    refine callP_ro (l02Gcd_ro (val r.m) (val r.d) (by rw [← l1]; omega) (by rw [← l2]; omega)) ?_
    simp
    refine callP_ro (l04One_ro _) ?_
    simp
    refine retRO [.bool (decide (Nat.gcd (val r.m) (val r.d) = 1))] 0 (by simp) ?_ (by simp [hg])
    simp [frz, RT.ok_iff, h]

/-- The sign of a fraction; 0 for none. -/
def sgq (x : Option Rat) : Int := match x with | some q => q.num.sign | none => 0
end Go.Proofs.YtmbcofnnibpbeaaGreat.Vm

namespace Go.Proofs.YtmbcofnnibpbeaaGreat.Vm
open Go Go.Proofs
set_option linter.unusedSimpArgs false
set_option linter.unusedVariables false

theorem bne_dec (a b : Int) : (a != b) = !decide (a = b) := by rw [Bool.eq_iff_iff]; simp
structure SP where
  lo : RT
  hi : RT
  nl : Bool
  nh : Bool
def SP.c (s : SP) : List V := [.bool s.lo.neg, .sl (iv s.lo.m), .sl (iv s.lo.d), .bool s.hi.neg, .sl (iv s.hi.m), .sl (iv s.hi.d), .bool s.nl, .bool s.nh]
/-- No list of a form is longer than that. -/
def RT.le (r : RT) (k : Nat) : Prop := r.m.length ≤ k ∧ r.d.length ≤ k
def SP.le (s : SP) (k : Nat) : Prop := s.lo.le k ∧ s.hi.le k
def spBad (s : SP) : Bool := match rd s.lo, rd s.hi with
  | some a, some b => (s.nl && decide (a.num.sign ≠ 0)) || (s.nh && decide (b.num.sign ≠ 0))
  | _, _ => true
def spFine (s : SP) : Bool := match rd s.lo, rd s.hi with
  | some a, some b => (s.nl || s.nh) || decide (cmpR a b ≤ 0)
  | _, _ => false
def spOk (s : SP) : Bool := !spBad s && spFine s
/-! ### Spans in the reference -/
end Go.Proofs.YtmbcofnnibpbeaaGreat.Vm

namespace Go.Proofs.YtmbcofnnibpbeaaGreat.Vm
open Go Go.Proofs
set_option linter.unusedSimpArgs false
set_option linter.unusedVariables false

theorem l03Add_ro (x y : Int) (hx : (lim x.natAbs).length ≤ 59) (hy : (lim y.natAbs).length ≤ 59) : RO Tryz.prog 213 [.agg (biC x), .agg (biC y)] (.agg (biC (x + y))) := by
  have hb := len_add hx hy
  refine ro_of2 Tryz.func213 rfl rfl (by rw [Tryz.ntmps213]; simp) fun bl => ?_
  rw [Tryz.ntmps213, Tryz.results213]
  refine AW_runA ?_
  rw [biC_def x, biC_def y]
  simp
  intro g hg0 hg g2 hg2 h2g hb2 g3 hg3 h32 h3g hb3
  refine AW_run ?_
  simp [h2g, Ne.symm h2g, h32, Ne.symm h32, h3g, Ne.symm h3g]
  refine ⟨fun hs => ?_, fun hs => ?_⟩
  · refine AW_mixedB mixedO (upd (upd bl g (some ⟨2, [[.bool (decide (x < 0)), .sl (iv (lim x.natAbs))]]⟩)) g2 (some ⟨2, [[.bool (decide (y < 0)), .sl (iv (lim y.natAbs))]]⟩)) (by simp [h32, h3g, hb3]) [0, 1, 2, 3, 4, 5, 6, 7] 1 (by kernel_rfl) ?_
    simp [h2g, Ne.symm h2g, h32, Ne.symm h32, h3g, Ne.symm h3g]
    refine hcQ_ro (l02Add_ro _ _ (by omega) (by omega)) ?_
    simp [h2g, Ne.symm h2g, h32, Ne.symm h32, h3g, Ne.symm h3g]
    refine hcQ_ro (l03Make_ro _ _ (by omega)) ?_
    simp [h2g, Ne.symm h2g, h32, Ne.symm h32, h3g, Ne.symm h3g]
    refine DAny_one (i := 8) (by kernel_rfl) rfl rfl ?_
    simp [h2g, Ne.symm h2g, h32, Ne.symm h32, h3g, Ne.symm h3g]
    refine ⟨by simp [h32, h3g, hb3], DAny_done (by kernel_rfl) ?_⟩
    rw [sg_add_same hs]
    simp [h2g, Ne.symm h2g, h32, Ne.symm h32, h3g, Ne.symm h3g]
    exact retRO [.agg (biC (x + y))] 1 (by simp [biC, h2g, Ne.symm h2g, h32, Ne.symm h32, h3g, Ne.symm h3g]) retAgg (by simp [hg, hb2, hb3])

  refine callP_ro (l02Cmp_ro _ _ (by omega) (by omega)) ?_
  simp [h2g, Ne.symm h2g, h32, Ne.symm h32, h3g, Ne.symm h3g, cmpN_ge]
  refine ⟨fun hle => ?_, fun hle => ?_⟩
  · refine AW_mixedB mixedO (upd (upd bl g (some ⟨2, [[.bool (decide (x < 0)), .sl (iv (lim x.natAbs))]]⟩)) g2 (some ⟨2, [[.bool (decide (y < 0)), .sl (iv (lim y.natAbs))]]⟩)) (by simp [h32, h3g, hb3]) [0, 1, 2, 3, 4, 5, 6, 7] 1 (by kernel_rfl) ?_
    simp [h2g, Ne.symm h2g, h32, Ne.symm h32, h3g, Ne.symm h3g]
    refine hcQ_ro (l02Sub_ro _ _ hle (by omega)) ?_
    simp [h2g, Ne.symm h2g, h32, Ne.symm h32, h3g, Ne.symm h3g]
    refine hcQ_ro (l03Make_ro _ _ (len_mono (Nat.sub_le _ _) (by omega))) ?_
    simp [h2g, Ne.symm h2g, h32, Ne.symm h32, h3g, Ne.symm h3g]
    refine DAny_one (i := 8) (by kernel_rfl) rfl rfl ?_
    simp [h2g, Ne.symm h2g, h32, Ne.symm h32, h3g, Ne.symm h3g]
    refine ⟨by simp [h32, h3g, hb3], DAny_done (by kernel_rfl) ?_⟩
    rw [sg_add_left hs hle]
    simp [h2g, Ne.symm h2g, h32, Ne.symm h32, h3g, Ne.symm h3g]
    exact retRO [.agg (biC (x + y))] 1 (by simp [biC, h2g, Ne.symm h2g, h32, Ne.symm h32, h3g, Ne.symm h3g]) retAgg (by simp [hg, hb2, hb3])

  · refine AW_mixedB mixedO (upd (upd bl g (some ⟨2, [[.bool (decide (x < 0)), .sl (iv (lim x.natAbs))]]⟩)) g2 (some ⟨2, [[.bool (decide (y < 0)), .sl (iv (lim y.natAbs))]]⟩)) (by simp [h32, h3g, hb3]) [0, 1, 2, 3, 4, 5, 6, 7] 1 (by kernel_rfl) ?_
    simp [h2g, Ne.symm h2g, h32, Ne.symm h32, h3g, Ne.symm h3g]
    refine hcQ_ro (l02Sub_ro _ _ (by omega) (by omega)) ?_
    simp [h2g, Ne.symm h2g, h32, Ne.symm h32, h3g, Ne.symm h3g]
    refine hcQ_ro (l03Make_ro _ _ (len_mono (Nat.sub_le _ _) (by omega))) ?_
    simp [h2g, Ne.symm h2g, h32, Ne.symm h32, h3g, Ne.symm h3g]
    refine DAny_one (i := 8) (by kernel_rfl) rfl rfl ?_
    simp [h2g, Ne.symm h2g, h32, Ne.symm h32, h3g, Ne.symm h3g]
    refine ⟨by simp [h32, h3g, hb3], DAny_done (by kernel_rfl) ?_⟩
    rw [sg_add_left (x := y) (y := x) (fun hh => hs ⟨hh.2, hh.1⟩) (by omega), Int.add_comm y x]
    simp [h2g, Ne.symm h2g, h32, Ne.symm h32, h3g, Ne.symm h3g]
    exact retRO [.agg (biC (x + y))] 1 (by simp [biC, h2g, Ne.symm h2g, h32, Ne.symm h32, h3g, Ne.symm h3g]) retAgg (by simp [hg, hb2, hb3])

/-- What the reference makes of a sign, a numerator and a denominator. -/
def lowQ (neg : Bool) (a b : Nat) : Option Rat := if b = 0 then none else fit (mkRat (sg neg a) b)
theorem lowQ_ok (neg : Bool) (a b : Nat) : okQ (lowQ neg a b) := by
  unfold lowQ; split
  · intro q h; cases h
  · exact okQ_fit _
theorem frz_rat {bl bl0 : Int → Option Blk} {g : Int} {ns ms : List Int} {b : Bool} (h0 : 0 ≤ g ∨ ns = []) (hg : bl0 g = none) (hb : bl g = some ⟨1, iv ns⟩) : frz (dropB bl bl0) 2 (.agg [.bool b, .sl (iv ms), .lsl g 1 0 ns.length]) = some (.agg [.bool b, .sl (iv ms), .sl (iv ns)]) := by
  have h1 := frz_any h0 hg hb
  have h2 : frz (dropB bl bl0) 1 (.bool b) = some (.bool b) := by simp [frz]
  have h3 : frz (dropB bl bl0) 1 (.sl (iv ms)) = some (.sl (iv ms)) := by simp [frz]
  rw [frz_agg]
  simp only [List.mapM_cons, List.mapM_nil, h1, h2, h3]
  rfl
theorem rq_low (neg : Bool) (a b : Nat) (hb : b ≠ 0) : (rq (mkRat (sg neg a) b)).c = biC (sg neg (a / Nat.gcd a b)) ++ [.sl (iv (lim (b / Nat.gcd a b)))] := by
  have hg : 0 < Nat.gcd a b := Nat.gcd_pos_of_pos_right _ (by omega)
  rw [rq_mk _ hb, RT.c, sg_abs, biC_def, sg_abs]
  simp only [List.cons_append, List.nil_append]
  rw [sg_neg, sg_neg]
  have : (0 < a / Nat.gcd a b) ↔ 0 < a := by
    constructor
    · intro h; rcases Nat.eq_zero_or_pos a with h0 | h0
      · rw [h0] at h; simp at h
      · exact h0
    · intro h; exact Nat.div_pos (Nat.gcd_le_left _ h) hg
  rw [decide_eq_decide.2 this]
theorem l04Low_ro (neg : Bool) (a b : Nat) (ha : (lim a).length ≤ 60) (hb : (lim b).length ≤ 60) : RO Tryz.prog 175 [.bool neg, .sl (iv (lim a)), .sl (iv (lim b))] (.agg (ro (lowQ neg a b)).c) := by
  have hall : ∀ m, ((iv (lim m)).all fun c => c.length == 1 && c.all V.one) = true := fun m => by simp [iv]
  refine ro_of2 Tryz.func175 rfl rfl (by rw [Tryz.ntmps175]; simp) fun bl => ?_
  rw [Tryz.ntmps175, Tryz.results175]
  refine AW_runA ?_
  simp
  intro g hg0 hg
  refine AW_runA ?_
  simp
  refine callP_ro (l02Trim_ro (lim a) (lim_dig a) (by omega)) ?_
  rw [val_lim]
  simp
  refine AW_runA ?_
  simp
  refine callP_ro (l02Trim_ro (lim b) (lim_dig b) (by omega)) ?_
  rw [val_lim]
  simp
  refine AW_runA ?_
  simp
  refine ⟨fun h => ?_, fun h => ?_⟩
  · have hb0 : b = 0 := by simpa [lim_nil] using h
    exact retRO [.agg [.bool false, .nils, .nils]] 1 (by simp) (by simp [frz, lowQ, hb0, ro, rz, RT.c, V.cl, iv]) (by simp [hg])
  have hb0 : b ≠ 0 := fun e => h (by rw [e, lim_zero])
  have hg1 := Nat.gcd_pos_of_pos_right a (show 0 < b by omega)
  refine AW_mid (fun _ : Unit => [(0, .bool neg), (6, .loc g 3 0 0), (7, .sl (iv (lim (a / Nat.gcd a b)))), (8, .sl (iv (lim (b / Nat.gcd a b))))]) (fun _ => upd bl g (some ⟨3, [[.bool false, .nils, .nils]]⟩)) (fun _ => True) 55 ?_ ?_
  · refine AW_run ?_
    simp
    refine callP_ro (l04One_ro _) ?_
    simp
    refine ⟨fun h1 => ?_, fun h1 => ?_⟩
    · refine callP_ro (l02Gcd_ro _ _ (by omega) (by omega)) ?_
      simp
      refine callP_ro (l04One_ro _) ?_
      simp
      refine ⟨fun h2 => ?_, fun h2 => ?_⟩
      · have hgl := gcd_len ha hb
        refine callP_ro (l02Div_ro a (Nat.gcd a b) hg1 (by omega) (by omega)) ?_
        simp
        refine callP_ro (l02Div_ro b (Nat.gcd a b) hg1 (by omega) (by omega)) ?_
        simp [midQ_normal]
        exact ⟨rfl, by simp, Sub.refl _⟩
      · simp [midQ_normal]
        exact ⟨rfl, by simp [h2], Sub.refl _⟩
    · have h2 : Nat.gcd a b = 1 := by rw [h1]; exact Nat.gcd_one_right a
      simp [midQ_normal]
      exact ⟨rfl, by simp [h2], Sub.refl _⟩
  intro _ _
  have e2 := rq_low neg a b hb0
  have hx : (lim (a / Nat.gcd a b)).length ≤ 60 := len_mono (Nat.div_le_self _ _) ha
  have hy : (lim (b / Nat.gcd a b)).length ≤ 60 := len_mono (Nat.div_le_self _ _) hb
  have hr : ro (lowQ neg a b) = if (lim (a / Nat.gcd a b)).length ≤ 24 ∧ (lim (b / Nat.gcd a b)).length ≤ 24 then rq (mkRat (sg neg a) b) else rz := by
    have e3 := rq_mk (sg neg a) hb0
    have e4 : fits (mkRat (sg neg a) b) ↔ (lim (a / Nat.gcd a b)).length ≤ 24 ∧ (lim (b / Nat.gcd a b)).length ≤ 24 := by
      have e5 := congrArg RT.m e3
      have e6 := congrArg RT.d e3
      simp only [rq, sg_abs] at e5 e6
      unfold fits
      rw [e5, e6]
    unfold lowQ fit
    rw [if_neg hb0]
    by_cases hf : fits (mkRat (sg neg a) b)
    · rw [if_pos hf, if_pos (e4.1 hf)]; rfl
    · rw [if_neg hf, if_neg (fun h => hf (e4.2 h))]; rfl
  obtain ⟨x, ex⟩ : ∃ x, a / Nat.gcd a b = x := ⟨_, rfl⟩
  obtain ⟨y, ey⟩ : ∃ y, b / Nat.gcd a b = y := ⟨_, rfl⟩
  rw [ex, ey] at hr e2
  rw [ex] at hx
  rw [ey] at hy
  rw [ex, ey, hr]
  refine AW_run ?_
  simp
  refine AW_way [(0, .bool neg), (6, .loc g 3 0 0), (7, .sl (iv (lim x))), (8, .sl (iv (lim y)))] _ _ 46 (.bool (!decide ((lim x).length ≤ 24 ∧ (lim y).length ≤ 24))) (upd bl g (some ⟨3, [[.bool false, .nils, .nils]]⟩)) ⟨rfl, by simp, Sub.refl _⟩ rfl ?_ ?_
  · simp
    refine ⟨fun h => ?_, fun h => ?_⟩
    · omega
    · rw [Bool.eq_iff_iff]
      simp
      omega
  by_cases hc : (lim x).length ≤ 24 ∧ (lim y).length ≤ 24
  · simp only [hc, and_self, decide_true, Bool.not_true, if_true]
    simp
    refine callP_ro (l03Make_ro neg x (by omega)) ?_
    simp
    intro g1 hg1 h1g hb1
    simp [h1g, Ne.symm h1g, appV, elsV, Int.not_lt.2 hg1, hall]
    refine ⟨by omega, fun g2 hg2 hb2 => ?_⟩
    have h2g : g2 ≠ g := by grind
    have hb2' : bl g2 = none := by grind
    have hnn : 0 ≤ g2 ∨ lim y = [] := hg2.imp id (fun h => by simpa [iv] using h)
    simp [h1g, Ne.symm h1g, h2g, Ne.symm h2g, biC_def, sg_abs]
    refine retRO [.agg [.bool (decide (sg neg x < 0)), .sl (iv (lim x)), .lsl g2 1 0 (lim y).length]] 2 (by simp [h1g, Ne.symm h1g, h2g, Ne.symm h2g]) ?_ (by simp [hg, hb1, hb2', h1g, h2g])
    rw [e2, biC_def, sg_abs]
    exact frz_rat hnn hb2' (by simp [h2g])
  · simp only [hc, decide_false, Bool.not_false, if_false]
    simp
    exact retRO [.agg [.bool false, .nils, .nils]] 1 (by simp) (by simp [frz, rz, RT.c, V.cl, iv]) (by simp [hg])

/-! ### Numerators and denominators of what may be none -/
def nm (x : Option Rat) : Int := match x with | some q => q.num | none => 0
def dn (x : Option Rat) : Nat := match x with | some q => q.den | none => 0
theorem ro_c (x : Option Rat) : (ro x).c = [.bool (decide (nm x < 0)), .sl (iv (lim (nm x).natAbs)), .sl (iv (lim (dn x)))] := by
  cases x
  · show rz.c = _
    rw [show nm none = 0 from rfl, show dn none = 0 from rfl, Int.natAbs_zero, lim_zero]; rfl
  · rfl
theorem okQ_len {x : Option Rat} (h : okQ x) : (lim (nm x).natAbs).length ≤ 24 ∧ (lim (dn x)).length ≤ 24 := by
  cases x with
  | none => rw [show nm none = 0 from rfl, show dn none = 0 from rfl, Int.natAbs_zero, lim_zero]; simp
  | some q => exact h q rfl
theorem okQ_neg {x : Option Rat} (h : okQ x) : okQ (x.map (- ·)) := by
  intro q hq
  cases x with
  | none => cases hq
  | some a =>
    cases hq
    have := h a rfl
    unfold fits at this ⊢
    rw [show (-a).num = -a.num from rfl, show (-a).den = a.den from rfl, Int.natAbs_neg]; exact this
theorem nm_neg (x : Option Rat) : nm (x.map (- ·)) = - nm x := by cases x with | none => rfl | some q => rfl
theorem dn_neg (x : Option Rat) : dn (x.map (- ·)) = dn x := by cases x with | none => rfl | some q => rfl

theorem l04Neg_ro (x : Option Rat) (hx : okQ x) : RO Tryz.prog 106 [.agg (ro x).c] (.agg (ro (x.map (- ·))).c) := by
  obtain ⟨hm, hd⟩ := okQ_len hx
  have hall : ∀ m, ((iv (lim m)).all fun c => c.length == 1 && c.all V.one) = true := fun m => by simp [iv]
  refine ro_of2 Tryz.func106 rfl rfl (by rw [Tryz.ntmps106]; simp) fun bl => ?_
  rw [Tryz.ntmps106, Tryz.results106]
  refine AW_runA ?_
  rw [ro_c x]
  simp
  intro g hg0 hg g2 hg2 h2g hb2
  refine AW_run ?_
  simp
  refine AW_mixedB mixedO (upd bl g (some ⟨3, [[.bool (decide (nm x < 0)), .sl (iv (lim (nm x).natAbs)), .sl (iv (lim (dn x)))]]⟩)) (by simp [h2g, hb2]) [0, 1, 2, 3, 4, 5, 6, 7, 9, 10] 4 (by kernel_rfl) ?_
  simp [h2g, Ne.symm h2g]
  refine hcQ_ro (l03Make_ro _ _ (by omega)) ?_
  rw [sg_opp]
  simp [h2g, Ne.symm h2g]
  refine DAny_one (i := 8) (by kernel_rfl) rfl rfl ?_
  simp [h2g, Ne.symm h2g]
  intro g3 hg3 h32 h3g hb3
  refine ⟨by simp [h2g, Ne.symm h2g, hb2, h3g, h32, hb3], DAny_one (i := 11) (by kernel_rfl) rfl rfl ?_⟩
  simp [h2g, Ne.symm h2g, h3g, Ne.symm h3g, h32, Ne.symm h32, appV, elsV, Int.not_lt.2 hg3, hall]
  refine ⟨by omega, fun g4 hg4 hb4 => ?_⟩
  have h4g : g4 ≠ g := by grind
  have h42 : g4 ≠ g2 := by grind
  have hb4' : bl g4 = none := by grind
  have hnn : 0 ≤ g4 ∨ lim (dn x) = [] := hg4.imp id (fun h => by simpa [iv] using h)
  refine ⟨by simp [h2g, Ne.symm h2g, hb2, h3g, h32, hb3, h4g, h42, hb4'], DAny_one (i := 12) (by kernel_rfl) rfl rfl ?_⟩
  simp [h2g, Ne.symm h2g, h3g, Ne.symm h3g, h32, Ne.symm h32, h4g, Ne.symm h4g, h42, Ne.symm h42, biC_def]
  refine ⟨by simp [h2g, Ne.symm h2g, hb2, h3g, h32, hb3, h4g, h42, hb4'], DAny_one (i := 13) (by kernel_rfl) rfl rfl ?_⟩
  simp [h2g, Ne.symm h2g, h3g, Ne.symm h3g, h32, Ne.symm h32, h4g, Ne.symm h4g, h42, Ne.symm h42]
  refine ⟨by simp [h2g, Ne.symm h2g, hb2, h3g, h32, hb3, h4g, h42, hb4'], DAny_done (by kernel_rfl) ?_⟩
  simp
  refine retRO [.agg [.bool (decide (-nm x < 0)), .sl (iv (lim (nm x).natAbs)), .lsl g4 1 0 (lim (dn x)).length]] 2 (by simp [h2g, Ne.symm h2g, h4g, Ne.symm h4g, h42, Ne.symm h42]) ?_ (by simp [hg, hb2, hb3, hb4', h2g, h4g, h42])
  rw [ro_c, nm_neg, dn_neg, Int.natAbs_neg]
  exact frz_rat hnn hb4' (by simp [h4g, h42])

theorem l04Mul_ro (x y : Option Rat) (hx : okQ x) (hy : okQ y) : RO Tryz.prog 200 [.agg (ro x).c, .agg (ro y).c] (.agg (ro (op2 (· * ·) x y)).c) := by
  obtain ⟨hm, hd⟩ := okQ_len hx
  obtain ⟨hm2, hd2⟩ := okQ_len hy
  have n1 := len_mul hm hm2
  have n2 := len_mul hd hd2
  have e : lowQ (decide (nm x < 0) != decide (nm y < 0)) ((nm x).natAbs * (nm y).natAbs) (dn x * dn y) = op2 (· * ·) x y := by
    unfold lowQ op2
    rw [sg_mul]
    cases x with
    | none => simp [dn]
    | some a =>
      cases y with
      | none => simp [dn]
      | some b =>
        rw [if_neg (show ¬ dn (some a) * dn (some b) = 0 from Nat.mul_ne_zero a.den_nz b.den_nz)]
        simp only [nm, dn]
        rw [← Rat.mul_def']
  refine ro_of2 Tryz.func200 rfl rfl (by rw [Tryz.ntmps200]; simp) fun bl => ?_
  rw [Tryz.ntmps200, Tryz.results200]
  refine AW_runA ?_
  rw [ro_c x, ro_c y]
  simp
  intro g hg0 hg g2 hg2 h2g hb2 g3 hg3 h32 h3g hb3
  refine AW_run ?_
  simp
  refine AW_mixedB mixedO (upd (upd bl g (some ⟨3, [[.bool (decide (nm x < 0)), .sl (iv (lim (nm x).natAbs)), .sl (iv (lim (dn x)))]]⟩)) g2 (some ⟨3, [[.bool (decide (nm y < 0)), .sl (iv (lim (nm y).natAbs)), .sl (iv (lim (dn y)))]]⟩)) (by simp [h32, h3g, hb3]) [0, 1, 2, 3, 4, 5, 6, 7, 8, 9, 10, 11, 12, 13, 14, 15, 16, 17, 18, 19] 1 (by kernel_rfl) ?_
  simp [h2g, Ne.symm h2g, h32, Ne.symm h32, h3g, Ne.symm h3g]
  refine hcQ_ro (l02Mul_ro _ _ (by omega) (by omega)) ?_
  simp [h2g, Ne.symm h2g, h32, Ne.symm h32, h3g, Ne.symm h3g]
  refine hcQ_ro (l02Mul_ro _ _ (by omega) (by omega)) ?_
  simp [h2g, Ne.symm h2g, h32, Ne.symm h32, h3g, Ne.symm h3g]
  refine hcQ_ro (l04Low_ro _ _ _ (by omega) (by omega)) ?_
  rw [e]
  simp [h2g, Ne.symm h2g, h32, Ne.symm h32, h3g, Ne.symm h3g]
  refine DAny_one (i := 20) (by kernel_rfl) rfl rfl ?_
  rw [ro_c (op2 _ x y)]
  simp [h2g, Ne.symm h2g, h32, Ne.symm h32, h3g, Ne.symm h3g]
  refine ⟨by simp [h32, h3g, hb3], DAny_done (by kernel_rfl) ?_⟩
  simp [h2g, Ne.symm h2g, h32, Ne.symm h32, h3g, Ne.symm h3g]
  exact retRO [.agg (ro (op2 (· * ·) x y)).c] 1 (by rw [ro_c (op2 _ x y)]; simp [h2g, Ne.symm h2g, h32, Ne.symm h32, h3g, Ne.symm h3g]) (by rw [ro_c (op2 _ x y)]; simp [frz, V.cl]) (by simp [hg, hb2, hb3])

theorem l04Add_ro (x y : Option Rat) (hx : okQ x) (hy : okQ y) : RO Tryz.prog 212 [.agg (ro x).c, .agg (ro y).c] (.agg (ro (op2 (· + ·) x y)).c) := by
  obtain ⟨hm, hd⟩ := okQ_len hx
  obtain ⟨hm2, hd2⟩ := okQ_len hy
  have n1 := len_mul hm hd2
  have n2 := len_mul hm2 hd
  have n3 := len_mul hd hd2
  have e0 : ∀ (a : Int) (b : Nat), sg (decide (a < 0)) (a.natAbs * b) = a * b := fun a b => by
    have := sg_mul a b
    have h0 : decide (((b : Nat) : Int) < 0) = false := decide_eq_false (by omega)
    rw [h0, Bool.bne_false, Int.natAbs_natCast] at this
    exact this
  have e : ∀ n : Int, n = nm x * dn y + nm y * dn x → lowQ (decide (n < 0)) n.natAbs (dn x * dn y) = op2 (· + ·) x y := fun n hn => by
    unfold lowQ op2
    rw [sg_self, hn]
    cases x with
    | none => simp [dn]
    | some a =>
      cases y with
      | none => simp [dn]
      | some b =>
        rw [if_neg (show ¬ dn (some a) * dn (some b) = 0 from Nat.mul_ne_zero a.den_nz b.den_nz)]
        simp only [nm, dn]
        rw [← Rat.add_def']
  have o1 := l04One_ro (dn x)
  have o2 := l04One_ro (dn y)
  refine ro_of2 Tryz.func212 rfl rfl (by rw [Tryz.ntmps212]; simp) fun bl => ?_
  rw [Tryz.ntmps212, Tryz.results212]
  refine AW_runA ?_
  rw [ro_c x, ro_c y]
  simp
  intro g hg0 hg g2 hg2 h2g hb2 g3 hg3 h32 h3g hb3
  refine AW_run ?_
  simp
  refine AW_way [(2, .loc g 3 0 0), (3, .loc g2 3 0 0), (4, .loc g3 3 0 0)] _ _ 16 (.bool (decide (dn x = 1) && decide (dn y = 1))) (upd (upd (upd bl g (some ⟨3, [[.bool (decide (nm x < 0)), .sl (iv (lim (nm x).natAbs)), .sl (iv (lim (dn x)))]]⟩)) g2 (some ⟨3, [[.bool (decide (nm y < 0)), .sl (iv (lim (nm y).natAbs)), .sl (iv (lim (dn y)))]]⟩)) g3 (some ⟨3, [[.bool false, .nils, .nils]]⟩)) ⟨rfl, by simp, Sub.refl _⟩ rfl ?_ ?_
  · simp [h2g, Ne.symm h2g, h32, Ne.symm h32, h3g, Ne.symm h3g]
    refine callP_ro o1 ?_
    simp [h2g, Ne.symm h2g, h32, Ne.symm h32, h3g, Ne.symm h3g]
    refine ⟨fun h => ?_, fun h => ?_⟩
    · refine callP_ro o2 ?_
      simp [h]
    · simp [h]
  have w : ro (op2 (· + ·) x y) = ro (op2 (· + ·) x y) := rfl
  by_cases hone : dn x = 1 ∧ dn y = 1
  · have e1 := e (nm x + nm y) (by rw [hone.1, hone.2]; simp)
    rw [hone.1, hone.2] at e1
    have l1 : (lim (nm x + nm y).natAbs).length ≤ 25 := len_mono (Int.natAbs_add_le _ _) (len_add hm hm2)
    simp [hone.1, hone.2, h2g, Ne.symm h2g, h32, Ne.symm h32, h3g, Ne.symm h3g]
    refine callP_ro (l03Add_ro (nm x) (nm y) (by omega) (by omega)) ?_
    simp [h2g, Ne.symm h2g, h32, Ne.symm h32, h3g, Ne.symm h3g]
    intro g4 hg4
    intros
    have h4g : ¬ g4 = g := by assumption
    have h42 : ¬ g4 = g2 := by assumption
    have h43 : ¬ g4 = g3 := by assumption
    have hb4 : bl g4 = none := by assumption
    simp [h2g, Ne.symm h2g, h32, Ne.symm h32, h3g, Ne.symm h3g, h4g, Ne.symm h4g, h42, Ne.symm h42, h43, Ne.symm h43, biC_def]
    intro g5 hg5
    intros
    have h5g : ¬ g5 = g := by assumption
    have h52 : ¬ g5 = g2 := by assumption
    have h53 : ¬ g5 = g3 := by assumption
    have h54 : ¬ g5 = g4 := by assumption
    have hb5 : bl g5 = none := by assumption
    refine callP_gro 1 (upd (upd (upd (upd bl g (some ⟨3, [[.bool (decide (nm x < 0)), .sl (iv (lim (nm x).natAbs)), .sl (iv (lim 1))]]⟩)) g2 (some ⟨3, [[.bool (decide (nm y < 0)), .sl (iv (lim (nm y).natAbs)), .sl (iv (lim 1))]]⟩)) g3 (some ⟨3, [[.bool false, .nils, .nils]]⟩)) g4 (some ⟨2, [[.bool (decide (nm x + nm y < 0)), .sl (iv (lim (nm x + nm y).natAbs))]]⟩)) [.bool (decide (nm x + nm y < 0)), .sl (iv (lim (nm x + nm y).natAbs)), .sl (iv (lim 1))] (by simp [h2g, Ne.symm h2g, h32, Ne.symm h32, h3g, Ne.symm h3g, h4g, Ne.symm h4g, h42, Ne.symm h42, h43, Ne.symm h43, h5g, Ne.symm h5g, h52, Ne.symm h52, h53, Ne.symm h53, h54, Ne.symm h54, hb5]) (by simp [frz, dropB, V.cl, lim1, iv, Int.not_lt.2 hg5, h2g, Ne.symm h2g, h32, Ne.symm h32, h3g, Ne.symm h3g, h4g, Ne.symm h4g, h42, Ne.symm h42, h43, Ne.symm h43, h5g, Ne.symm h5g, h52, Ne.symm h52, h53, Ne.symm h53, h54, Ne.symm h54, hb5]) (l04Low_ro _ _ 1 (by omega) (by rw [lim1]; simp)) ?_
    rw [show lowQ (decide (nm x + nm y < 0)) (nm x + nm y).natAbs 1 = op2 (· + ·) x y from e1, ro_c (op2 _ x y)]
    simp [h2g, Ne.symm h2g, h32, Ne.symm h32, h3g, Ne.symm h3g, h4g, Ne.symm h4g, h42, Ne.symm h42, h43, Ne.symm h43, h5g, Ne.symm h5g, h52, Ne.symm h52, h53, Ne.symm h53, h54, Ne.symm h54]
    exact retRO [.agg (ro (op2 (· + ·) x y)).c] 1 (by rw [ro_c (op2 _ x y)]; simp [h2g, Ne.symm h2g, h32, Ne.symm h32, h3g, Ne.symm h3g, h4g, Ne.symm h4g, h42, Ne.symm h42, h43, Ne.symm h43, h5g, Ne.symm h5g, h52, Ne.symm h52, h53, Ne.symm h53, h54, Ne.symm h54]) (by rw [ro_c (op2 _ x y)]; simp [frz, V.cl]) (by simp [hg, hb2, hb3, hb4, hb5])
  · have hone2 : (decide (dn x = 1) && decide (dn y = 1)) = false := by
      rw [Bool.eq_false_iff]; simpa using hone
    rw [hone2]
    simp
    refine AW_mixedB mixedO (upd (upd (upd bl g (some ⟨3, [[.bool (decide (nm x < 0)), .sl (iv (lim (nm x).natAbs)), .sl (iv (lim (dn x)))]]⟩)) g2 (some ⟨3, [[.bool (decide (nm y < 0)), .sl (iv (lim (nm y).natAbs)), .sl (iv (lim (dn y)))]]⟩)) g3 (some ⟨3, [[.bool false, .nils, .nils]]⟩)) (Sub.refl _) [0, 1, 2, 3, 4, 5, 6, 7, 8, 9] 2 (by kernel_rfl) ?_
    simp [h2g, Ne.symm h2g, h32, Ne.symm h32, h3g, Ne.symm h3g]
    refine hcQ_ro (l02Mul_ro _ _ (by omega) (by omega)) ?_
    simp [h2g, Ne.symm h2g, h32, Ne.symm h32, h3g, Ne.symm h3g]
    refine hcQ_ro (l03Make_ro _ _ (by omega)) ?_
    rw [e0]
    simp [h2g, Ne.symm h2g, h32, Ne.symm h32, h3g, Ne.symm h3g]
    refine DAny_one (i := 10) (by kernel_rfl) rfl rfl ?_
    simp [h2g, Ne.symm h2g, h32, Ne.symm h32, h3g, Ne.symm h3g]
    intro g4 hg4
    intros
    have h4g : ¬ g4 = g := by assumption
    have h42 : ¬ g4 = g2 := by assumption
    have h43 : ¬ g4 = g3 := by assumption
    have hb4 : bl g4 = none := by assumption
    refine ⟨by simp [h2g, Ne.symm h2g, h32, Ne.symm h32, h3g, Ne.symm h3g, h4g, Ne.symm h4g, h42, Ne.symm h42, h43, Ne.symm h43, hb2, hb3, hb4], DAny_one (i := 11) (by kernel_rfl) rfl rfl ?_⟩
    simp [h2g, Ne.symm h2g, h32, Ne.symm h32, h3g, Ne.symm h3g, h4g, Ne.symm h4g, h42, Ne.symm h42, h43, Ne.symm h43, biC_def]
    refine ⟨by simp [h2g, Ne.symm h2g, h32, Ne.symm h32, h3g, Ne.symm h3g, h4g, Ne.symm h4g, h42, Ne.symm h42, h43, Ne.symm h43, hb2, hb3, hb4], DAny_done (by kernel_rfl) ?_⟩
    simp [h2g, Ne.symm h2g, h32, Ne.symm h32, h3g, Ne.symm h3g, h4g, Ne.symm h4g, h42, Ne.symm h42, h43, Ne.symm h43]
    refine AW_run ?_
    refine AW_mixedB mixedO (upd (upd (upd (upd bl g (some ⟨3, [[.bool (decide (nm x < 0)), .sl (iv (lim (nm x).natAbs)), .sl (iv (lim (dn x)))]]⟩)) g2 (some ⟨3, [[.bool (decide (nm y < 0)), .sl (iv (lim (nm y).natAbs)), .sl (iv (lim (dn y)))]]⟩)) g3 (some ⟨3, [[.bool false, .nils, .nils]]⟩)) g4 (some ⟨2, [[.bool (decide (nm x * dn y < 0)), .sl (iv (lim (nm x * dn y).natAbs))]]⟩)) (Sub.refl _) [0, 1, 2, 3, 4, 5, 6, 7, 8, 9] 2 (by kernel_rfl) ?_
    simp [h2g, Ne.symm h2g, h32, Ne.symm h32, h3g, Ne.symm h3g, h4g, Ne.symm h4g, h42, Ne.symm h42, h43, Ne.symm h43]
    refine hcQ_ro (l02Mul_ro _ _ (by omega) (by omega)) ?_
    simp [h2g, Ne.symm h2g, h32, Ne.symm h32, h3g, Ne.symm h3g, h4g, Ne.symm h4g, h42, Ne.symm h42, h43, Ne.symm h43]
    refine hcQ_ro (l03Make_ro _ _ (by omega)) ?_
    rw [e0]
    simp [h2g, Ne.symm h2g, h32, Ne.symm h32, h3g, Ne.symm h3g, h4g, Ne.symm h4g, h42, Ne.symm h42, h43, Ne.symm h43]
    refine DAny_one (i := 10) (by kernel_rfl) rfl rfl ?_
    simp [h2g, Ne.symm h2g, h32, Ne.symm h32, h3g, Ne.symm h3g, h4g, Ne.symm h4g, h42, Ne.symm h42, h43, Ne.symm h43]
    intro g5 hg5
    intros
    have h5g : ¬ g5 = g := by assumption
    have h52 : ¬ g5 = g2 := by assumption
    have h53 : ¬ g5 = g3 := by assumption
    have h54 : ¬ g5 = g4 := by assumption
    have hb5 : bl g5 = none := by assumption
    refine ⟨by simp [h2g, Ne.symm h2g, h32, Ne.symm h32, h3g, Ne.symm h3g, h4g, Ne.symm h4g, h42, Ne.symm h42, h43, Ne.symm h43, h5g, Ne.symm h5g, h52, Ne.symm h52, h53, Ne.symm h53, h54, Ne.symm h54, hb2, hb3, hb4, hb5], DAny_one (i := 11) (by kernel_rfl) rfl rfl ?_⟩
    simp [h2g, Ne.symm h2g, h32, Ne.symm h32, h3g, Ne.symm h3g, h4g, Ne.symm h4g, h42, Ne.symm h42, h43, Ne.symm h43, h5g, Ne.symm h5g, h52, Ne.symm h52, h53, Ne.symm h53, h54, Ne.symm h54, biC_def]
    refine ⟨by simp [h2g, Ne.symm h2g, h32, Ne.symm h32, h3g, Ne.symm h3g, h4g, Ne.symm h4g, h42, Ne.symm h42, h43, Ne.symm h43, h5g, Ne.symm h5g, h52, Ne.symm h52, h53, Ne.symm h53, h54, Ne.symm h54, hb2, hb3, hb4, hb5], DAny_done (by kernel_rfl) ?_⟩
    simp [h2g, Ne.symm h2g, h32, Ne.symm h32, h3g, Ne.symm h3g, h4g, Ne.symm h4g, h42, Ne.symm h42, h43, Ne.symm h43, h5g, Ne.symm h5g, h52, Ne.symm h52, h53, Ne.symm h53, h54, Ne.symm h54]
    refine callP_ro (l03Add_ro (nm x * dn y) (nm y * dn x) (by rw [Int.natAbs_mul, Int.natAbs_natCast]; omega) (by rw [Int.natAbs_mul, Int.natAbs_natCast]; omega)) ?_
    simp [h2g, Ne.symm h2g, h32, Ne.symm h32, h3g, Ne.symm h3g, h4g, Ne.symm h4g, h42, Ne.symm h42, h43, Ne.symm h43, h5g, Ne.symm h5g, h52, Ne.symm h52, h53, Ne.symm h53, h54, Ne.symm h54, biC_def]
    intro g6 hg6
    intros
    have h6g : ¬ g6 = g := by assumption
    have h62 : ¬ g6 = g2 := by assumption
    have h63 : ¬ g6 = g3 := by assumption
    have h64 : ¬ g6 = g4 := by assumption
    have h65 : ¬ g6 = g5 := by assumption
    have hb6 : bl g6 = none := by assumption
    try simp [h2g, Ne.symm h2g, h32, Ne.symm h32, h3g, Ne.symm h3g, h4g, Ne.symm h4g, h42, Ne.symm h42, h43, Ne.symm h43, h5g, Ne.symm h5g, h52, Ne.symm h52, h53, Ne.symm h53, h54, Ne.symm h54, h6g, Ne.symm h6g, h62, Ne.symm h62, h63, Ne.symm h63, h64, Ne.symm h64, h65, Ne.symm h65]
    refine AW_run ?_
    refine AW_mixedB mixedO (upd (upd (upd (upd (upd bl g (some ⟨3, [[.bool (decide (nm x < 0)), .sl (iv (lim (nm x).natAbs)), .sl (iv (lim (dn x)))]]⟩)) g2 (some ⟨3, [[.bool (decide (nm y < 0)), .sl (iv (lim (nm y).natAbs)), .sl (iv (lim (dn y)))]]⟩)) g4 (some ⟨2, [[.bool (decide (nm x * dn y < 0)), .sl (iv (lim (nm x * dn y).natAbs))]]⟩)) g5 (some ⟨2, [[.bool (decide (nm y * dn x < 0)), .sl (iv (lim (nm y * dn x).natAbs))]]⟩)) g6 (some ⟨2, [[.bool (decide (nm x * dn y + nm y * dn x < 0)), .sl (iv (lim (nm x * dn y + nm y * dn x).natAbs))]]⟩)) (by intro z b hz; simp only [upd_apply] at hz ⊢; grind) [0, 1, 2, 3, 4, 5, 6, 7, 8, 9] 1 (by kernel_rfl) ?_
    simp [h2g, Ne.symm h2g, h32, Ne.symm h32, h3g, Ne.symm h3g, h4g, Ne.symm h4g, h42, Ne.symm h42, h43, Ne.symm h43, h5g, Ne.symm h5g, h52, Ne.symm h52, h53, Ne.symm h53, h54, Ne.symm h54, h6g, Ne.symm h6g, h62, Ne.symm h62, h63, Ne.symm h63, h64, Ne.symm h64, h65, Ne.symm h65]
    refine hcQ_ro (l02Mul_ro _ _ (by omega) (by omega)) ?_
    simp [h2g, Ne.symm h2g, h32, Ne.symm h32, h3g, Ne.symm h3g, h4g, Ne.symm h4g, h42, Ne.symm h42, h43, Ne.symm h43, h5g, Ne.symm h5g, h52, Ne.symm h52, h53, Ne.symm h53, h54, Ne.symm h54, h6g, Ne.symm h6g, h62, Ne.symm h62, h63, Ne.symm h63, h64, Ne.symm h64, h65, Ne.symm h65]
    refine hcQ_ro (l04Low_ro _ _ _ ?_ (by omega)) ?_
    · exact len_mono (Int.natAbs_add_le _ _) (by rw [Int.natAbs_mul, Int.natAbs_mul, Int.natAbs_natCast, Int.natAbs_natCast]; have := len_add n1 n2; omega)
    rw [e _ rfl, ro_c (op2 _ x y)]
    simp [h2g, Ne.symm h2g, h32, Ne.symm h32, h3g, Ne.symm h3g, h4g, Ne.symm h4g, h42, Ne.symm h42, h43, Ne.symm h43, h5g, Ne.symm h5g, h52, Ne.symm h52, h53, Ne.symm h53, h54, Ne.symm h54, h6g, Ne.symm h6g, h62, Ne.symm h62, h63, Ne.symm h63, h64, Ne.symm h64, h65, Ne.symm h65]
    refine DAny_one (i := 10) (by kernel_rfl) rfl rfl ?_
    simp [h2g, Ne.symm h2g, h32, Ne.symm h32, h3g, Ne.symm h3g, h4g, Ne.symm h4g, h42, Ne.symm h42, h43, Ne.symm h43, h5g, Ne.symm h5g, h52, Ne.symm h52, h53, Ne.symm h53, h54, Ne.symm h54, h6g, Ne.symm h6g, h62, Ne.symm h62, h63, Ne.symm h63, h64, Ne.symm h64, h65, Ne.symm h65]
    refine ⟨by intro z b hz; simp only [upd_apply] at hz ⊢; grind, DAny_done (by kernel_rfl) ?_⟩
    simp [h2g, Ne.symm h2g, h32, Ne.symm h32, h3g, Ne.symm h3g, h4g, Ne.symm h4g, h42, Ne.symm h42, h43, Ne.symm h43, h5g, Ne.symm h5g, h52, Ne.symm h52, h53, Ne.symm h53, h54, Ne.symm h54, h6g, Ne.symm h6g, h62, Ne.symm h62, h63, Ne.symm h63, h64, Ne.symm h64, h65, Ne.symm h65]
    exact retRO [.agg (ro (op2 (· + ·) x y)).c] 1 (by rw [ro_c (op2 _ x y)]; simp [h2g, Ne.symm h2g, h32, Ne.symm h32, h3g, Ne.symm h3g, h4g, Ne.symm h4g, h42, Ne.symm h42, h43, Ne.symm h43, h5g, Ne.symm h5g, h52, Ne.symm h52, h53, Ne.symm h53, h54, Ne.symm h54, h6g, Ne.symm h6g, h62, Ne.symm h62, h63, Ne.symm h63, h64, Ne.symm h64, h65, Ne.symm h65]) (by rw [ro_c (op2 _ x y)]; simp [frz, V.cl]) (by simp [hg, hb2, hb3, hb4, hb5, hb6])

/-! ### For all forms, valid or not -/
theorem rd_ro {x : Option Rat} (h : okQ x) : rd (ro x) = x := by
  cases x with
  | none => exact rd_rz
  | some q => exact rd_rq (h q rfl)
end Go.Proofs.YtmbcofnnibpbeaaGreat.Vm

namespace Go.Proofs.YtmbcofnnibpbeaaGreat.Vm
open Go Go.Proofs
set_option linter.unusedSimpArgs false
set_option linter.unusedVariables false

theorem u64_in2 {n : Int} (h0 : 0 ≤ n) (h1 : n ≤ 18446744073709551615) : IntKind.u64.wrap n = n := IntWalk.u64_in _ ⟨by omega, by omega⟩
theorem integer_ro (n : Int) (hn : -9223372036854775808 ≤ n ∧ n ≤ 9223372036854775807) : RO Tryz.prog 129 [.int .i64 n] (.agg (biC n)) := by
  refine ro_of2 Tryz.func129 rfl rfl (by rw [Tryz.ntmps129]; simp) fun bl => ?_
  rw [Tryz.ntmps129, Tryz.results129]
  refine AW_run ?_
  simp
  intro g hg0 hg
  refine ⟨fun h => ?_, fun h => ?_⟩
  · have e : IntKind.u64.wrap (IntKind.u64.wrap (IntKind.i64.wrap (-IntKind.i64.wrap (n + 1))) + 1) = (n.natAbs : Int) := by
      have w1 : IntKind.i64.wrap (n + 1) = n + 1 := i64_in (by omega) (by omega)
      have w2 : IntKind.i64.wrap (-(n + 1)) = -(n + 1) := i64_in (by omega) (by omega)
      have w3 : IntKind.u64.wrap (-(n + 1)) = -(n + 1) := u64_in2 (by omega) (by omega)
      have w4 : IntKind.u64.wrap (-(n + 1) + 1) = -(n + 1) + 1 := u64_in2 (by omega) (by omega)
      rw [w1, w2, w3, w4]
      omega
    rw [e]
    refine callP_ro (limbsOf_ro n.natAbs (by omega)) ?_
    simp
    refine callP_ro (signed_ro true n.natAbs) ?_
    have e2 : sg true n.natAbs = n := by unfold sg; simp; omega
    rw [e2, biC_def]
    simp
    exact retRO [.agg (biC n)] 1 (by simp [biC_def]) (by simp [frz, biC_def, V.cl]) (by simp [hg])
  · have e : IntKind.u64.wrap n = (n.natAbs : Int) := by rw [u64_in2 (by omega) (by omega)]; omega
    rw [e]
    refine callP_ro (limbsOf_ro n.natAbs (by omega)) ?_
    simp
    refine callP_ro (signed_ro false n.natAbs) ?_
    have e2 : sg false n.natAbs = n := by unfold sg; simp; omega
    rw [e2, biC_def]
    simp
    exact retRO [.agg (biC n)] 1 (by simp [biC_def]) (by simp [frz, biC_def, V.cl]) (by simp [hg])
theorem BigIntOf_ro (n : Int) (hn : -9223372036854775808 < n ∧ n ≤ 9223372036854775807) : RO Tryz.prog 138 [.int .i64 n] (.agg (biC n)) := by
  have hl : (lim n.natAbs).length ≤ 60 := lim_length_le.2 (Nat.lt_of_le_of_lt (show n.natAbs ≤ 9223372036854775808 by omega) (by decide +kernel))
  refine ro_of2 Tryz.func138 rfl rfl (by rw [Tryz.ntmps138]; simp) fun bl => ?_
  rw [Tryz.ntmps138, Tryz.results138]
  refine AW_run ?_
  simp
  intro g hg0 hg
  have h0 : ¬ n = -9223372036854775808 := by omega
  simp [h0]
  refine ⟨fun h => ?_, fun h => ?_⟩
  · have e : IntKind.i64.wrap (-n) = (n.natAbs : Int) := by rw [i64_in (by omega) (by omega)]; omega
    try rw [e]
    refine callP_ro (spec_NatOf_ro n.natAbs (by omega)) ?_
    simp
    refine callP_ro (l03Make_ro true n.natAbs hl) ?_
    have e2 : sg true n.natAbs = n := by unfold sg; simp; omega
    rw [e2, biC_def]
    simp
    exact retRO [.agg (biC n)] 1 (by simp [biC_def]) (by simp [frz, biC_def, V.cl]) (by simp [hg])
  · have e : n = (n.natAbs : Int) := by omega
    have hN := spec_NatOf_ro n.natAbs (by omega)
    rw [← e] at hN
    refine callP_ro hN ?_
    simp
    refine callP_ro (l03Make_ro false n.natAbs hl) ?_
    have e2 : sg false n.natAbs = n := by unfold sg; simp; omega
    rw [e2, biC_def]
    simp
    exact retRO [.agg (biC n)] 1 (by simp [biC_def]) (by simp [frz, biC_def, V.cl]) (by simp [hg])

theorem rq_int (n : Int) : (rq (n : Rat)).c = [.bool (decide (n < 0)), .sl (iv (lim n.natAbs)), .sl [[.int .i64 1]]] := by
  rw [rqc_def]
  show [V.bool (decide (n < 0)), V.sl (iv (lim n.natAbs)), V.sl (iv (lim 1))] = _
  rw [lim1]; rfl
theorem okQ_int {n : Int} (hn : -9223372036854775808 ≤ n ∧ n ≤ 9223372036854775807) : okQ (some (n : Rat)) := fun q h => by
  cases h; exact fits_int (by omega)
theorem RatFromInt_ro (n : Int) (hn : -9223372036854775808 < n ∧ n ≤ 9223372036854775807) : RO Tryz.prog 105 [.int .i64 n] (.agg (ro (some (n : Rat))).c) := by
  refine ro_of2 Tryz.func105 rfl rfl (by rw [Tryz.ntmps105]; simp) fun bl => ?_
  rw [Tryz.ntmps105, Tryz.results105]
  refine AW_run ?_
  rw [show (ro (some (n : Rat))).c = _ from rq_int n]
  simp
  intro g hg0 hg
  refine callP_ro (BigIntOf_ro n hn) ?_
  simp [biC_def]
  intro g1 hg1 h1g hb1
  simp [h1g, Ne.symm h1g]
  refine retRO [.agg [.bool (decide (n < 0)), .sl (iv (lim n.natAbs)), .lsl g1 1 0 1]] 2 (by simp [h1g, Ne.symm h1g]) ?_ (by simp [hg, hb1])
  exact frz_rat (ns := [1]) (.inl hg1) hb1 (by simp [h1g, iv])
theorem whole_ro (n : Int) (hn : -9223372036854775808 ≤ n ∧ n ≤ 9223372036854775807) : RO Tryz.prog 72 [.int .i64 n] (fv (some (n : Rat))) := by
  refine ro_of2 Tryz.func72 rfl rfl (by rw [Tryz.ntmps72]; simp) fun bl => ?_
  rw [Tryz.ntmps72, Tryz.results72]
  refine AW_run ?_
  rw [show fv (some (n : Rat)) = .ptr (rq (n : Rat)).c from rfl, rq_int n]
  simp
  refine callP_ro (integer_ro n hn) ?_
  simp [biC_def]
  intro g1 hg1 hb1 g2 hg2 h21 hb2
  refine retRO [.loc g2 3 0 0] 2 (by simp [h21, Ne.symm h21]) ?_ (by simp [hb1, hb2])
  have h1 := frz_rat (bl0 := bl) (ms := lim n.natAbs) (b := decide (n < 0)) (ns := [1]) (g := g1) (.inl hg1) hb1 (bl := upd (upd bl g1 (some ⟨1, iv [1]⟩)) g2 (some ⟨3, [[.bool (decide (n < 0)), .sl (iv (lim n.natAbs)), .lsl g1 1 0 1]]⟩)) (by simp [h21, Ne.symm h21])
  rw [frz_agg] at h1
  show frz _ 2 (.loc g2 3 0 0) = _
  rw [frz_loc0 (e := [.bool (decide (n < 0)), .sl (iv (lim n.natAbs)), .lsl g1 1 0 1]) (by simp [dropB, hb2])]
  obtain ⟨e', he, h2⟩ := Option.map_eq_some_iff.1 h1
  cases h2
  exact (congrArg (Option.map V.ptr) he).trans rfl

end Go.Proofs.YtmbcofnnibpbeaaGreat.Vm

namespace Go.Proofs.YtmbcofnnibpbeaaGreat.Vm
open Go Go.Proofs
set_option linter.unusedSimpArgs false
set_option linter.unusedVariables false

theorem celT_int : Tryz.prog.cellsOf 3 = 1 := by kernel_rfl
theorem celT_bool : Tryz.prog.cellsOf 4 = 1 := by kernel_rfl
theorem celT_string : Tryz.prog.cellsOf 9 = 1 := by kernel_rfl
theorem celT_Joint : Tryz.prog.cellsOf 138 = 4 := by kernel_rfl

theorem len2 {cs : List V} (h : cs.length = 2) : ∃ a b, cs = [a, b] := by
  match cs, h with
  | [a, b], _ => exact ⟨a, b, rfl⟩
theorem len3 {cs : List V} (h : cs.length = 3) : ∃ a b c, cs = [a, b, c] := by
  match cs, h with
  | [a, b, c], _ => exact ⟨a, b, c, rfl⟩
theorem len4 {cs : List V} (h : cs.length = 4) : ∃ a b c d, cs = [a, b, c, d] := by
  match cs, h with
  | [a, b, c, d], _ => exact ⟨a, b, c, d, rfl⟩

theorem j_of_co {cs : List V} (h : CO Tryz.prog 138 cs) : ∃ j : J, cs = j.c ∧ j.fit := by
  obtain ⟨hl, hf⟩ := co_struct Tryz.underlying138 h
  rw [celT_Joint] at hl
  obtain ⟨a, b, c, d, rfl⟩ := len4 hl
  simp [celT_int, celT_bool, celT_string] at hf
  obtain ⟨h0, h1, h2, h3⟩ := hf
  obtain ⟨s, h0, hs⟩ := co_str Tryz.underlying9 h0
  obtain ⟨x, h1, hx⟩ := co_int Tryz.underlying3 h1
  obtain ⟨y, h2, hy⟩ := co_int Tryz.underlying3 h2
  obtain ⟨f, h3⟩ := co_bool Tryz.underlying4 h3
  cases h0; cases h1; cases h2; cases h3
  exact ⟨⟨s, x, y, f⟩, rfl, hs, wf_i64 hx, wf_i64 hy⟩

theorem bytes_int : Tryz.prog.bytesOf 3 = 8 := by kernel_rfl

theorem iv_of_co {cs : List V} (h : CO Tryz.prog 27 cs) : ∃ ns : List Int, cs = [.sl (iv ns)] ∧ ns.length ≤ 17592186043904 ∧ ∀ n, n ∈ ns → -9223372036854775808 ≤ n ∧ n ≤ 9223372036854775807 := by
  obtain ⟨xs, rfl, hx, hl⟩ := co_slice Tryz.underlying27 h
  rw [bytes_int] at hl
  have : ∃ ns : List Int, xs = iv ns ∧ ∀ n, n ∈ ns → -9223372036854775808 ≤ n ∧ n ≤ 9223372036854775807 := by
    clear hl h
    induction xs with
    | nil => exact ⟨[], rfl, fun n hn => by cases hn⟩
    | cons x xs ih =>
      obtain ⟨ns, rfl, hns⟩ := ih fun y hy => hx y (List.mem_cons_of_mem _ hy)
      obtain ⟨n, rfl, hn⟩ := co_int Tryz.underlying3 (hx x List.mem_cons_self)
      refine ⟨n :: ns, rfl, fun m hm => ?_⟩
      rcases List.mem_cons.1 hm with rfl | hm
      · exact wf_i64 hn
      · exact hns m hm
  obtain ⟨ns, rfl, hns⟩ := this
  exact ⟨ns, rfl, by simp at hl; omega, hns⟩

end Go.Proofs.YtmbcofnnibpbeaaGreat.Vm

namespace Go.Proofs.YtmbcofnnibpbeaaGreat.Vm
open Go Go.Proofs
set_option linter.unusedSimpArgs false
set_option linter.unusedVariables false

theorem celT_Member : Tryz.prog.cellsOf 150 = 3 := by kernel_rfl
theorem celT_Structure : Tryz.prog.cellsOf 48 = 2 := by kernel_rfl
theorem celT_Joints : Tryz.prog.cellsOf 45 = 1 := by kernel_rfl
theorem celT_Members : Tryz.prog.cellsOf 46 = 1 := by kernel_rfl
theorem bytes_Joint : 1 ≤ Tryz.prog.bytesOf 138 := by
  have : Tryz.prog.bytesOf 138 = 40 := by kernel_rfl
  omega
theorem bytes_Member : 1 ≤ Tryz.prog.bytesOf 150 := by
  have : Tryz.prog.bytesOf 150 = 24 := by kernel_rfl
  omega

def In64 (n : Int) : Prop := -9223372036854775808 ≤ n ∧ n ≤ 9223372036854775807
structure Mb.fit (m : Mb) : Prop where
  a : In64 m.a
  b : In64 m.b
  kind : In64 m.kind
structure Str.fit (s : Str) : Prop where
  js : s.js.length ≤ 140737488351232
  ms : s.ms.length ≤ 140737488351232
  names : ∀ j, j ∈ s.js → j.name.size ≤ 140737488351232
  joints : ∀ j, j ∈ s.js → j.fit
  members : ∀ m, m ∈ s.ms → m.fit

theorem m_of_co {cs : List V} (h : CO Tryz.prog 150 cs) : ∃ m : Mb, cs = m.c ∧ m.fit := by
  obtain ⟨hl, hf⟩ := co_struct Tryz.underlying150 h
  rw [celT_Member] at hl
  obtain ⟨a, b, c, rfl⟩ := len3 hl
  simp [celT_int, celT_bool, celT_string] at hf
  obtain ⟨h0, h1, h2⟩ := hf
  obtain ⟨x, h0, hx⟩ := co_int Tryz.underlying3 h0
  obtain ⟨y, h1, hy⟩ := co_int Tryz.underlying3 h1
  obtain ⟨z, h2, hz⟩ := co_int Tryz.underlying3 h2
  cases h0; cases h1; cases h2
  exact ⟨⟨x, y, z⟩, rfl, wf_i64 hx, wf_i64 hy, wf_i64 hz⟩

theorem jv_of {xs : List (List V)} (hx : ∀ x, x ∈ xs → CO Tryz.prog 138 x) : ∃ js : List J, xs = jv js ∧ ∀ j, j ∈ js → j.fit := by
  induction xs with
  | nil => exact ⟨[], rfl, fun n hn => by cases hn⟩
  | cons x xs ih =>
    obtain ⟨ns, rfl, hns⟩ := ih fun y hy => hx y (List.mem_cons_of_mem _ hy)
    obtain ⟨n, rfl, hn⟩ := j_of_co (hx x List.mem_cons_self)
    refine ⟨n :: ns, rfl, fun m hm => ?_⟩
    rcases List.mem_cons.1 hm with rfl | hm
    · exact hn
    · exact hns m hm
theorem mv_of {xs : List (List V)} (hx : ∀ x, x ∈ xs → CO Tryz.prog 150 x) : ∃ js : List Mb, xs = mv js ∧ ∀ j, j ∈ js → j.fit := by
  induction xs with
  | nil => exact ⟨[], rfl, fun n hn => by cases hn⟩
  | cons x xs ih =>
    obtain ⟨ns, rfl, hns⟩ := ih fun y hy => hx y (List.mem_cons_of_mem _ hy)
    obtain ⟨n, rfl, hn⟩ := m_of_co (hx x List.mem_cons_self)
    refine ⟨n :: ns, rfl, fun m hm => ?_⟩
    rcases List.mem_cons.1 hm with rfl | hm
    · exact hn
    · exact hns m hm

theorem len_of {xs : List (List V)} {b n : Nat} (hl : xs.length * b ≤ n) (hb : 1 ≤ b) : xs.length ≤ n := Nat.le_trans (Nat.le_mul_of_pos_right _ hb) hl

theorem str_of_co {cs : List V} (h : CO Tryz.prog 48 cs) : ∃ s : Str, cs = s.c ∧ s.fit := by
  obtain ⟨hl, hf⟩ := co_struct Tryz.underlying48 h
  rw [celT_Structure] at hl
  obtain ⟨a, b, rfl⟩ := len2 hl
  simp [celT_Joints, celT_Members] at hf
  obtain ⟨h0, h1⟩ := hf
  obtain ⟨x, h0, hx, hlx⟩ := co_slice Tryz.underlying45 h0
  obtain ⟨y, h1, hy, hly⟩ := co_slice Tryz.underlying46 h1
  cases h0; cases h1
  obtain ⟨js, rfl, hjs⟩ := jv_of hx
  obtain ⟨ms, rfl, hms⟩ := mv_of hy
  exact ⟨⟨js, ms⟩, rfl, by simpa using len_of hlx bytes_Joint, by simpa using len_of hly bytes_Member, fun j hj => (hjs j hj).1, hjs, hms⟩

end Go.Proofs.YtmbcofnnibpbeaaGreat.Vm

namespace Go.Proofs.YtmbcofnnibpbeaaGreat.Vm
open Go Go.Proofs
set_option linter.unusedSimpArgs false
set_option linter.unusedVariables false

theorem less_n {left : Int} {n : Nat} (h : 0 ≤ less left n) : (n : Int) ≤ left := by unfold less at h; split at h <;> omega
theorem less_neg {left : Int} {n : Nat} (h : less left n < 0) : less left n = -1 := by unfold less at h ⊢; split at h <;> split <;> omega
def szR (r : RT) (left : Int) : Int := if less left r.m.length < 0 then -1 else less (less left r.m.length) r.d.length
theorem szR_le {r : RT} {left : Int} (hl : -1 ≤ left ∧ left ≤ 1048576) : -1 ≤ szR r left ∧ szR r left ≤ 1048576 := by
  unfold szR; split
  · omega
  · exact less_le (less_le hl)
theorem szR_n {r : RT} {left : Int} (hl : -1 ≤ left ∧ left ≤ 1048576) (h : 0 ≤ szR r left) : r.le 1048576 := by
  unfold szR at h
  split at h
  · omega
  · have h1 := less_n (show 0 ≤ less left r.m.length by omega)
    have h2 := less_n h
    have := (less_le (n := r.m.length) hl).2
    exact ⟨by omega, by omega⟩
def szSp (s : SP) (left : Int) : Int := if szR s.lo left < 0 then -1 else szR s.hi (szR s.lo left)
theorem szR_neg {r : RT} {left : Int} (h : szR r left < 0) : szR r left = -1 := by
  unfold szR at h ⊢
  split at h
  · rw [if_pos (by assumption)]
  · rename_i hn; rw [if_neg hn]; exact less_neg h
theorem szSp_le {s : SP} {left : Int} (hl : -1 ≤ left ∧ left ≤ 1048576) : -1 ≤ szSp s left ∧ szSp s left ≤ 1048576 := by
  unfold szSp; split
  · omega
  · exact szR_le (szR_le hl)
theorem szSp_n {s : SP} {left : Int} (hl : -1 ≤ left ∧ left ≤ 1048576) (h : 0 ≤ szSp s left) : s.le 1048576 := by
  unfold szSp at h
  split at h
  · omega
  · exact ⟨szR_n hl (by omega), szR_n (szR_le hl) h⟩
/-! ### Copies -/
/-! ### Comparisons with itself -/
theorem eqBigInt_ro (neg : Bool) (m : List Int) (hm : m.length ≤ 140737488351232) : RO Tryz.prog 157 [.agg [.bool neg, .sl (iv m)], .agg [.bool neg, .sl (iv m)]] (.bool true) := by
  refine ro_of2 Tryz.func157 rfl rfl (by rw [Tryz.ntmps157]; simp) fun bl => ?_
  rw [Tryz.ntmps157, Tryz.results157]
  refine AW_run ?_
  simp
  intro g1 hg1 hb1 g2 hg2 h21 hb2
  try simp [h21, Ne.symm h21]
  refine callP_ro (eqIntS_ro m m hm) ?_
  simp
  exact retRO [.bool true] 0 (by simp) rfl (by simp [hb1, hb2])
theorem eqRat_ro (r : RT) (hr : r.le 140737488351232) : RO Tryz.prog 115 [.agg r.c, .agg r.c] (.bool true) := by
  refine ro_of2 Tryz.func115 rfl rfl (by rw [Tryz.ntmps115]; simp) fun bl => ?_
  rw [Tryz.ntmps115, Tryz.results115]
  refine AW_run ?_
  simp [RT.c]
  intro g1 hg1 hb1 g2 hg2 h21 hb2
  try simp [h21, Ne.symm h21]
  refine callP_ro (eqBigInt_ro r.neg r.m hr.1) ?_
  simp [h21, Ne.symm h21]
  refine callP_ro (eqIntS_ro r.d r.d hr.2) ?_
  simp
  exact retRO [.bool true] 0 (by simp) rfl (by simp [hb1, hb2])
end Go.Proofs.YtmbcofnnibpbeaaGreat.Vm

namespace Go.Proofs.YtmbcofnnibpbeaaGreat.Vm
open Go Go.Proofs
set_option linter.unusedSimpArgs false
set_option linter.unusedVariables false

theorem own_pair {bl : Int → Option Blk} {d e : D} {vs : List V} {gs : List Int} : OwnL bl [d, e] vs gs ↔ ∃ v w g1 g2, vs = [v, w] ∧ gs = g1 ++ g2 ∧ (∀ g, g ∈ g1 → g ∉ g2) ∧ OwnD bl d v g1 ∧ OwnD bl e w g2 := by
  rw [OwnL]
  constructor
  · rintro ⟨v, vs', g1, g2, rfl, rfl, h1, h2, h3⟩
    rw [OwnL] at h3
    obtain ⟨w, vs'', g3, g4, rfl, rfl, h4, h5, h6⟩ := h3
    rw [OwnL] at h6
    obtain ⟨rfl, rfl⟩ := h6
    rw [List.append_nil] at h1 ⊢
    exact ⟨v, w, g1, g3, rfl, rfl, h1, h2, h5⟩
  · rintro ⟨v, w, g1, g2, rfl, rfl, h1, h2, h3⟩
    refine ⟨v, [w], g1, g2, rfl, rfl, h1, h2, ?_⟩
    rw [OwnL]
    exact ⟨w, [], g2, [], rfl, by simp, by simp, h3, by rw [OwnL]; exact ⟨rfl, rfl⟩⟩
theorem OwnD.one {bl : Int → Option Blk} {sz : Nat} {rows : List (List V)} {v : V} {gs : List Int} (h : OwnD bl (fl sz rows) v gs) : v.one = true ∧ v.cells = [v] := by
  unfold fl at h
  rw [OwnD] at h
  rcases h with ⟨_, rfl, _⟩ | ⟨g, els, gs', rfl, _⟩ <;> exact ⟨rfl, rfl⟩
theorem frz_iv {bl : Int → Option Blk} {ns : List Int} {v : V} {gs : List Int} (h : OwnD bl (fl 1 (iv ns)) v gs) (n : Nat) : frz bl (n + 1) v = some (.sl (iv ns)) := by
  rw [h.frz (fl_dep _ _ _), fl_fz]
theorem sc_iv (ns : List Int) : (fl 1 (iv ns)).sc = true := fl_sc (iv_ow ns)
theorem new_keep {bl bl' : Int → Option Blk} {gs : List Int} (h2 : ∀ g, g ∈ gs → bl g = none) (h3 : ∀ g, g ∉ gs → bl' g = bl g) {x : Int} {b : Blk} (hx : bl x = some b) : bl' x = some b :=
  Made.sub (d := default) (v := default) h2 h3 x b hx
theorem OwnD.keep {bl bl' : Int → Option Blk} {d : D} {v : V} {gs : List Int} (h : OwnD bl d v gs) (hg : ∀ x, x ∈ gs → ∀ b, bl x = some b → bl' x = some b) : OwnD bl' d v gs := h.frame fun x hx => by
  obtain ⟨b, hb⟩ := h.has x hx
  rw [hb, hg x hx b hb]
theorem OwnL.keep {bl bl' : Int → Option Blk} {d : List D} {v : List V} {gs : List Int} (h : OwnL bl d v gs) (hg : ∀ x, x ∈ gs → ∀ b, bl x = some b → bl' x = some b) : OwnL bl' d v gs := h.frame fun x hx => by
  obtain ⟨b, hb⟩ := h.has x hx
  rw [hb, hg x hx b hb]
theorem OwnL.not {bl : Int → Option Blk} {d : List D} {v : List V} {gs : List Int} (h : OwnL bl d v gs) {g : Int} (hg : bl g = none) : g ∉ gs := fun hh => by
  obtain ⟨b, hb⟩ := h.has g hh
  rw [hg] at hb; cases hb
theorem OwnD.not {bl : Int → Option Blk} {d : D} {v : V} {gs : List Int} (h : OwnD bl d v gs) {g : Int} (hg : bl g = none) : g ∉ gs := fun hh => by
  obtain ⟨b, hb⟩ := h.has g hh
  rw [hg] at hb; cases hb
theorem sub_new {bl bl' : Int → Option Blk} {g : Int} {b : Option Blk} (hs : Sub bl bl') (hg : bl' g = none) : Sub bl (upd bl' g b) := hs.upd (fresh_of hs hg) b
theorem OwnR.keep {bl bl' : Int → Option Blk} {sz : Nat} {d : List (List D)} {v : List (List V)} {gs : List Int} (h : OwnR bl sz d v gs) (hg : ∀ x, x ∈ gs → ∀ b, bl x = some b → bl' x = some b) : OwnR bl' sz d v gs := h.frame fun x hx => by
  obtain ⟨b, hb⟩ := h.has x hx
  rw [hb, hg x hx b hb]
theorem OwnR.not {bl : Int → Option Blk} {sz : Nat} {d : List (List D)} {v : List (List V)} {gs : List Int} (h : OwnR bl sz d v gs) {g : Int} (hg : bl g = none) : g ∉ gs := fun hh => by
  obtain ⟨b, hb⟩ := h.has g hh
  rw [hg] at hb; cases hb
theorem OwnR.snoc {bl : Int → Option Blk} {sz : Nat} {r : List D} {e : List V} {g2 : List Int} (hr : OwnL bl r e g2) (hl : e.length = sz) (ho : e.all V.one = true) : ∀ {rs : List (List D)} {els : List (List V)} {g1 : List Int}, OwnR bl sz rs els g1 → (∀ x, x ∈ g1 → x ∉ g2) → OwnR bl sz (rs ++ [r]) (els ++ [e]) (g1 ++ g2)
  | [], els, g1, h, hd => by
    rw [OwnR] at h
    obtain ⟨rfl, rfl⟩ := h
    show OwnR bl sz [r] [e] g2
    rw [OwnR]
    exact ⟨e, [], g2, [], rfl, by simp, by simp, hl, ho, hr, by rw [OwnR]; exact ⟨rfl, rfl⟩⟩
  | r1 :: rs, els, g1, h, hd => by
    rw [OwnR] at h
    obtain ⟨e1, els', ga, gb, rfl, rfl, h3, h4, h5, h6, h7⟩ := h
    have ih := OwnR.snoc hr hl ho h7 fun x hx => hd x (by simp [hx])
    show OwnR bl sz (r1 :: (rs ++ [r])) (e1 :: (els' ++ [e])) (ga ++ gb ++ g2)
    rw [OwnR]
    refine ⟨e1, els' ++ [e], ga, gb ++ g2, rfl, by simp, fun x hx hx2 => ?_, h4, h5, h6, ih⟩
    rcases List.mem_append.1 hx2 with hx2 | hx2
    · exact h3 x hx hx2
    · exact hd x (by simp [hx]) hx2
theorem OwnR.at {bl : Int → Option Blk} {sz : Nat} : ∀ {rs : List (List D)} {els : List (List V)} {gs : List Int} (i : Nat) (hi : i < rs.length), OwnR bl sz rs els gs →
    ∃ e gi, els[i]? = some e ∧ OwnL bl rs[i] e gi ∧ e.length = sz ∧ e.all V.one = true ∧ (∀ x, x ∈ gi → x ∈ gs) ∧
      ∀ bl' r' e', OwnL bl' r' e' gi → e'.length = sz → e'.all V.one = true → (∀ x, x ∈ gs → x ∉ gi → ∀ y, bl x = some y → bl' x = some y) → OwnR bl' sz (rs.set i r') (els.set i e') gs
  | [], els, gs, i, hi, _ => by simp at hi
  | r :: rs, els, gs, 0, hi, h => by
    rw [OwnR] at h
    obtain ⟨e, els', g1, g2, rfl, rfl, h3, h4, h5, h6, h7⟩ := h
    refine ⟨e, g1, rfl, h6, h4, h5, fun x hx => by simp [hx], fun bl' r' e' a1 a2 a3 a4 => ?_⟩
    show OwnR bl' sz (r' :: rs) (e' :: els') (g1 ++ g2)
    rw [OwnR]
    exact ⟨e', els', g1, g2, rfl, rfl, h3, a2, a3, a1, h7.keep fun x hx b hb => a4 x (by simp [hx]) (fun h => h3 x h hx) b hb⟩
  | r :: rs, els, gs, i + 1, hi, h => by
    rw [OwnR] at h
    obtain ⟨e, els', g1, g2, rfl, rfl, h3, h4, h5, h6, h7⟩ := h
    obtain ⟨e2, gi, b1, b2, b3, b4, b5, b6⟩ := OwnR.at (rs := rs) i (by simpa using hi) h7
    refine ⟨e2, gi, by simpa using b1, by simpa using b2, b3, b4, fun x hx => by simp [b5 x hx], fun bl' r' e' a1 a2 a3 a4 => ?_⟩
    show OwnR bl' sz (r :: rs.set i r') (e :: els'.set i e') (g1 ++ g2)
    rw [OwnR]
    refine ⟨e, els'.set i e', g1, g2, rfl, rfl, h3, h4, h5, h6.keep fun x hx b hb => a4 x (by simp [hx]) (fun h => h3 x hx (b5 x h)) b hb, b6 bl' r' e' a1 a2 a3 fun x hx hn y hy => a4 x (by simp [hx]) hn y hy⟩
theorem grow_get (els : List (List V)) (z : List V) (n : Nat) (h : els.length < n) : (els ++ List.replicate (n - els.length) z)[els.length]? = some z := by
  rw [List.getElem?_append_right (Nat.le_refl _), Nat.sub_self, List.getElem?_replicate, if_pos (by omega)]
theorem grow_set (els : List (List V)) (z x : List V) (n : Nat) (h : els.length < n) : (els ++ List.replicate (n - els.length) z).set els.length x = (els ++ [x]) ++ List.replicate (n - (els ++ [x]).length) z := by
  rw [List.set_append_right _ _ (Nat.le_refl _), Nat.sub_self]
  obtain ⟨m, hm⟩ : ∃ m, n - els.length = m + 1 := ⟨n - els.length - 1, by omega⟩
  have h2 : n - (els ++ [x]).length = m := by simp; omega
  rw [hm, h2, List.replicate_succ]
  simp
theorem grow_set' (els : List (List V)) (z x : List V) (n : Nat) (h : els.length < n) : els ++ (List.replicate (n - els.length) z).set 0 x = (els ++ [x]) ++ List.replicate (n - (els ++ [x]).length) z := by
  rw [← grow_set els z x n h, List.set_append_right _ _ (Nat.le_refl _), Nat.sub_self]
theorem own_single {bl : Int → Option Blk} {d : D} {v : V} {gs : List Int} : OwnL bl [d] [v] gs ↔ OwnD bl d v gs := by
  rw [OwnL]
  constructor
  · rintro ⟨v', vs', g1, g2, h1, rfl, _, h2, h3⟩
    cases h1
    rw [OwnL] at h3
    rw [h3.2, List.append_nil]; exact h2
  · intro h
    exact ⟨v, [], gs, [], rfl, by simp, by simp, h, by rw [OwnL]; exact ⟨rfl, rfl⟩⟩
theorem sub_new' {bl bl' : Int → Option Blk} {g : Int} {b : Option Blk} (hg : bl g = none) (hs : Sub bl bl') : Sub bl (upd bl' g b) := hs.upd hg b
structure Grow where
  els : List (List V)
  gs : List Int
  b : Int → Option Blk
theorem own_cons {bl : Int → Option Blk} {d : D} {ds : List D} {v : V} {vs : List V} {g1 g2 : List Int} (h1 : OwnD bl d v g1) (h2 : OwnL bl ds vs g2) (hd : ∀ g, g ∈ g1 → g ∉ g2) : OwnL bl (d :: ds) (v :: vs) (g1 ++ g2) := by
  rw [OwnL]; exact ⟨v, vs, g1, g2, rfl, rfl, hd, h1, h2⟩
theorem own_nil {bl : Int → Option Blk} : OwnL bl [] [] [] := by rw [OwnL]; exact ⟨rfl, rfl⟩
theorem own_int {bl : Int → Option Blk} (n : Int) : OwnD bl (.c (.int .i64 n)) (.int .i64 n) [] := by rw [OwnD]; exact ⟨rfl, rfl, rfl⟩
theorem own_bool {bl : Int → Option Blk} (b : Bool) : OwnD bl (.c (.bool b)) (.bool b) [] := by rw [OwnD]; exact ⟨rfl, rfl, rfl⟩

end Go.Proofs.YtmbcofnnibpbeaaGreat.Vm

namespace Go.Proofs.YtmbcofnnibpbeaaGreat.Vm
open Go Go.Proofs
set_option linter.unusedSimpArgs false
set_option linter.unusedVariables false

/-- Rows written over from the beginning. -/
def over (ys xs : List (List V)) (i : Nat) : List (List V) := ys.take i ++ xs.drop i
@[simp] theorem over_zero (ys xs : List (List V)) : over ys xs 0 = xs := by simp [over]
theorem over_length (ys xs : List (List V)) (i : Nat) (hl : ys.length = xs.length) : (over ys xs i).length = xs.length := by simp [over]; omega
theorem over_all (ys xs : List (List V)) (i : Nat) (hl : ys.length = xs.length) (hi : xs.length ≤ i) : over ys xs i = ys := by
  simp [over, List.take_of_length_le (show ys.length ≤ i by omega), List.drop_of_length_le hi]
theorem over_get (ys xs : List (List V)) (i : Nat) (hl : ys.length = xs.length) (hi : i < xs.length) : (over ys xs i)[i]? = some xs[i] := by
  unfold over
  rw [List.getElem?_append_right (by simp; omega), List.length_take, Nat.min_eq_left (by omega), Nat.sub_self, List.getElem?_drop]
  simp [hi]
theorem over_getE (ys xs : List (List V)) (i : Nat) (hl : ys.length = xs.length) (hi : i < xs.length) : (over ys xs i)[i]'(by rw [over_length ys xs i hl]; exact hi) = xs[i] := by
  have := over_get ys xs i hl hi
  rw [List.getElem?_eq_getElem (by rw [over_length ys xs i hl]; exact hi)] at this
  exact Option.some.inj this
theorem over_set (ys xs : List (List V)) (i : Nat) (hl : ys.length = xs.length) (hi : i < ys.length) (x : List V) (hx : x = ys[i]) : (over ys xs i).set i x = over ys xs (i + 1) := by
  subst hx
  apply List.ext_getElem?
  intro j
  have hz : ∀ k, k ≤ ys.length → ∀ j, (over ys xs k)[j]? = if j < k then ys[j]? else xs[j]? := by
    intro k hk j
    unfold over
    by_cases hj : j < k
    · rw [if_pos hj, List.getElem?_append_left (by simp; omega), List.getElem?_take_of_lt hj]
    · rw [if_neg hj, List.getElem?_append_right (by simp; omega), List.length_take, Nat.min_eq_left hk, List.getElem?_drop]
      congr 1; omega
  rw [List.getElem?_set, hz i (by omega), hz (i + 1) (by omega), over_length _ _ _ hl]
  by_cases hij : i = j
  · subst hij; simp [hi]; omega
  · rw [if_neg hij]
    by_cases h1 : j < i
    · simp [h1, show j < i + 1 by omega]
    · simp [h1, show ¬ j < i + 1 by omega]

def marks (k : Int) (n : Nat) : List Int := (List.range n).map fun (i : Nat) => k + i
@[simp] theorem marks_length (k : Int) (n : Nat) : (marks k n).length = n := by simp [marks]
@[simp] theorem marks_getE (k : Int) (n i : Nat) (h : i < (marks k n).length) : (marks k n)[i] = k + i := by simp [marks]
theorem marks_at (k : Int) (n i : Nat) (h : i < n) : (iv (marks k n))[i]'(by simpa using h) = [.int .i64 (k + i)] := by simp [marks]

theorem markIntS_cp {bl : Int → Option Blk} {K : V → (Int → Option Blk) → Prop} (xs : List Int) (k : Int) (v : V) (gs : List Int) (h : OwnD bl (fl 1 (iv xs)) v gs) (hk : -1 ≤ k ∧ k + xs.length ≤ 4611686018427387904)
    (hK : ∀ bl', OwnD bl' (fl 1 (iv (marks k xs.length))) v gs → (∀ g, g ∉ gs → bl' g = bl g) → K (.int .i64 (k + xs.length)) bl') : CallP Tryz.prog 119 [v, .int .i64 k] bl K := by
  refine callP_of Tryz.func119 rfl rfl (by rw [Tryz.ntmps119]; simp) ?_
  rw [Tryz.ntmps119, Tryz.results119]
  refine AW_run ?_
  rcases own_iv.1 h with ⟨rfl, rfl, rfl⟩ | ⟨g, rfl, rfl, hb, hg0⟩
  · simp
    refine AW_for (fun _ : Unit => [(0, .nils), (1, .int .i64 k), (5, .int .i64 0)]) (fun _ => bl) (fun _ => True) (fun _ => 0) _ () trivial ⟨rfl, by simp, Sub.refl _⟩ ?_
    intro _ _
    refine AW_run ?_
    simp
    rw [retK_ret]
    refine ⟨[.int .i64 k], by simp, ?_⟩
    have := hK bl (own_iv.2 (.inl ⟨rfl, rfl, rfl⟩)) (fun _ _ => rfl)
    simpa using this
  · simp
    refine AW_for (fun i : Nat => [(0, .lsl g 1 0 xs.length), (1, .int .i64 (k + i)), (5, .int .i64 i)]) (fun i => upd bl g (some ⟨1, over (iv (marks k xs.length)) (iv xs) i⟩)) (fun i => i ≤ xs.length) (fun i => xs.length - i) _ 0 (Nat.zero_le _) ⟨rfl, by simp, sub_eq ?_⟩ ?_
    · funext x
      simp only [upd_apply]
      split
      · rename_i hx; subst hx; simp [hb]
      · rfl
    intro i hi
    refine AW_run ?_
    simp
    refine ⟨fun h1 => ?_, fun h1 => ?_⟩
    · have h2 : i < (iv xs).length := by simpa using h1
      have hge : 0 ≤ g := by
        rcases Int.lt_or_le g 0 with hlt | hge
        · have := hg0 hlt; subst this; simp at h1
        · exact hge
      have hgi := over_get (iv (marks k xs.length)) (iv xs) i (by simp) h2
      simp (disch := omega) [h1, hgi, i64_in, loopQ_normal]
      refine ⟨i + 1, by omega, by omega, rfl, by simp; omega, sub_eq ?_⟩
      rw [over_set _ _ _ (by simp) (by simpa using h1) _ (by simp [marks])]
    · have hi' : i = xs.length := by omega
      subst hi'
      rw [retK_ret]
      refine ⟨[.int .i64 (k + xs.length)], by simp, ?_⟩
      refine hK _ (own_iv.2 (.inr ⟨g, by simp, rfl, ?_, fun h => by have := hg0 h; subst this; rfl⟩)) (fun g' hg' => ?_)
      · simp; rw [over_all _ _ _ (by simp) (by simp)]
      · simp at hg'; simp [hg']

theorem heldIntS_ro (n : Nat) (k : Int) (hk : -1 ≤ k ∧ k + n ≤ 4611686018427387904) : RO Tryz.prog 120 [.sl (iv (marks k n)), .int .i64 k] (.int .i64 (k + n)) := by
  refine ro_of2 Tryz.func120 rfl rfl (by rw [Tryz.ntmps120]; simp) fun bl => ?_
  rw [Tryz.ntmps120, Tryz.results120]
  refine AW_run ?_
  simp
  refine AW_for (fun i : Nat => [(0, .sl (iv (marks k n))), (1, .int .i64 (k + i)), (5, .int .i64 i)]) (fun _ => bl) (fun i => i ≤ n) (fun i => n - i) _ 0 (Nat.zero_le _) ⟨rfl, by simp, Sub.refl _⟩ ?_
  intro i hi
  refine AW_run ?_
  simp
  refine ⟨fun h1 => ?_, fun h1 => ?_⟩
  · have h2 : i < (iv (marks k n)).length := by simpa using h1
    simp (disch := omega) [h1, i64_in, loopQ_normal]
    refine ⟨i + 1, by omega, by omega, rfl, by simp; omega, Sub.refl _⟩
  · have hi' : i = n := by omega
    subst hi'
    exact retRO0 (by simp) rfl rfl

end Go.Proofs.YtmbcofnnibpbeaaGreat.Vm

namespace Go.Proofs.YtmbcofnnibpbeaaGreat.Vm
open Go Go.Proofs
set_option linter.unusedSimpArgs false
set_option linter.unusedVariables false

def dB (neg : Bool) (m : List Int) : List D := [.c (.bool neg), fl 1 (iv m)]
def dR (r : RT) : List D := [.c (.bool r.neg), fl 1 (iv r.m), fl 1 (iv r.d)]
theorem own_bi {bl : Int → Option Blk} {neg : Bool} {m : List Int} {v : V} {gs : List Int} : OwnD bl (.a (dB neg m)) v gs ↔ ∃ vm, v = .agg [.bool neg, vm] ∧ OwnD bl (fl 1 (iv m)) vm gs := by
  rw [OwnD]; unfold dB
  constructor
  · rintro ⟨vs, rfl, h⟩
    rw [OwnL] at h
    obtain ⟨v, vs', g1, g2, rfl, rfl, _, h1, h2⟩ := h
    rw [OwnD] at h1
    obtain ⟨rfl, _, rfl⟩ := h1
    obtain ⟨w, rfl⟩ : ∃ w, vs' = [w] := by
      have := h2.length
      match vs', this with
      | [w], _ => exact ⟨w, rfl⟩
    exact ⟨w, rfl, own_single.1 h2⟩
  · rintro ⟨vm, rfl, h⟩
    exact ⟨_, rfl, own_cons (own_bool _) (own_single.2 h) (fun x hx => by cases hx)⟩
theorem own_rtL {bl : Int → Option Blk} {r : RT} {vs : List V} {gs : List Int} : OwnL bl (dR r) vs gs ↔ ∃ vm vd gm gd, vs = [.bool r.neg, vm, vd] ∧ gs = gm ++ gd ∧ (∀ g, g ∈ gm → g ∉ gd) ∧ OwnD bl (fl 1 (iv r.m)) vm gm ∧ OwnD bl (fl 1 (iv r.d)) vd gd := by
  unfold dR
  constructor
  · intro h
    rw [OwnL] at h
    obtain ⟨v, vs', g1, g2, rfl, rfl, _, h1, h2⟩ := h
    rw [OwnD] at h1
    obtain ⟨rfl, _, rfl⟩ := h1
    obtain ⟨vm, vd, gm, gd, rfl, rfl, hd, h3, h4⟩ := own_pair.1 h2
    exact ⟨vm, vd, gm, gd, rfl, rfl, hd, h3, h4⟩
  · rintro ⟨vm, vd, gm, gd, rfl, rfl, hd, h3, h4⟩
    exact own_cons (g1 := []) (g2 := gm ++ gd) (own_bool _) (own_pair.2 ⟨vm, vd, gm, gd, rfl, rfl, hd, h3, h4⟩) (fun x hx => by cases hx)
theorem own_rt {bl : Int → Option Blk} {r : RT} {v : V} {gs : List Int} : OwnD bl (.a (dR r)) v gs ↔ ∃ vm vd gm gd, v = .agg [.bool r.neg, vm, vd] ∧ gs = gm ++ gd ∧ (∀ g, g ∈ gm → g ∉ gd) ∧ OwnD bl (fl 1 (iv r.m)) vm gm ∧ OwnD bl (fl 1 (iv r.d)) vd gd := by
  rw [OwnD]
  constructor
  · rintro ⟨vs, rfl, h⟩
    obtain ⟨vm, vd, gm, gd, rfl, h2⟩ := own_rtL.1 h
    exact ⟨vm, vd, gm, gd, rfl, h2⟩
  · rintro ⟨vm, vd, gm, gd, rfl, h2⟩
    exact ⟨_, rfl, own_rtL.2 ⟨vm, vd, gm, gd, rfl, h2⟩⟩
theorem dR_fz (r : RT) : D.fzL (dR r) = r.c := by simp [dR, D.fzL, D.fz, RT.c]
theorem dRT_fz (r : RT) : (D.a (dR r)).fz = .agg r.c := by rw [D.fz, dR_fz]
theorem dR_dep (r : RT) (n : Nat) : D.depL (n + 1) (dR r) := by simp [dR, D.depL, D.dep, fl_dep]
theorem dRT_dep (r : RT) (n : Nat) : (D.a (dR r)).dep (n + 2) := by rw [D.dep]; exact ⟨by omega, dR_dep r n⟩
theorem dR_sc (r : RT) : D.scL (dR r) = true := by simp [dR, D.scL, D.sc, V.ow, sc_iv]
theorem dRT_sc (r : RT) : (D.a (dR r)).sc = true := by rw [D.sc]; exact dR_sc r
theorem frz_rt {bl : Int → Option Blk} {r : RT} {v : V} {gs : List Int} (h : OwnD bl (.a (dR r)) v gs) (n : Nat) : frz bl (n + 2) v = some (.agg r.c) := by
  rw [h.frz (dRT_dep r n), dRT_fz]

/-! ### Copies -/
theorem own_append {bl : Int → Option Blk} : ∀ {ds es : List D} {vs : List V} {gs : List Int}, OwnL bl (ds ++ es) vs gs ↔ ∃ v1 v2 g1 g2, vs = v1 ++ v2 ∧ gs = g1 ++ g2 ∧ (∀ g, g ∈ g1 → g ∉ g2) ∧ OwnL bl ds v1 g1 ∧ OwnL bl es v2 g2
  | [], es, vs, gs => by
    constructor
    · intro h; exact ⟨[], vs, [], gs, rfl, rfl, fun x hx => (by cases hx), own_nil, h⟩
    · rintro ⟨v1, v2, g1, g2, rfl, rfl, _, h1, h2⟩
      rw [OwnL] at h1
      obtain ⟨rfl, rfl⟩ := h1
      exact h2
  | d :: ds, es, vs, gs => by
    rw [List.cons_append]
    constructor
    · intro h
      rw [OwnL] at h
      obtain ⟨v, vs', g1, g2, rfl, rfl, hd, h1, h2⟩ := h
      obtain ⟨v1, v2, g3, g4, rfl, rfl, hd2, h3, h4⟩ := own_append.1 h2
      refine ⟨v :: v1, v2, g1 ++ g3, g4, rfl, by simp, fun x hx h => ?_, own_cons h1 h3 (fun x hx h => hd x hx (List.mem_append_left _ h)), h4⟩
      rcases List.mem_append.1 hx with hx | hx
      · exact hd x hx (List.mem_append_right _ h)
      · exact hd2 x hx h
    · rintro ⟨v1, v2, g1, g2, rfl, rfl, hd, h1, h2⟩
      rw [OwnL] at h1
      obtain ⟨v, vs', g3, g4, rfl, rfl, hd2, h3, h4⟩ := h1
      have := own_cons h3 (own_append.2 ⟨vs', v2, g4, g2, rfl, rfl, fun x hx => hd x (List.mem_append_right _ hx), h4, h2⟩) (fun x hx h => by
        rcases List.mem_append.1 h with h | h
        · exact hd2 x hx h
        · exact hd x (List.mem_append_left _ hx) h)
      simpa using this

/-! ### Marks -/
theorem kp_of {bl : Int → Option Blk} {g : Int} (hg : bl g = none) (b : Option Blk) : ∀ x y, bl x = some y → upd bl g b x = some y := fun x y hx => by rw [upd_apply, if_neg (fun e => by rw [e, hg] at hx; cases hx)]; exact hx
def mkR (k : Nat) (r : RT) : RT := ⟨r.neg, marks k r.m.length, marks (k + r.m.length : Nat) r.d.length⟩
def mkRN (k : Nat) (r : RT) : Nat := k + r.m.length + r.d.length
/-! ### Spans -/
def dS (s : SP) : List D := dR s.lo ++ (dR s.hi ++ [.c (.bool s.nl), .c (.bool s.nh)])
theorem own_spL {bl : Int → Option Blk} {s : SP} {vs : List V} {gs : List Int} : OwnL bl (dS s) vs gs ↔ ∃ v1 v2 g1 g2, vs = v1 ++ v2 ++ [.bool s.nl, .bool s.nh] ∧ gs = g1 ++ g2 ∧ (∀ g, g ∈ g1 → g ∉ g2) ∧ OwnL bl (dR s.lo) v1 g1 ∧ OwnL bl (dR s.hi) v2 g2 := by
  unfold dS
  constructor
  · intro h
    obtain ⟨v1, v, g1, g, rfl, rfl, hd, h1, h⟩ := own_append.1 h
    obtain ⟨v2, w, g2, g', rfl, rfl, hd2, h2, h⟩ := own_append.1 h
    have := (ownL_c (r := [.bool s.nl, .bool s.nh]) rfl).1 h
    obtain ⟨rfl, rfl⟩ := this
    refine ⟨v1, v2, g1, g2, by simp, by simp, fun x hx h => hd x hx (by simp [h]), h1, h2⟩
  · rintro ⟨v1, v2, g1, g2, rfl, rfl, hd, h1, h2⟩
    refine own_append.2 ⟨v1, v2 ++ [.bool s.nl, .bool s.nh], g1, g2, by simp, rfl, hd, h1, ?_⟩
    refine own_append.2 ⟨v2, _, g2, [], rfl, by simp, fun x hx h => (by cases h), h2, ?_⟩
    exact (ownL_c (r := [.bool s.nl, .bool s.nh]) rfl).2 ⟨rfl, rfl⟩
theorem dS_fz (s : SP) : D.fzL (dS s) = s.c := by simp [dS, dR, D.fzL, D.fz, SP.c]
theorem dSP_dep (s : SP) (n : Nat) : (D.a (dS s)).dep (n + 2) := by rw [D.dep]; exact ⟨by omega, by simp [dS, dR, D.depL, D.dep, fl_dep]⟩
theorem frz_sp {bl : Int → Option Blk} {s : SP} {vs : List V} {gs : List Int} (h : OwnL bl (dS s) vs gs) (n : Nat) : frz bl (n + 2) (.agg vs) = some (.agg s.c) := by
  have h1 : OwnD bl (.a (dS s)) (.agg vs) gs := by rw [OwnD]; exact ⟨vs, rfl, h⟩
  rw [h1.frz (dSP_dep s n), D.fz, dS_fz]

def mkSN (k : Nat) (s : SP) : Nat := mkRN (mkRN k s.lo) s.hi
end Go.Proofs.YtmbcofnnibpbeaaGreat.Vm

namespace Go.Proofs.YtmbcofnnibpbeaaGreat.Vm
open Go Go.Proofs
set_option linter.unusedSimpArgs false
set_option linter.unusedVariables false

theorem celT_ints : Tryz.prog.cellsOf 27 = 1 := by kernel_rfl
theorem len8 {cs : List V} (h : cs.length = 8) : ∃ a b c d e f g i, cs = [a, b, c, d, e, f, g, i] := by
  match cs, h with
  | [a, b, c, d, e, f, g, i], _ => exact ⟨a, b, c, d, e, f, g, i, rfl⟩
theorem SP.le_mono {s : SP} {k l : Nat} (h : s.le k) (hkl : k ≤ l) : s.le l := ⟨⟨by have := h.1.1; omega, by have := h.1.2; omega⟩, by have := h.2.1; omega, by have := h.2.2; omega⟩
theorem RT.le_mono {s : RT} {k l : Nat} (h : s.le k) (hkl : k ≤ l) : s.le l := ⟨by have := h.1; omega, by have := h.2; omega⟩

theorem spOk_some {s : SP} (h : spOk s = true) : spBad s = false ∧ ∃ a b, rd s.lo = some a ∧ rd s.hi = some b := by
  unfold spOk at h
  rw [Bool.and_eq_true, Bool.not_eq_true'] at h
  refine ⟨h.1, ?_⟩
  have := h.1
  unfold spBad at this
  rcases e1 : rd s.lo with _ | a
  · rw [e1] at this; cases this
  rcases e2 : rd s.hi with _ | b
  · rw [e1, e2] at this; cases this
  exact ⟨a, b, rfl, rfl⟩

end Go.Proofs.YtmbcofnnibpbeaaGreat.Vm

namespace Go.Proofs.YtmbcofnnibpbeaaGreat.Vm
open Go Go.Proofs
set_option linter.unusedSimpArgs false
set_option linter.unusedVariables false

def rv (rs : List RT) : List (List V) := rs.map RT.c
@[simp] theorem rv_length (rs : List RT) : (rv rs).length = rs.length := by simp [rv]
@[simp] theorem rv_getE (rs : List RT) (i : Nat) (h : i < (rv rs).length) : (rv rs)[i] = (rs[i]'(by simpa using h)).c := by simp [rv]
theorem RT.c_len (r : RT) : r.c.length = 3 := rfl
theorem RT.c_one (r : RT) : r.c.all V.one = true := by simp [RT.c]
def dRs (rs : List RT) : D := .s 3 (rs.map dR)
theorem dRs_fz (rs : List RT) : (dRs rs).fz = .sl (rv rs) := by
  unfold dRs rv
  rw [D.fz, fzR_map, List.map_map]
  congr 1
  refine List.map_congr_left fun r _ => ?_
  show List.map D.fz (dR r) = r.c
  rw [← fzL_map, dR_fz]
theorem dRs_dep (rs : List RT) (n : Nat) : (dRs rs).dep (n + 2) := by
  unfold dRs
  rw [D.dep]
  refine ⟨by omega, ?_⟩
  induction rs with
  | nil => simp [D.depR]
  | cons r rs ih => simp only [List.map_cons, D.depR]; exact ⟨dR_dep r _, ih⟩
theorem dRs_sc (rs : List RT) : (dRs rs).sc = true := by
  unfold dRs
  rw [D.sc]
  induction rs with
  | nil => simp [D.scR]
  | cons r rs ih => simp only [List.map_cons, D.scR, dR_sc, ih]; rfl
theorem frz_rs {bl : Int → Option Blk} {rs : List RT} {v : V} {gs : List Int} (h : OwnD bl (dRs rs) v gs) (n : Nat) : frz bl (n + 2) v = some (.sl (rv rs)) := by
  rw [h.frz (dRs_dep rs n), dRs_fz]
theorem own_rs {bl : Int → Option Blk} {rs : List RT} {v : V} {gs : List Int} : OwnD bl (dRs rs) v gs ↔ (rs = [] ∧ v = .nils ∧ gs = []) ∨ ∃ g els gs', v = .lsl g 3 0 rs.length ∧ gs = g :: gs' ∧ g ∉ gs' ∧ bl g = some ⟨3, els⟩ ∧ (g < 0 → els = []) ∧ OwnR bl 3 (rs.map dR) els gs' := by
  unfold dRs
  rw [OwnD]
  constructor
  · rintro (⟨h1, h2, h3⟩ | ⟨g, els, gs', h1, h2, h3, h4, h5, h6⟩)
    · exact .inl ⟨by simpa using h1, h2, h3⟩
    · exact .inr ⟨g, els, gs', by simpa using h1, h2, h3, h4, h5, h6⟩
  · rintro (⟨h1, h2, h3⟩ | ⟨g, els, gs', h1, h2, h3, h4, h5, h6⟩)
    · exact .inl ⟨by simpa using h1, h2, h3⟩
    · exact .inr ⟨g, els, gs', by simpa using h1, h2, h3, h4, h5, h6⟩
theorem own_rs1 {bl : Int → Option Blk} {rs : List RT} {v : V} {gs : List Int} (h : OwnD bl (dRs rs) v gs) : v.one = true ∧ v.cells = [v] := by
  rcases own_rs.1 h with ⟨_, rfl, _⟩ | ⟨g, els, gs', rfl, _⟩ <;> exact ⟨rfl, rfl⟩

/-! ### Sizes -/
def szTo : List RT → Int → Int
  | [], left => left
  | r :: rs, left => if szR r left < 0 then -1 else szTo rs (szR r left)
def szQs (rs : List RT) (left : Int) : Int := if less left rs.length < 0 then -1 else szTo rs (less left rs.length)
/-- The sizes of a list's fractions fit. -/
def fitQ (rs : List RT) (k : Nat) : Prop := rs.length ≤ k ∧ ∀ r, r ∈ rs → r.le k
theorem fitQ_mono {rs : List RT} {k l : Nat} (h : fitQ rs k) (hkl : k ≤ l) : fitQ rs l := ⟨by have := h.1; omega, fun r hr => RT.le_mono (h.2 r hr) hkl⟩
theorem szTo_le : ∀ (rs : List RT) (left : Int), -1 ≤ left ∧ left ≤ 1048576 → -1 ≤ szTo rs left ∧ szTo rs left ≤ 1048576
  | [], left, h => h
  | r :: rs, left, h => by
    unfold szTo; split
    · omega
    · exact szTo_le rs _ (szR_le h)
theorem szQs_le {rs : List RT} {left : Int} (h : -1 ≤ left ∧ left ≤ 1048576) : -1 ≤ szQs rs left ∧ szQs rs left ≤ 1048576 := by
  unfold szQs; split
  · omega
  · exact szTo_le rs _ (less_le h)
theorem szR_ge {r : RT} {left : Int} (h : 0 ≤ szR r left) : szR r left + (r.m.length + r.d.length : Nat) = left := by
  unfold szR at h ⊢
  split at h
  · omega
  · rename_i h0
    rw [if_neg h0]
    have h1 : less left r.m.length = left - r.m.length := by unfold less at *; split <;> split at * <;> omega
    have h2 : less (less left r.m.length) r.d.length = less left r.m.length - r.d.length := by
      generalize less left r.m.length = l at *
      unfold less at *; split <;> split at * <;> omega
    omega
theorem szTo_n : ∀ {rs : List RT} {left : Int}, -1 ≤ left ∧ left ≤ 1048576 → 0 ≤ szTo rs left → (∀ r, r ∈ rs → r.le 1048576) ∧ szTo rs left + ((rs.map fun r => r.m.length + r.d.length).sum : Nat) = left
  | [], left, h, h0 => ⟨fun r hr => (by cases hr), by simp [szTo]⟩
  | r :: rs, left, h, h0 => by
    unfold szTo at h0 ⊢
    split at h0
    · omega
    · rename_i hn
      rw [if_neg hn]
      have h1 := szR_ge (r := r) (left := left) (by omega)
      obtain ⟨h2, h3⟩ := szTo_n (rs := rs) (szR_le h) h0
      refine ⟨fun x hx => ?_, ?_⟩
      · rcases List.mem_cons.1 hx with rfl | hx
        · exact szR_n h (by omega)
        · exact h2 x hx
      · rw [List.map_cons, List.sum_cons]; omega
def sumQ (rs : List RT) : Nat := (rs.map fun r => r.m.length + r.d.length).sum
theorem szQs_n {rs : List RT} {left : Int} (h : -1 ≤ left ∧ left ≤ 1048576) (h0 : 0 ≤ szQs rs left) : fitQ rs 1048576 ∧ sumQ rs + rs.length ≤ 1048576 := by
  unfold szQs at h0
  split at h0
  · omega
  · rename_i hn
    have h1 := less_n (left := left) (n := rs.length) (by omega)
    have h2 : less left rs.length = left - rs.length := by unfold less at *; split <;> split at * <;> omega
    obtain ⟨h3, h4⟩ := szTo_n (less_le h) h0
    exact ⟨⟨by omega, h3⟩, by unfold sumQ; omega⟩

/-! ### Copies -/
theorem eqRatS_ro (rs : List RT) (hq : fitQ rs 1048576) : RO Tryz.prog 60 [.sl (rv rs), .sl (rv rs)] (.bool true) := by
  have hw := hq.1
  refine ro_of2 Tryz.func60 rfl rfl (by rw [Tryz.ntmps60]; simp) fun bl => ?_
  rw [Tryz.ntmps60, Tryz.results60]
  refine AW_run ?_
  simp
  refine AW_for (fun i : Nat => [(0, .sl (rv rs)), (1, .sl (rv rs)), (5, .int .i64 i)]) (fun _ => bl) (fun i => i ≤ rs.length) (fun i => rs.length - i) _ 0 (Nat.zero_le _) ⟨rfl, by simp, Sub.refl _⟩ ?_
  intro i hi
  refine AW_run ?_
  simp
  refine ⟨fun h1 => ?_, fun h1 => ?_⟩
  · refine AW_quiet mixedO (by kernel_rfl) ?_
    simp [h1, RT.c]
    refine hcQ_ro (eqRat_ro rs[i] (RT.le_mono (hq.2 _ (List.getElem_mem h1)) (by omega))) ?_
    simp (disch := omega) [i64_in, loopQ_normal]
    exact ⟨i + 1, by omega, by omega, rfl, by simp, Sub.refl _⟩
  · exact retRO0 (by simp) rfl rfl

/-! ### Marks -/
def mkQ (k : Nat) (r : RT) : RT := ⟨(k : Int).tmod 3 == 0, marks (k + 1 : Nat) r.m.length, marks (k + 1 + r.m.length : Nat) r.d.length⟩
def mkQN (k : Nat) (r : RT) : Nat := k + 1 + r.m.length + r.d.length
def mkQs : Nat → List RT → List RT
  | _, [] => []
  | k, r :: rs => mkQ k r :: mkQs (mkQN k r) rs
def mkQsN (k : Nat) (rs : List RT) : Nat := rs.foldl mkQN k
@[simp] theorem mkQs_length : ∀ (k : Nat) (rs : List RT), (mkQs k rs).length = rs.length
  | _, [] => rfl
  | k, r :: rs => by rw [mkQs, List.length_cons, List.length_cons, mkQs_length]
theorem mkQsN_take_succ (k : Nat) (rs : List RT) (i : Nat) (h : i < rs.length) : mkQsN k (rs.take (i + 1)) = mkQN (mkQsN k (rs.take i)) rs[i] := by
  unfold mkQsN
  rw [List.take_add_one, List.getElem?_eq_getElem h, Option.toList_some, List.foldl_append]; rfl
theorem mkQs_at : ∀ (k : Nat) (rs : List RT) (i : Nat) (h : i < rs.length), (mkQs k rs)[i]'(by rw [mkQs_length]; exact h) = mkQ (mkQsN k (rs.take i)) rs[i]
  | k, r :: rs, 0, h => rfl
  | k, r :: rs, i + 1, h => by
    simp only [mkQs, List.getElem_cons_succ]
    rw [mkQs_at (mkQN k r) rs i (by simpa using h)]
    rfl
theorem mkQsN_sum : ∀ (k : Nat) (rs : List RT), mkQsN k rs = k + rs.length + sumQ rs
  | k, [] => by simp [mkQsN, sumQ]
  | k, r :: rs => by
    have := mkQsN_sum (mkQN k r) rs
    have e : mkQsN k (r :: rs) = mkQsN (mkQN k r) rs := rfl
    have e2 : sumQ (r :: rs) = (r.m.length + r.d.length) + sumQ rs := by unfold sumQ; rw [List.map_cons, List.sum_cons]
    rw [e, this, e2, List.length_cons]
    unfold mkQN
    omega
theorem mkQsN_mono (k : Nat) (rs : List RT) (i : Nat) : mkQsN k (rs.take i) ≤ mkQsN k rs := by
  rw [mkQsN_sum, mkQsN_sum]
  have h1 : (rs.take i).length ≤ rs.length := List.length_take_le' i rs
  have h2 : sumQ rs = sumQ (rs.take i) + sumQ (rs.drop i) := by
    unfold sumQ
    rw [← List.sum_append, ← List.map_append, List.take_append_drop]
  omega
/-- Rows from which on they are as before. -/
structure Mk where
  i : Nat
  els : List (List V)
  b : Int → Option Blk
theorem mkQs_step (k : Nat) (rs : List RT) (i : Nat) (h : i < rs.length) : ((mkQs k rs).take (i + 1) ++ rs.drop (i + 1)).map dR = (((mkQs k rs).take i ++ rs.drop i).map dR).set i (dR (mkQ (mkQsN k (rs.take i)) rs[i])) := by
  have h2 : i < (mkQs k rs).length := by simpa using h
  rw [List.take_add_one, List.getElem?_eq_getElem h2, mkQs_at k rs i h, Option.toList_some, List.drop_eq_getElem_cons h]
  simp only [List.map_append, List.map_cons, List.map_nil]
  rw [List.set_append_right _ _ (by simp; omega)]
  simp [show min i rs.length = i by omega]
theorem markRatS_cp {bl : Int → Option Blk} {K : V → (Int → Option Blk) → Prop} (rs : List RT) (k : Nat) (v : V) (gs : List Int) (h : OwnD bl (dRs rs) v gs) (hk : mkQsN k rs ≤ 4611686018427387000)
    (hK : ∀ bl', OwnD bl' (dRs (mkQs k rs)) v gs → (∀ g, g ∉ gs → ∀ b, bl g = some b → bl' g = some b) → K (.int .i64 (mkQsN k rs : Nat)) bl') : CallP Tryz.prog 65 [v, .int .i64 k] bl K := by
  refine callP_of Tryz.func65 rfl rfl (by rw [Tryz.ntmps65]; simp) ?_
  rw [Tryz.ntmps65, Tryz.results65]
  refine AW_run ?_
  rcases own_rs.1 h with ⟨rfl, rfl, rfl⟩ | ⟨g, els, gs', rfl, rfl, hg, hb, hneg, ho⟩
  · simp
    refine AW_for (fun _ : Unit => [(0, .nils), (1, .int .i64 k), (5, .int .i64 0)]) (fun _ => bl) (fun _ => True) (fun _ => 0) _ () trivial ⟨rfl, by simp, Sub.refl _⟩ ?_
    intro _ _
    refine AW_run ?_
    simp
    rw [retK_ret]
    refine ⟨[.int .i64 k], by simp, ?_⟩
    exact hK bl (own_rs.2 (.inl ⟨rfl, rfl, rfl⟩)) (fun _ _ _ h => h)
  · have hlen := OwnR.length ho
    simp at hlen
    simp
    refine AW_for (fun p : Mk => [(0, .lsl g 3 0 rs.length), (1, .int .i64 (mkQsN k (rs.take p.i) : Nat)), (5, .int .i64 p.i)]) (fun p => p.b)
      (fun p => p.i ≤ rs.length ∧ p.els.length = rs.length ∧ p.b g = some ⟨3, p.els⟩ ∧ OwnR p.b 3 (((mkQs k rs).take p.i ++ rs.drop p.i).map dR) p.els gs' ∧ (∀ x, x ∉ g :: gs' → ∀ y, bl x = some y → p.b x = some y))
      (fun p => rs.length - p.i) 38 ⟨0, els, bl⟩ ⟨Nat.zero_le _, hlen, hb, by simpa using ho, fun x _ y h => h⟩ ⟨rfl, by simp [mkQsN], Sub.refl _⟩ ?_
    rintro ⟨i, els, b⟩ ⟨hi, hel, hbg, hor, hfr⟩
    simp only at hi hel hbg hor hfr
    refine AW_run ?_
    simp
    have hle := mkQsN_mono k rs i
    have hsm := mkQsN_sum k rs
    refine ⟨fun h1 => ?_, fun h1 => ?_⟩
    · have hge : 0 ≤ g := by
        rcases Int.lt_or_le g 0 with hlt | hge
        · have h2 := hneg hlt; subst h2; simp at hlen; omega
        · exact hge
      have hrl : ((mkQs k rs).take i ++ rs.drop i).length = rs.length := by simp; omega
      have hri : ((mkQs k rs).take i ++ rs.drop i)[i]'(by omega) = rs[i] := by
        rw [List.getElem_append_right (by simp; omega)]
        simp [show min i rs.length = i by omega]
      obtain ⟨e, gi, a1, a2, a3, a4, a5, a6⟩ := hor.at i (by simpa using (by omega : i < ((mkQs k rs).take i ++ rs.drop i).length))
      rw [List.getElem_map, hri] at a2
      obtain ⟨vm, vd, gm, gd, rfl, rfl, hd, om, od⟩ := own_rtL.1 a2
      have c1 := om.one.1
      have d1 := od.one.1
      have hs := mkQsN_take_succ k rs i h1
      have hle2 := mkQsN_mono k rs (i + 1)
      have hst := mkQs_step k rs i h1
      generalize mkQsN k (rs.take i) = q at *
      have hr : rs[i].m.length + rs[i].d.length + q < 4611686018427387904 := by unfold mkQN at hs; omega
      have hil : i < els.length := by omega
      have ea : els[i] = [.bool rs[i].neg, vm, vd] := by
        rw [List.getElem?_eq_getElem hil] at a1; exact Option.some.inj a1
      have gi1 : g ∉ gm := fun hh => hg (a5 g (List.mem_append_left _ hh))
      have gi2 : g ∉ gd := fun hh => hg (a5 g (List.mem_append_right _ hh))
      simp [h1, hbg, hil, ea, c1, d1]
      simp (disch := omega) [i64_in]
      obtain ⟨m3, hm3⟩ : ∃ m3, ((q : Int).tmod 3 == 0) = m3 := ⟨_, rfl⟩
      rw [hm3, show (q : Int) + 1 = (q + 1 : Nat) by simp]
      have hle3 : q + 1 + rs[i].m.length + rs[i].d.length ≤ mkQsN k rs := by unfold mkQN at hs; omega
      obtain ⟨els2, he2⟩ : ∃ e, els.set i [.bool m3, vm, vd] = e := ⟨_, rfl⟩
      have ei2 : els2[i]? = some [.bool m3, vm, vd] := by rw [← he2, List.getElem?_set_self hil]
      have el2 : els2.length = rs.length := by rw [← he2, List.length_set, hel]
      have es2 : els2.set i [.bool m3, vm, vd] = els2 := by rw [← he2, List.set_set]
      rw [he2]
      refine markIntS_cp rs[i].m (q + 1 : Nat) vm gm (om.frame fun x hx => by simp [show x ≠ g from fun e => gi1 (e ▸ hx)]) (by omega) fun b1 om1 k1 => ?_
      have eb1 : b1 g = some ⟨3, els2⟩ := by rw [k1 g gi1]; simp
      simp [h1, eb1, ei2]
      rw [show (q : Int) + 1 + rs[i].m.length = (q + 1 + rs[i].m.length : Nat) by simp]
      refine markIntS_cp rs[i].d (q + 1 + rs[i].m.length : Nat) vd gd (od.frame fun x hx => by
        rw [k1 x (fun hh => hd x hh hx)]
        simp [show x ≠ g from fun e => gi2 (e ▸ hx)]) (by omega) fun b2 od2 k2 => ?_
      simp (disch := omega) [i64_in, loopQ_normal]
      refine ⟨⟨i + 1, els2, b2⟩, ⟨by simp only; omega, el2, by simp only; rw [k2 g gi2]; exact eb1, ?_, fun x hx1 hx2 y hy => ?_⟩, by simp only; omega, rfl, by simp [hs, mkQN], Sub.refl _⟩
      · have := a6 b2 (dR (mkQ q rs[i])) [.bool m3, vm, vd] (own_rtL.2 ⟨vm, vd, gm, gd, by simp [mkQ, hm3], rfl, hd, om1.frame fun x hx => k2 x (hd x hx), od2⟩) rfl (by simp [c1, d1]) (fun x hx hn y hy => by
          simp at hn
          rw [k2 x hn.2, k1 x hn.1, upd_apply, if_neg (fun e : x = g => hg (e ▸ hx))]; exact hy)
        rw [he2, ← hst] at this
        simpa using this
      · show b2 x = some y
        rw [k2 x (fun h => hx2 (a5 x (List.mem_append_right _ h))), k1 x (fun h => hx2 (a5 x (List.mem_append_left _ h))), upd_apply, if_neg hx1]
        exact hfr x (by simp [hx1, hx2]) y hy
    · have : i = rs.length := by omega
      subst this
      rw [retK_ret]
      refine ⟨[.int .i64 (mkQsN k rs : Nat)], by simp, ?_⟩
      have ht : (mkQs k rs).take rs.length = mkQs k rs := List.take_of_length_le (by simp)
      simp only [ht, List.drop_length, List.append_nil] at hor
      exact hK _ (own_rs.2 (.inr ⟨g, els, gs', by simp, rfl, hg, hbg, fun hn => by have := hneg hn; subst this; simp at hlen; exact List.eq_nil_of_length_eq_zero (by omega), hor⟩)) hfr

theorem heldRatS_ro (rs : List RT) (k : Nat) (hk : mkQsN k rs ≤ 4611686018427387000) : RO Tryz.prog 66 [.sl (rv (mkQs k rs)), .int .i64 k] (.int .i64 (mkQsN k rs : Nat)) := by
  refine ro_of2 Tryz.func66 rfl rfl (by rw [Tryz.ntmps66]; simp) fun bl => ?_
  rw [Tryz.ntmps66, Tryz.results66]
  refine AW_run ?_
  simp
  refine AW_for (fun i : Nat => [(0, .sl (rv (mkQs k rs))), (1, .int .i64 (mkQsN k (rs.take i) : Nat)), (5, .int .i64 i)]) (fun _ => bl) (fun i => i ≤ rs.length) (fun i => rs.length - i) _ 0 (Nat.zero_le _) ⟨rfl, by simp [mkQsN], Sub.refl _⟩ ?_
  intro i hi
  refine AW_run ?_
  simp
  refine ⟨fun h1 => ?_, fun h1 => ?_⟩
  · have hsm := mkQsN_sum k rs
    have hs := mkQsN_take_succ k rs i h1
    have hle2 := mkQsN_mono k rs (i + 1)
    have hat := mkQs_at k rs i h1
    generalize mkQsN k (rs.take i) = q at *
    have hle3 : q + 1 + rs[i].m.length + rs[i].d.length ≤ mkQsN k rs := by unfold mkQN at hs; omega
    simp [h1, hat, mkQ, RT.c]
    simp (disch := omega) [i64_in]
    refine callP_ro (heldIntS_ro rs[i].m.length ((q : Int) + 1) (by omega)) ?_
    simp [h1, hat, mkQ, RT.c]
    refine ⟨fun h => by omega, fun h => ?_⟩
    refine callP_ro (heldIntS_ro rs[i].d.length ((q : Int) + 1 + rs[i].m.length) (by omega)) ?_
    simp [h1, hat, mkQ, RT.c]
    refine ⟨fun h => by omega, fun h => ?_⟩
    simp (disch := omega) [i64_in, loopQ_normal]
    refine ⟨i + 1, by omega, by omega, rfl, by simp [hs, mkQN], Sub.refl _⟩
  · have : i = rs.length := by omega
    subst this
    exact retRO0 (by simp) rfl rfl

theorem markIntS_cpN {bl : Int → Option Blk} {K : V → (Int → Option Blk) → Prop} (xs : List Int) (k : Nat) (v : V) (gs : List Int) (h : OwnD bl (fl 1 (iv xs)) v gs) (hk : k + xs.length ≤ 4611686018427387000)
    (hK : ∀ bl', OwnD bl' (fl 1 (iv (marks k xs.length))) v gs → (∀ g, g ∉ gs → ∀ b, bl g = some b → bl' g = some b) → K (.int .i64 (k + xs.length : Nat)) bl') : CallP Tryz.prog 119 [v, .int .i64 k] bl K :=
  markIntS_cp xs k v gs h (by omega) fun bl' o q => by
    have := hK bl' o fun g hg b hb => by rw [q g hg]; exact hb
    simpa using this

/-! ### Arguments -/
end Go.Proofs.YtmbcofnnibpbeaaGreat.Vm

namespace Go.Proofs.YtmbcofnnibpbeaaGreat.Vm
open Go Go.Proofs
set_option linter.unusedSimpArgs false
set_option linter.unusedVariables false

theorem fewer_nw (n : Int) (hn : (lim n.natAbs).length ≤ 60) : NW Tryz.prog 139 [.agg (biC n)] (.a (dB (decide (n < 0)) (lim n.natAbs))) := by
  refine nw_of Tryz.func139 rfl rfl (by rw [Tryz.ntmps139]; simp) fun bl => ?_
  rw [Tryz.ntmps139, Tryz.results139]
  refine AW_run ?_
  rw [biC_def]
  simp
  intro g1 hg1 hb1 g2 hg2 h21 hb2
  try simp [h21, Ne.symm h21]
  refine ⟨fun h => by omega, fun h => ?_⟩
  try simp [h21, Ne.symm h21]
  refine AW_mixedB mixedO (upd bl g1 (some ⟨2, [[.bool (decide (n < 0)), .sl (iv (lim n.natAbs))]]⟩)) (by simp [h21, hb2]) [0, 1, 2, 3] 3 (by kernel_rfl) ?_
  simp [h21, Ne.symm h21]
  refine DAny_one (i := 4) (by kernel_rfl) rfl rfl ?_
  simp [h21, Ne.symm h21]
  refine callP_new (Clone_ints_nw (lim n.natAbs) (by omega)) fun v gs b o f fr => ?_
  obtain ⟨c1, c2⟩ := o.one
  have e1 : ∀ x, x ∈ gs → x ≠ g1 ∧ x ≠ g2 ∧ bl x = none := fun x hx => by have := f x hx; simp [upd_apply] at this; grind
  have n1 : b g1 = _ := fr g1 fun h => (e1 g1 h).1 rfl
  have n2 : b g2 = _ := fr g2 fun h => (e1 g2 h).2.1 rfl
  simp [h21, Ne.symm h21] at n1 n2
  have hs : Sub bl b := fun x y hy => by
    have z1 : x ≠ g1 := fun h => by rw [h, hb1] at hy; cases hy
    have z2 : x ≠ g2 := fun h => by rw [h, hb2] at hy; cases hy
    exact new_keep f fr (by simp [upd_apply, z1, z2, hy])
  have hs1 : Sub (upd bl g1 (some ⟨2, [[.bool (decide (n < 0)), .sl (iv (lim n.natAbs))]]⟩)) b := fun x y hy => by
    rw [upd_apply] at hy
    split at hy
    · rename_i h; subst h; rw [n1]; exact hy
    · exact hs x y hy
  refine ⟨hs1, DAny_one (i := 5) (by kernel_rfl) rfl rfl ?_⟩
  simp [h21, Ne.symm h21, n1, n2, c1, c2]
  refine ⟨hs1, DAny_one (i := 6) (by kernel_rfl) rfl rfl ?_⟩
  simp [h21, Ne.symm h21, n1, n2, c1, c2]
  refine ⟨hs1.upd (by simp [h21, hb2]) _, DAny_done (by kernel_rfl) ?_⟩
  simp [h21, Ne.symm h21, n1, n2, c1, c2]
  refine retNW [.agg [.bool (decide (n < 0)), v]] gs (by simp [c1, n1, n2]) ?_ (fun x hx => (e1 x hx).2.2) (hs.upd hb2 _)
  exact own_bi.2 ⟨v, rfl, o.frame fun x hx => by simp [upd_apply, (e1 x hx).2.1]⟩

theorem store_nw (x : Option Rat) (hx : okQ x) : NW Tryz.prog 87 [fv x] (.a (dR (ro x))) := by
  cases x with
  | none =>
    refine nw_of Tryz.func87 rfl rfl (by rw [Tryz.ntmps87]; simp) fun bl => ?_
    rw [Tryz.ntmps87, Tryz.results87]
    refine AW_run ?_
    simp [fv]
    intro g2 hg2 hb2
    refine retNW [.agg [.bool false, .nils, .nils]] [] (by simp) ?_ (by simp) (by simp [hb2])
    exact own_rt.2 ⟨.nils, .nils, [], [], rfl, rfl, by simp, own_iv.2 (.inl ⟨rfl, rfl, rfl⟩), own_iv.2 (.inl ⟨rfl, rfl, rfl⟩)⟩
  | some q =>
    have hf := hx q rfl
    have hl := hf.1
    have hl2 := hf.2
    refine nw_of Tryz.func87 rfl rfl (by rw [Tryz.ntmps87]; simp) fun bl => ?_
    rw [Tryz.ntmps87, Tryz.results87]
    refine AW_run ?_
    rw [show fv (some q) = .ptr (rq q).c from rfl, rqc_def]
    simp
    intro g2 hg2 hb2
    refine AW_mixedB mixedO bl (by simp [hb2]) [0, 1, 2, 3, 5, 6, 7, 8] 4 (by kernel_rfl) ?_
    simp
    refine DAny_one (i := 4) (by kernel_rfl) rfl rfl ?_
    simp
    have hfw := fewer_nw q.num (by omega)
    rw [biC_def] at hfw
    refine callP_new hfw fun v gs b o f fr => ?_
    obtain ⟨vm, rfl, om⟩ := own_bi.1 o
    obtain ⟨c1, c2⟩ := om.one
    have e1 : ∀ x, x ∈ gs → x ≠ g2 ∧ bl x = none := fun x hx => by have := f x hx; simp [upd_apply] at this; exact this
    have n2 : b g2 = _ := fr g2 fun h => (e1 g2 h).1 rfl
    simp at n2
    have hs : Sub bl b := fun x y hy => by
      have z2 : x ≠ g2 := fun h => by rw [h, hb2] at hy; cases hy
      exact new_keep f fr (by simp [upd_apply, z2, hy])
    refine ⟨hs, DAny_one (i := 9) (by kernel_rfl) rfl rfl ?_⟩
    simp
    refine callP_new (Clone_ints_nw (lim q.den) (by omega)) fun w gw b2 ow f2 fr2 => ?_
    obtain ⟨d1, d2⟩ := ow.one
    have m2 : b2 g2 = _ := new_keep f2 fr2 n2
    have hs2 : Sub bl b2 := fun x y hy => new_keep f2 fr2 (hs x y hy)
    have e3 : ∀ x, x ∈ gw → x ≠ g2 := fun x hx h => by have := f2 x hx; rw [h, n2] at this; cases this
    have e4 : ∀ x, x ∈ gs → x ∉ gw := fun x hx h => by
      obtain ⟨y, hy⟩ := om.has x hx
      rw [f2 x h] at hy; cases hy
    refine ⟨hs2, DAny_one (i := 10) (by kernel_rfl) rfl rfl ?_⟩
    simp [m2, c1, c2, d1, d2]
    refine ⟨hs2, DAny_one (i := 11) (by kernel_rfl) rfl rfl ?_⟩
    simp [m2, c1, c2, d1, d2]
    refine ⟨hs2.upd hb2 _, DAny_done (by kernel_rfl) ?_⟩
    simp [m2, c1, c2, d1, d2]
    refine retNW [.agg [.bool (decide (q.num < 0)), vm, w]] (gs ++ gw) (by simp [c1, d1, m2]) ?_ (fun x hx => ?_) (hs2.upd hb2 _)
    · refine own_rt.2 ⟨vm, w, gs, gw, rfl, rfl, e4, om.frame fun x hx => ?_, ow.frame fun x hx => ?_⟩
      · simp only [upd_apply]; rw [if_neg (e1 x hx).1]; exact fr2 x (e4 x hx)
      · simp only [upd_apply]; rw [if_neg (e3 x hx)]
    · rcases List.mem_append.1 hx with hx | hx
      · exact (e1 x hx).2
      · exact fresh_of hs (f2 x hx)

def dT (r : RT) (b : Bool) : D := .t [.a (dR r), .c (.bool b)]
theorem own_dT {bl : Int → Option Blk} {r : RT} {b : Bool} {v : V} {gs : List Int} : OwnD bl (dT r b) v gs ↔ ∃ vs, v = .tup [.agg vs, .bool b] ∧ OwnL bl (dR r) vs gs := by
  unfold dT
  rw [OwnD]
  constructor
  · rintro ⟨vs, rfl, h⟩
    obtain ⟨v, w, g1, g2, rfl, rfl, hd, h1, h2⟩ := own_pair.1 h
    rw [OwnD] at h2
    obtain ⟨rfl, _, rfl⟩ := h2
    rw [OwnD] at h1
    obtain ⟨vs, rfl, h1⟩ := h1
    exact ⟨vs, rfl, by simpa using h1⟩
  · rintro ⟨vs, rfl, h⟩
    refine ⟨_, rfl, own_pair.2 ⟨.agg vs, .bool b, gs, [], rfl, by simp, fun x hx h => (by cases h), by rw [OwnD]; exact ⟨vs, rfl, h⟩, own_bool b⟩⟩
theorem told_nw (x : Option Rat) (hx : okQ x) : NW Tryz.prog 74 [fv x] (dT (ro x) x.isSome) := by
  cases x with
  | none =>
    refine nw_of Tryz.func74 rfl rfl (by rw [Tryz.ntmps74]; simp) fun bl => ?_
    rw [Tryz.ntmps74, Tryz.results74]
    refine AW_run ?_
    simp [fv]
    intro g2 hg2 hb2
    refine retNW [.agg [.bool false, .nils, .nils], .bool false] [] (by simp) ?_ (by simp) (by simp [hb2])
    exact own_dT.2 ⟨_, rfl, own_rtL.2 ⟨.nils, .nils, [], [], rfl, rfl, by simp, own_iv.2 (.inl ⟨rfl, rfl, rfl⟩), own_iv.2 (.inl ⟨rfl, rfl, rfl⟩)⟩⟩
  | some q =>
    refine nw_of Tryz.func74 rfl rfl (by rw [Tryz.ntmps74]; simp) fun bl => ?_
    rw [Tryz.ntmps74, Tryz.results74]
    refine AW_run ?_
    simp [fv]
    intro g2 hg2 hb2
    refine callP_new (store_nw (some q) hx) fun v gs b o f fr => ?_
    obtain ⟨vm, vd, ga, gb, rfl, rfl, hd, om, od⟩ := own_rt.1 o
    obtain ⟨c1, c2⟩ := om.one
    obtain ⟨d1, d2⟩ := od.one
    have e1 : ∀ x, x ∈ ga ++ gb → x ≠ g2 ∧ bl x = none := fun x hx => by have := f x hx; simp only [upd_apply] at this; split at this <;> simp_all
    have n2 : b g2 = some ⟨3, [[.bool false, .nils, .nils]]⟩ := new_keep f fr (by simp)
    have hs : Sub bl b := fun x y hy => by
      have z2 : x ≠ g2 := fun h => by rw [h, hb2] at hy; cases hy
      exact new_keep f fr (by simp [upd_apply, z2, hy])
    simp [n2, c1, d1]
    refine retNW [.agg [.bool (ro (some q)).neg, vm, vd], .bool true] (ga ++ gb) (by simp [c1, d1]) ?_ (fun x hx => (e1 x hx).2) (hs.upd hb2 _)
    refine own_dT.2 ⟨_, rfl, (own_rtL.2 ⟨vm, vd, ga, gb, rfl, rfl, hd, om, od⟩).frame fun x hx => by simp [upd_apply, (e1 x hx).1]⟩


/-- The width of a span, if it has one. -/
def widQ (s : SP) : Option Rat := if spOk s && !s.nl && !s.nh then op2 (· - ·) (rd s.hi) (rd s.lo) else none
theorem okQ_wid (s : SP) : okQ (widQ s) := by
  unfold widQ; split
  · exact okQ_op2 _ _ _
  · intro q h; cases h
theorem ok_ro {x : Option Rat} (h : okQ x) : decide (ro x).ok = x.isSome := by
  have := rd_ok (r := ro x)
  rw [rd_ro h] at this
  rw [Bool.eq_iff_iff, decide_eq_true_iff, this]
theorem ro_le {x : Option Rat} (h : okQ x) : (ro x).m.length ≤ 24 ∧ (ro x).d.length ≤ 24 := by
  cases x with
  | none => simp [ro, rz]
  | some q => exact h q rfl
theorem frz_rtL {bl : Int → Option Blk} {r : RT} {vs : List V} {gs : List Int} (h : OwnL bl (dR r) vs gs) (n : Nat) : frz bl (n + 2) (.agg vs) = some (.agg r.c) :=
  frz_rt (by rw [OwnD]; exact ⟨vs, rfl, h⟩) n
theorem own_sp1 {bl : Int → Option Blk} {s : SP} {vs : List V} {gs : List Int} (h : OwnL bl (dS s) vs gs) : ∃ vm vd wm wd, vs = [.bool s.lo.neg, vm, vd, .bool s.hi.neg, wm, wd, .bool s.nl, .bool s.nh] ∧ vm.one = true ∧ vd.one = true ∧ wm.one = true ∧ wd.one = true := by
  obtain ⟨v1, v2, ga, gb, rfl, rfl, hd, o1, o2⟩ := own_spL.1 h
  obtain ⟨vm, vd, _, _, rfl, rfl, _, om, od⟩ := own_rtL.1 o1
  obtain ⟨wm, wd, _, _, rfl, rfl, _, om2, od2⟩ := own_rtL.1 o2
  exact ⟨vm, vd, wm, wd, rfl, om.one.1, od.one.1, om2.one.1, od2.one.1⟩
theorem own_rt1 {bl : Int → Option Blk} {r : RT} {vs : List V} {gs : List Int} (h : OwnL bl (dR r) vs gs) : ∃ vm vd, vs = [.bool r.neg, vm, vd] ∧ vm.one = true ∧ vd.one = true := by
  obtain ⟨vm, vd, _, _, rfl, rfl, _, om, od⟩ := own_rtL.1 h
  exact ⟨vm, vd, rfl, om.one.1, od.one.1⟩

end Go.Proofs.YtmbcofnnibpbeaaGreat.Vm

namespace Go.Proofs.YtmbcofnnibpbeaaGreat.Vm
open Go Go.Proofs
set_option linter.unusedSimpArgs false
set_option linter.unusedVariables false

/-! ### Lists of fractions that may be none -/
def fvs (xs : List (Option Rat)) : List (List V) := xs.map fun x => [fv x]
@[simp] theorem fvs_length (xs : List (Option Rat)) : (fvs xs).length = xs.length := by simp [fvs]
@[simp] theorem fvs_getE (xs : List (Option Rat)) (i : Nat) (h : i < (fvs xs).length) : (fvs xs)[i] = [fv (xs[i]'(by simpa using h))] := by simp [fvs]
@[simp] theorem fv_cl (x : Option Rat) : (fv x).cl = true := by cases x <;> rfl
@[simp] theorem fv_one (x : Option Rat) : (fv x).one = true := by cases x <;> rfl
@[simp] theorem fv_cells (x : Option Rat) : (fv x).cells = [fv x] := by cases x <;> rfl
theorem fvs_cl (xs : List (Option Rat)) : (fvs xs).all (fun r => r.all V.cl) = true := by simp [fvs]
theorem fvs_clen (xs : List (Option Rat)) : ∀ r, r ∈ fvs xs → r.length = 1 := by
  intro r hr
  obtain ⟨n, _, rfl⟩ := List.mem_map.1 hr
  rfl
theorem own_fvs {bl : Int → Option Blk} {xs : List (Option Rat)} {v : V} {gs : List Int} : OwnD bl (fl 1 (fvs xs)) v gs ↔ (xs = [] ∧ v = .nils ∧ gs = []) ∨ ∃ g, v = .lsl g 1 0 xs.length ∧ gs = [g] ∧ bl g = some ⟨1, fvs xs⟩ ∧ (g < 0 → xs = []) := by
  rw [own_fl (fvs_cl xs) (fvs_clen xs)]
  simp [fvs]
def okL (xs : List (Option Rat)) : Prop := ∀ x, x ∈ xs → okQ x
/-- A list and whether it is one. -/
def dL (xs : List (Option Rat)) (b : Bool) : D := .t [fl 1 (fvs xs), .c (.bool b)]
theorem own_two {bl : Int → Option Blk} {d : D} {b : Bool} {v : V} {gs : List Int} : OwnD bl (.t [d, .c (.bool b)]) v gs ↔ ∃ w, v = .tup [w, .bool b] ∧ OwnD bl d w gs := by
  rw [OwnD]
  constructor
  · rintro ⟨vs, rfl, h⟩
    obtain ⟨v, w, g1, g2, rfl, rfl, hd, h1, h2⟩ := own_pair.1 h
    rw [OwnD] at h2
    obtain ⟨rfl, _, rfl⟩ := h2
    exact ⟨v, rfl, by simpa using h1⟩
  · rintro ⟨w, rfl, h⟩
    exact ⟨_, rfl, own_pair.2 ⟨w, .bool b, gs, [], rfl, by simp, fun x hx h => (by cases h), h, own_bool b⟩⟩
theorem dL_dep (xs : List (Option Rat)) (b : Bool) (n : Nat) : (dL xs b).dep (n + 2) := by
  unfold dL; rw [D.dep]; exact ⟨by omega, by simp [D.depL, D.dep, fl_dep]⟩
theorem dL_fz (xs : List (Option Rat)) (b : Bool) : (dL xs b).fz = .tup [.sl (fvs xs), .bool b] := by simp [dL, D.fz, D.fzL]

def allOk (rs : List RT) : Bool := rs.all fun r => (rd r).isSome
def rdAll (rs : List RT) : List (Option Rat) := rs.map rd
@[simp] theorem rdAll_length (rs : List RT) : (rdAll rs).length = rs.length := by simp [rdAll]
theorem rdAll_ok (rs : List RT) : okL (rdAll rs) := by
  intro x hx
  obtain ⟨r, _, rfl⟩ := List.mem_map.1 hx
  exact okQ_rd r

theorem loads_nw (rs : List RT) (hq : fitQ rs 1048576) : NW Tryz.prog 84 [.sl (rv rs)] (dL (if allOk rs = true then rdAll rs else []) (allOk rs)) := by
  have hw := hq.1
  refine nw_of Tryz.func84 rfl rfl (by rw [Tryz.ntmps84]; simp) fun bl => ?_
  rw [Tryz.ntmps84, Tryz.results84]
  refine AW_run ?_
  simp
  refine ⟨by omega, by unfold maxLen; omega, fun g hg0 hg => ?_⟩
  refine AW_for (fun i : Nat => [(4, .lsl g 1 0 rs.length), (10, .sl (rv rs)), (11, .int .i64 rs.length), (12, .int .i64 i)]) (fun i => upd bl g (some ⟨1, part (fvs (rdAll rs)) [.nilp] i⟩)) (fun i => i ≤ rs.length ∧ ∀ r, r ∈ rs.take i → (rd r).isSome = true) (fun i => rs.length - i) _ 0 ⟨Nat.zero_le _, by simp⟩ ⟨rfl, by simp, sub_eq (by simp)⟩ ?_
  rintro i ⟨hi, hall⟩
  refine AW_run ?_
  simp
  refine ⟨fun h => ?_, fun h => ?_⟩
  · have hi' : i < (fvs (rdAll rs)).length := by simpa using h
    simp [h, RT.c]
    intro g2 hg2 h2g hb2
    try simp [h2g, Ne.symm h2g]
    have hr := hq.2 _ (List.getElem_mem h)
    refine callP_ro (load_ro rs[i] (by have := hr.1; omega) (by have := hr.2; omega)) ?_
    have hpl : i < (part (fvs (rdAll rs)) [.nilp] i).length := by simp [part]; omega
    have hpi : (part (fvs (rdAll rs)) [.nilp] i)[i]? = some [.nilp] := part_get _ _ _ hi'
    have hpe : (part (fvs (rdAll rs)) [.nilp] i)[i] = [.nilp] := by
      rw [List.getElem?_eq_getElem hpl] at hpi; exact Option.some.inj hpi
    rcases ev : rd rs[i] with _ | a
    · have hno : allOk rs = false := by
        rw [Bool.eq_false_iff]
        intro hh
        have := List.all_eq_true.1 hh rs[i] (List.getElem_mem h)
        rw [ev] at this; cases this
      simp [h, ev, fv, hpl, hpe, h2g, Ne.symm h2g, hno]
      refine retNW [.nils, .bool false] [] (by simp) ?_ (by simp) (by simp [hg, hb2])
      exact own_two.2 ⟨.nils, rfl, own_fvs.2 (.inl ⟨rfl, rfl, rfl⟩)⟩
    · have hset : (part (fvs (rdAll rs)) [.nilp] i).set i [fv (some a)] = part (fvs (rdAll rs)) [.nilp] (i + 1) := by
        rw [part_set _ _ _ hi']
        simp [rdAll, ev]
      simp [h, ev, fv, hpl, hpe, h2g, Ne.symm h2g]
      simp (disch := omega) [i64_in, loopQ_normal]
      refine ⟨i + 1, ⟨by omega, fun r hr => ?_⟩, by omega, rfl, by simp, ?_⟩
      · rw [List.take_add_one, List.getElem?_eq_getElem h] at hr
        rcases List.mem_append.1 hr with hr | hr
        · exact hall r hr
        · obtain rfl : r = rs[i] := by simpa using hr
          rw [ev]; rfl
      · have e2 := hset
        simp only [fv] at e2
        intro z y hz
        simp only [upd_apply, e2] at hz ⊢
        grind
  · have hi2 : i = rs.length := by omega
    have hyes : allOk rs = true := List.all_eq_true.2 fun r hr => hall r (by rw [hi2, List.take_length]; exact hr)
    simp [hyes]
    refine retNW [.lsl g 1 0 rs.length, .bool true] [g] (by simp) ?_ (by simpa using hg) (by simp [hg])
    rw [part_all _ _ _ (by simpa using h)]
    exact own_two.2 ⟨_, rfl, own_fvs.2 (.inr ⟨g, by simp, rfl, by simp, by omega⟩)⟩

theorem loads_ro (rs : List RT) (hq : fitQ rs 1048576) : RO Tryz.prog 84 [.sl (rv rs)] (.tup [.sl (fvs (if allOk rs = true then rdAll rs else [])), .bool (allOk rs)]) := by
  have := ro_of_nw 2 (loads_nw rs hq) (dL_dep _ _ 0)
  rwa [dL_fz] at this
def vecOk (rs : List RT) : Bool := decide (rs.length ≤ 24) && allOk rs
theorem own_dL {bl : Int → Option Blk} {xs : List (Option Rat)} {b : Bool} {v : V} {gs : List Int} (h : OwnD bl (dL xs b) v gs) : ∃ w, v = .tup [w, .bool b] ∧ OwnD bl (fl 1 (fvs xs)) w gs ∧ w.one = true ∧ w.cells = [w] := by
  obtain ⟨w, rfl, o⟩ := own_two.1 h
  exact ⟨w, rfl, o, o.one⟩
theorem loadVector_nw (rs : List RT) (hq : fitQ rs 1048576) : NW Tryz.prog 41 [.sl (rv rs)] (dL (if vecOk rs = true then rdAll rs else []) (vecOk rs)) := by
  have hw := hq.1
  refine nw_of Tryz.func41 rfl rfl (by rw [Tryz.ntmps41]; simp) fun bl => ?_
  rw [Tryz.ntmps41, Tryz.results41]
  refine AW_run ?_
  simp
  refine ⟨fun h => ?_, fun h => ?_⟩
  · have hv : vecOk rs = false := by unfold vecOk; rw [decide_eq_false (by omega)]; rfl
    rw [hv]
    refine retNW [.nils, .bool false] [] (by simp) ?_ (by simp) (Sub.refl _)
    exact own_two.2 ⟨.nils, rfl, own_fvs.2 (.inl ⟨rfl, rfl, rfl⟩)⟩
  · have hv : vecOk rs = allOk rs := by unfold vecOk; rw [decide_eq_true (by omega)]; rfl
    rw [hv]
    refine callP_new (loads_nw rs hq) fun v gs b o f fr => ?_
    obtain ⟨w, rfl, ow, w1, w2⟩ := own_dL o
    simp
    exact retNW [w, .bool (allOk rs)] gs (by simp) (own_two.2 ⟨w, rfl, ow⟩) f (fun x y hy => new_keep f fr hy)
theorem loadVector_ro (rs : List RT) (hq : fitQ rs 1048576) : RO Tryz.prog 41 [.sl (rv rs)] (.tup [.sl (fvs (if vecOk rs = true then rdAll rs else [])), .bool (vecOk rs)]) := by
  have := ro_of_nw 2 (loadVector_nw rs hq) (dL_dep _ _ 0)
  rwa [dL_fz] at this

/-! ### Handing back -/
def allSome (xs : List (Option Rat)) : Bool := xs.all Option.isSome
def roAll (xs : List (Option Rat)) : List RT := xs.map ro
@[simp] theorem roAll_length (xs : List (Option Rat)) : (roAll xs).length = xs.length := by simp [roAll]
/-- Fractions handed back, and whether all are some. -/
def stQ (xs : List (Option Rat)) : List RT := if allSome xs = true then roAll xs else []
def dV (rs : List RT) (b : Bool) : D := .t [dRs rs, .c (.bool b)]
theorem dV_dep (rs : List RT) (b : Bool) (n : Nat) : (dV rs b).dep (n + 3) := by
  unfold dV; rw [D.dep]; exact ⟨by omega, by simp [D.depL, D.dep, dRs_dep]⟩
theorem dV_fz (rs : List RT) (b : Bool) : (dV rs b).fz = .tup [.sl (rv rs), .bool b] := by simp [dV, D.fz, D.fzL, dRs_fz]
theorem dV_sc (rs : List RT) (b : Bool) : (dV rs b).sc = true := by simp [dV, D.sc, D.scL, dRs_sc, V.ow]
theorem own_dV {bl : Int → Option Blk} {rs : List RT} {b : Bool} {v : V} {gs : List Int} (h : OwnD bl (dV rs b) v gs) : ∃ w, v = .tup [w, .bool b] ∧ OwnD bl (dRs rs) w gs ∧ w.one = true ∧ w.cells = [w] := by
  obtain ⟨w, rfl, o⟩ := own_two.1 h
  exact ⟨w, rfl, o, own_rs1 o⟩
theorem own_dV0 {bl : Int → Option Blk} (b : Bool) : OwnD bl (dV [] b) (.tup [.nils, .bool b]) [] := own_two.2 ⟨.nils, rfl, own_rs.2 (.inl ⟨rfl, rfl, rfl⟩)⟩

theorem stores_nw (xs : List (Option Rat)) (hx : okL xs) (hw : xs.length ≤ 1048576) : NW Tryz.prog 42 [.sl (fvs xs)] (dV (stQ xs) (allSome xs)) := by
  refine nw_of Tryz.func42 rfl rfl (by rw [Tryz.ntmps42]; simp) fun bl => ?_
  rw [Tryz.ntmps42, Tryz.results42]
  refine AW_run ?_
  simp
  refine ⟨by omega, by unfold maxLen; omega, fun g hg0 hg => ?_⟩
  refine AW_for (fun p : Grow => [(4, .lsl g 3 0 xs.length), (10, .sl (fvs xs)), (11, .int .i64 xs.length), (12, .int .i64 p.els.length)]) (fun p => p.b)
    (fun p => p.els.length ≤ xs.length ∧ (∀ x, x ∈ xs.take p.els.length → x.isSome = true) ∧ p.b g = some ⟨3, p.els ++ List.replicate (xs.length - p.els.length) [.bool false, .nils, .nils]⟩ ∧ OwnR p.b 3 (((roAll xs).map dR).take p.els.length) p.els p.gs ∧ g ∉ p.gs ∧ (∀ x, x ∈ p.gs → bl x = none) ∧ Sub bl p.b)
    (fun p => xs.length - p.els.length) 26 ⟨[], [], upd bl g (some ⟨3, List.replicate xs.length [.bool false, .nils, .nils]⟩)⟩ ⟨Nat.zero_le _, by simp, by simp, by simp [OwnR], by simp, by simp, by simp [hg]⟩ ⟨rfl, by simp, by simp⟩ ?_
  rintro ⟨els, gs, b⟩ ⟨hi, hall, hb, ho, hn, hf, hs⟩
  simp only at hi hall hb ho hn hf hs
  refine AW_run ?_
  simp
  refine ⟨fun h => ?_, fun h => ?_⟩
  · rcases ex : xs[els.length] with _ | q
    · have hno : allSome xs = false := by
        rw [Bool.eq_false_iff]
        intro hh
        have := List.all_eq_true.1 hh xs[els.length] (List.getElem_mem h)
        rw [ex] at this; cases this
      have hst : stQ xs = [] := by unfold stQ; rw [hno]; rfl
      simp [h, ex, fv]
      rw [hno, hst]
      refine retNW [.nils, .bool false] [] (by simp) (own_dV0 _) (by simp) hs
    · simp [h, ex, fv]
      have hq0 : okQ (some q) := by rw [← ex]; exact hx _ (List.getElem_mem h)
      have hstore := store_nw (some q) hq0
      rw [show fv (some q) = .ptr (rq q).c from rfl] at hstore
      refine callP_new hstore fun v gv b' o f fr => ?_
      rw [OwnD] at o
      obtain ⟨vs, rfl, o⟩ := o
      obtain ⟨vm, vd, _, _, rfl, _, _, om, od⟩ := own_rtL.1 o
      have c1 := om.one.1
      have d1 := od.one.1
      have hb' : b' g = _ := new_keep f fr hb
      have hgv : g ∉ gv := fun hh => by have := f g hh; rw [hb] at this; cases this
      simp [h, hb', grow_get els [.bool false, .nils, .nils] xs.length h, c1, d1]
      simp (disch := omega) [i64_in, loopQ_normal]
      have gg := grow_set' els [.bool false, .nils, .nils] [.bool (ro (some q)).neg, vm, vd] xs.length h
      refine ⟨⟨els ++ [[.bool (ro (some q)).neg, vm, vd]], gs ++ gv, upd b' g (some ⟨3, (els ++ [[.bool (ro (some q)).neg, vm, vd]]) ++ List.replicate (xs.length - (els ++ [[V.bool (ro (some q)).neg, vm, vd]]).length) [.bool false, .nils, .nils]⟩)⟩, ⟨by simp; omega, ?_, by simp, ?_, ?_, ?_, ?_⟩, by simp; omega, rfl, by simp, sub_eq ?_⟩
      · intro x hx
        simp only [List.length_append, List.length_singleton] at hx
        rw [List.take_add_one, List.getElem?_eq_getElem h] at hx
        rcases List.mem_append.1 hx with hx | hx
        · exact hall x hx
        · obtain rfl : x = xs[els.length] := by simpa using hx
          rw [ex]; rfl
      · have h2 : els.length < (roAll xs).length := by simpa using h
        have ht : ((roAll xs).map dR).take (els ++ [[V.bool (ro (some q)).neg, vm, vd]]).length = ((roAll xs).map dR).take els.length ++ [dR (ro (some q))] := by
          rw [List.length_append, List.length_singleton, List.take_add_one, List.getElem?_map, List.getElem?_eq_getElem h2]; simp [roAll, ex]
        simp only
        rw [ht]
        refine OwnR.snoc (o.frame fun x hx => by simp [show x ≠ g from fun e => hgv (e ▸ hx)]) rfl (by simp [c1, d1]) (ho.keep fun x hx y hy => ?_) fun x hx hx2 => ?_
        · rw [upd_apply, if_neg (fun e => hn (by rw [← e]; exact hx))]; exact new_keep f fr hy
        · exact ho.not (f x hx2) hx
      · simp only [List.mem_append]; rintro (h | h)
        · exact hn h
        · exact hgv h
      · intro x hx
        rcases List.mem_append.1 hx with hx | hx
        · exact hf x hx
        · exact fresh_of hs (f x hx)
      · exact sub_new' hg fun x y hy => new_keep f fr (hs x y hy)
      · exact congrArg (fun e => upd b' g (some (Blk.mk 3 e))) gg
  · have hl : els.length = xs.length := by omega
    have hyes : allSome xs = true := List.all_eq_true.2 fun x hx => hall x (by rw [hl, List.take_length]; exact hx)
    have hst : stQ xs = roAll xs := by unfold stQ; rw [hyes]; rfl
    rw [hyes, hst]
    refine retNW [.lsl g 3 0 xs.length, .bool true] (g :: gs) (by simp) ?_ (by simpa [hg] using hf) hs
    refine own_two.2 ⟨_, rfl, own_rs.2 (.inr ⟨g, els, gs, by simp, rfl, hn, ?_, by omega, ?_⟩)⟩
    · show b g = _
      rw [hb, hl]; simp
    · rw [hl] at ho
      rw [List.take_of_length_le (by simp)] at ho
      exact ho

theorem frz_tup2 {bl : Int → Option Blk} {n : Nat} {x y : V} {b : Bool} (h : frz bl n x = some y) : frz bl (n + 1) (.tup [x, .bool b]) = some (.tup [y, .bool b]) := by
  rw [frz_tup]
  simp only [List.mapM_cons, List.mapM_nil, h, show frz bl n (.bool b) = some (.bool b) by cases n <;> simp [frz]]
  rfl
theorem rv_all (rs : List RT) : ((rv rs).all fun c => c.length == 3 && c.all V.one) = true := by simp [rv, RT.c]
theorem rv_cl (rs : List RT) : (rv rs).all (fun r => r.all V.cl) = true := by simp [rv, RT.c, V.cl]
theorem rv_append (a b : List RT) : rv (a ++ b) = rv a ++ rv b := by simp [rv]
theorem roAll_append (a b : List (Option Rat)) : roAll (a ++ b) = roAll a ++ roAll b := by simp [roAll]
theorem stQ_fit {zs : List (Option Rat)} (h : okL zs) (hl : zs.length ≤ 1048576) : fitQ (stQ zs) 1048576 ∧ sumQ (stQ zs) ≤ 100000000 := by
  have hle : ∀ r, r ∈ stQ zs → r.m.length ≤ 24 ∧ r.d.length ≤ 24 := by
    intro r hr
    unfold stQ at hr
    split at hr
    · obtain ⟨x, hx, rfl⟩ := List.mem_map.1 hr
      exact ro_le (h x hx)
    · cases hr
  have hn : (stQ zs).length ≤ zs.length := by
    unfold stQ; split
    · simp
    · simp
  have hs : sumQ (stQ zs) ≤ 48 * (stQ zs).length := by
    generalize stQ zs = rs at hle
    clear hn h hl
    unfold sumQ
    induction rs with
    | nil => simp
    | cons r rs ih =>
      rw [List.map_cons, List.sum_cons, List.length_cons]
      have h1 := hle r List.mem_cons_self
      have h2 := ih fun x hx => hle x (List.mem_cons_of_mem _ hx)
      omega
  exact ⟨⟨by omega, fun r hr => ⟨by have := (hle r hr).1; omega, by have := (hle r hr).2; omega⟩⟩, by omega⟩
theorem okL_none : okL [none] := by
  intro x hx
  obtain rfl : x = none := by simpa using hx
  intro q h; cases h

end Go.Proofs.YtmbcofnnibpbeaaGreat.Vm

namespace Go.Proofs.YtmbcofnnibpbeaaGreat.Vm
open Go Go.Proofs
set_option linter.unusedSimpArgs false
set_option linter.unusedVariables false

def fitsQ (s : Str) (q : List RT) : Bool := (sOk s && decide (q.length = s.ms.length)) && allOk q
theorem densities_ro (s : Str) (q : List RT) (hj : s.js.length ≤ 140737488351232) (hm : s.ms.length ≤ 140737488351232) (hn : ∀ j, j ∈ s.js → j.name.size ≤ 140737488351232) (hq : fitQ q 1048576) : RO Tryz.prog 48 [.ptr s.c, .sl (rv q)] (.tup [.sl (fvs (if fitsQ s q = true then rdAll q else [])), .bool (fitsQ s q)]) := by
  refine ro_of2 Tryz.func48 rfl rfl (by rw [Tryz.ntmps48]; simp) fun bl => ?_
  rw [Tryz.ntmps48, Tryz.results48]
  refine AW_run ?_
  simp [Str.c]
  refine AW_way0 [(0, .ptr s.c), (1, .sl (rv q)), (4, .nils), (5, .bool false)] _ bl 20 (.bool (!(sOk s && decide (q.length = s.ms.length)))) ⟨rfl, by simp [Str.c], Sub.refl _⟩ rfl ?_ ?_
  · simp [Str.c]
    refine ⟨fun h => ?_, fun h => ?_⟩
    · right; omega
    · refine callP_ro (impl_StructureOk_ro s hj hm hn) ?_
      simp
      intro h2; omega
  cases hw : (sOk s && decide (q.length = s.ms.length))
  · have hf : fitsQ s q = false := by unfold fitsQ; rw [hw]; rfl
    rw [hf]
    simp
    exact retRO [.nils, .bool false] 1 (by simp) (by simp [frz, fvs, V.cl]) (Sub.refl _)
  · have hf : fitsQ s q = allOk q := by unfold fitsQ; rw [hw]; rfl
    rw [hf]
    simp
    refine callP_ro (loads_ro q hq) ?_
    simp
    exact retRO [.sl (fvs (if allOk q = true then rdAll q else [])), .bool (allOk q)] 1 (by simp) (by simp [frz]) (Sub.refl _)

/-- Does a density have the wrong sign for its member? -/
def sgnBad (m : Mb) (x : Option Rat) : Bool := (decide (m.kind = 1) && decide (sgq x < 0)) || (decide (m.kind = 2) && decide (0 < sgq x))
def sgnsTo (ms : List Mb) (q : List RT) (n : Nat) : Prop := ∀ k (h1 : k < ms.length) (h2 : k < q.length), k < n → sgnBad ms[k] (rd q[k]) = false
def hasS (s : Str) (q : List RT) : Bool := fitsQ s q && (List.zip s.ms q).all fun p => !sgnBad p.1 (rd p.2)
theorem hasS_yes {s : Str} {q : List RT} (hf : fitsQ s q = true) (h : sgnsTo s.ms q s.ms.length) : hasS s q = true := by
  unfold hasS
  rw [hf, Bool.true_and, List.all_eq_true]
  intro p hp
  obtain ⟨k, hk, rfl⟩ := List.getElem_of_mem hp
  rw [List.length_zip] at hk
  rw [List.getElem_zip]
  simp only
  rw [h k (by omega) (by omega) (by omega)]; rfl
theorem hasS_no {s : Str} {q : List RT} (k : Nat) (h1 : k < s.ms.length) (h2 : k < q.length) (h : sgnBad s.ms[k] (rd q[k]) = true) : hasS s q = false := by
  unfold hasS
  rw [Bool.and_eq_false_iff]
  right
  rw [List.all_eq_false]
  refine ⟨(s.ms[k], q[k]), ?_, by simp [h]⟩
  rw [List.mem_iff_getElem]
  exact ⟨k, by rw [List.length_zip]; omega, by rw [List.getElem_zip]⟩

end Go.Proofs.YtmbcofnnibpbeaaGreat.Vm

namespace Go.Proofs.YtmbcofnnibpbeaaGreat.Vm
open Go Go.Proofs
set_option linter.unusedSimpArgs false
set_option linter.unusedVariables false

/-- The sum over the members before n that touch joint j. -/
def pTo (e : Mb → Int) (s : Str) (q : List (Option Rat)) (j : Int) : Nat → Option Rat
  | 0 => some 0
  | n + 1 => if j = (mat s n).a ∨ j = (mat s n).b then op2 (· + ·) (pTo e s q j n) (op2 (· * ·) (q.getD n none) (some (e (mat s n) : Rat))) else pTo e s q j n
theorem pTo_ok (e : Mb → Int) (s : Str) (q : List (Option Rat)) (j : Int) : ∀ n, okQ (pTo e s q j n)
  | 0 => fun x h => by cases h; exact fits_zero
  | n + 1 => by
    unfold pTo; split
    · exact okQ_op2 _ _ _
    · exact pTo_ok e s q j n
def pX (s : Str) (q : List (Option Rat)) (j : Int) : Option Rat := pTo (eqX s j) s q j s.ms.length
def pY (s : Str) (q : List (Option Rat)) (j : Int) : Option Rat := pTo (eqY s j) s q j s.ms.length
theorem mat_at (s : Str) (i : Nat) (h : i < s.ms.length) : mat s i = s.ms[i] := by simp [mat, h]
theorem vxy_le {s : Str} (hs : SOk s) {m : Mb} (hm : m ∈ s.ms) : (-100 ≤ vx s m ∧ vx s m ≤ 100) ∧ (-100 ≤ vy s m ∧ vy s m ≤ 100) := by
  obtain ⟨⟨a1, a2⟩, ⟨b1, b2⟩⟩ := hs.ix _ hm
  have ha := hs.pl m.a.toNat (by omega)
  have hb := hs.pl m.b.toNat (by omega)
  unfold vx vy jat
  omega
theorem zero_cast : ((0 : Int) : Rat) = 0 := rfl
theorem pull_ro (s : Str) (q : List (Option Rat)) (j : Int) (hs : SOk s) (hq : okL q) (hl : q.length = s.ms.length) : RO Tryz.prog 49 [.ptr s.c, .sl (fvs q), .int .i64 j] (.tup [fv (pX s q j), fv (pY s q j)]) := by
  have hn := hs.nm
  have w0 := whole_ro 0 (by omega)
  rw [zero_cast] at w0
  refine ro_of2 Tryz.func49 rfl rfl (by rw [Tryz.ntmps49]; simp) fun bl => ?_
  rw [Tryz.ntmps49, Tryz.results49]
  refine AW_run ?_
  simp
  refine callP_ro w0 ?_
  simp
  refine callP_ro w0 ?_
  simp [Str.c]
  refine AW_for (fun i : Nat => [(0, .ptr s.c), (1, .sl (fvs q)), (2, .int .i64 j), (8, fv (pTo (eqX s j) s q j i)), (9, fv (pTo (eqY s j) s q j i)), (19, .sl (mv s.ms)), (20, .int .i64 s.ms.length), (21, .int .i64 i)]) (fun _ => bl) (fun i => i ≤ s.ms.length) (fun i => s.ms.length - i) _ 0 (Nat.zero_le _) ⟨rfl, by simp [Str.c, pTo], Sub.refl _⟩ ?_
  intro i hi
  refine AW_run ?_
  simp
  refine ⟨fun h => ?_, fun h => ?_⟩
  · have h2 : i < q.length := by omega
    have hm := mat_at s i h
    have hv := vector_ro s i hs (by omega) (by omega)
    rw [hm] at hv
    have hle := vxy_le hs (List.getElem_mem h)
    have hqi : q.getD i none = q[i] := by simp [h2]
    have hok := hq _ (List.getElem_mem h2)
    simp [h, Mb.c]
    intro g2 hg2 hb2
    refine callP_ro hv ?_
    simp
    refine ⟨fun hja => ?_, fun hja => ⟨fun hjb => ?_, fun hjb => ?_⟩⟩
    · obtain ⟨cx, hcx⟩ : ∃ c : Int, vx s s.ms[i] = c := ⟨_, rfl⟩
      obtain ⟨cy, hcy⟩ : ∃ c : Int, vy s s.ms[i] = c := ⟨_, rfl⟩
      have ex : eqX s j s.ms[i] = cx := by unfold eqX; rw [if_pos hja]; exact hcx
      have ey : eqY s j s.ms[i] = cy := by unfold eqY; rw [if_pos hja]; exact hcy
      have bx : -100 ≤ cx ∧ cx ≤ 100 := by omega
      have by_ : -100 ≤ cy ∧ cy ≤ 100 := by omega
      have e1 : pTo (eqX s j) s q j (i + 1) = op2 (· + ·) (pTo (eqX s j) s q j i) (op2 (· * ·) q[i] (some (cx : Rat))) := by
        rw [pTo, hm, if_pos (.inl hja), hqi, ex]
      have e2 : pTo (eqY s j) s q j (i + 1) = op2 (· + ·) (pTo (eqY s j) s q j i) (op2 (· * ·) q[i] (some (cy : Rat))) := by
        rw [pTo, hm, if_pos (.inl hja), hqi, ey]
      rw [hcx, hcy]
      refine AW_quiet mixedO (by kernel_rfl) ?_
      simp [h2]
      refine hcQ_ro (whole_ro cx (by omega)) ?_
      simp
      refine hcQ_ro (mul_ro q[i] _ hok (okQ_int (by omega))) ?_
      simp
      refine hcQ_ro (add_ro _ _ (pTo_ok _ _ _ _ _) (okQ_op2 _ _ _)) ?_
      simp
      refine AW_quiet mixedO (by kernel_rfl) ?_
      simp [h2]
      refine hcQ_ro (whole_ro cy (by omega)) ?_
      simp
      refine hcQ_ro (mul_ro q[i] _ hok (okQ_int (by omega))) ?_
      simp
      refine hcQ_ro (add_ro _ _ (pTo_ok _ _ _ _ _) (okQ_op2 _ _ _)) ?_
      simp (disch := omega) [i64_in, loopQ_normal]
      refine ⟨i + 1, by omega, by omega, rfl, by simp [e1, e2], by simp [hb2]⟩
    · obtain ⟨cx, hcx⟩ : ∃ c : Int, -vx s s.ms[i] = c := ⟨_, rfl⟩
      obtain ⟨cy, hcy⟩ : ∃ c : Int, -vy s s.ms[i] = c := ⟨_, rfl⟩
      have ex : eqX s j s.ms[i] = cx := by unfold eqX; rw [if_neg hja, if_pos hjb]; exact hcx
      have ey : eqY s j s.ms[i] = cy := by unfold eqY; rw [if_neg hja, if_pos hjb]; exact hcy
      have bx : -100 ≤ cx ∧ cx ≤ 100 := by omega
      have by_ : -100 ≤ cy ∧ cy ≤ 100 := by omega
      have e1 : pTo (eqX s j) s q j (i + 1) = op2 (· + ·) (pTo (eqX s j) s q j i) (op2 (· * ·) q[i] (some (cx : Rat))) := by
        rw [pTo, hm, if_pos (.inr hjb), hqi, ex]
      have e2 : pTo (eqY s j) s q j (i + 1) = op2 (· + ·) (pTo (eqY s j) s q j i) (op2 (· * ·) q[i] (some (cy : Rat))) := by
        rw [pTo, hm, if_pos (.inr hjb), hqi, ey]
      have wx : IntKind.i64.wrap (-vx s s.ms[i]) = cx := by rw [i64_in (by omega) (by omega)]; exact hcx
      have wy : IntKind.i64.wrap (-vy s s.ms[i]) = cy := by rw [i64_in (by omega) (by omega)]; exact hcy
      rw [wx, wy]
      refine AW_quiet mixedO (by kernel_rfl) ?_
      simp [h2]
      refine hcQ_ro (whole_ro cx (by omega)) ?_
      simp
      refine hcQ_ro (mul_ro q[i] _ hok (okQ_int (by omega))) ?_
      simp
      refine hcQ_ro (add_ro _ _ (pTo_ok _ _ _ _ _) (okQ_op2 _ _ _)) ?_
      simp
      refine AW_quiet mixedO (by kernel_rfl) ?_
      simp [h2]
      refine hcQ_ro (whole_ro cy (by omega)) ?_
      simp
      refine hcQ_ro (mul_ro q[i] _ hok (okQ_int (by omega))) ?_
      simp
      refine hcQ_ro (add_ro _ _ (pTo_ok _ _ _ _ _) (okQ_op2 _ _ _)) ?_
      simp (disch := omega) [i64_in, loopQ_normal]
      refine ⟨i + 1, by omega, by omega, rfl, by simp [e1, e2], by simp [hb2]⟩
    · have e1 : pTo (eqX s j) s q j (i + 1) = pTo (eqX s j) s q j i := by rw [pTo, hm, if_neg]; rintro (h | h); exact hja h; exact hjb h
      have e2 : pTo (eqY s j) s q j (i + 1) = pTo (eqY s j) s q j i := by rw [pTo, hm, if_neg]; rintro (h | h); exact hja h; exact hjb h
      simp (disch := omega) [i64_in, loopQ_normal]
      refine ⟨i + 1, by omega, by omega, rfl, by simp [e1, e2], by simp [hb2]⟩
  · have hi2 : i = s.ms.length := by omega
    subst hi2
    exact retRO [fv (pX s q j), fv (pY s q j)] 1 (by simp [pX, pY]) (by simp [frz, pX, pY]) (Sub.refl _)

end Go.Proofs.YtmbcofnnibpbeaaGreat.Vm

namespace Go.Proofs.YtmbcofnnibpbeaaGreat.Vm
open Go Go.Proofs
set_option linter.unusedSimpArgs false
set_option linter.unusedVariables false

def pullOk (s : Str) (q : List RT) (j : Int) : Bool := fitsQ s q && (decide (0 ≤ j) && decide (j < s.js.length))
def pqs (s : Str) (q : List RT) (j : Int) : List (Option Rat) := if pullOk s q j = true then [pX s (rdAll q) j, pY s (rdAll q) j] else [none]
theorem pqs_ok (s : Str) (q : List RT) (j : Int) : okL (pqs s q j) ∧ (pqs s q j).length ≤ 24 := by
  unfold pqs; split
  · refine ⟨fun x hx => ?_, by simp⟩
    rcases List.mem_cons.1 hx with rfl | hx
    · exact pTo_ok _ _ _ _ _
    · obtain rfl : x = _ := by simpa using hx
      exact pTo_ok _ _ _ _ _
  · refine ⟨fun x hx => ?_, by simp⟩
    obtain rfl : x = none := by simpa using hx
    intro q h; cases h
theorem fitsQ_of {s : Str} {q : List RT} (h : fitsQ s q = true) : SOk s ∧ q.length = s.ms.length ∧ allOk q = true := by
  unfold fitsQ at h; simp at h
  exact ⟨sOk_of h.1.1, h.1.2, h.2⟩
theorem impl_PullOn_nw (s : Str) (q : List RT) (j : Int) (hj : s.js.length ≤ 140737488351232) (hm : s.ms.length ≤ 140737488351232) (hn : ∀ j, j ∈ s.js → j.name.size ≤ 140737488351232) (hq : fitQ q 1048576) : NW Tryz.prog 14 [.agg s.c, .sl (rv q), .int .i64 j] (dV (stQ (pqs s q j)) (allSome (pqs s q j))) := by
  refine nw_of Tryz.func14 rfl rfl (by rw [Tryz.ntmps14]; simp) fun bl => ?_
  rw [Tryz.ntmps14, Tryz.results14]
  refine AW_runA ?_
  simp [Str.c]
  intro g hg0 hg
  refine AW_frzAt 1 3 (.ptr s.c) bl (by simp [hg]) (by simp [frz, dropB, hg, Str.c, V.cl]) ?_
  refine AW_run ?_
  simp
  refine callP_ro (densities_ro s q hj hm hn hq) ?_
  simp
  refine AW_way0 [(2, .int .i64 j), (3, .ptr s.c), (6, .nils), (7, .bool false), (8, .sl (fvs (if fitsQ s q = true then rdAll q else []))), (9, .bool (fitsQ s q))] _ bl 29 (.bool (!pullOk s q j)) ⟨rfl, by simp, Sub.refl _⟩ rfl ?_ ?_
  · cases hf : fitsQ s q
    · simp [pullOk, hf]
    simp [pullOk, hf, Str.c]
    by_cases h1 : j < 0
    · simp [h1]; omega
    · have h2 : 0 ≤ j := by omega
      simp [h1, h2]
      rw [Bool.eq_iff_iff]
      simp
  cases hp : pullOk s q j
  · have hz : pqs s q j = [none] := by unfold pqs; rw [hp]; rfl
    rw [hz]
    simp
    exact retNW [.nils, .bool false] [] (by simp) (own_two.2 ⟨.nils, rfl, own_rs.2 (.inl ⟨rfl, rfl, rfl⟩)⟩) (by simp) (Sub.refl _)
  have hz : pqs s q j = [pX s (rdAll q) j, pY s (rdAll q) j] := by unfold pqs; rw [hp]; rfl
  have hf : fitsQ s q = true := by unfold pullOk at hp; simp at hp; exact hp.1
  obtain ⟨hs, hlen, hall⟩ := fitsQ_of hf
  obtain ⟨hzo, _⟩ := pqs_ok s q j
  rw [hz] at hzo
  rw [hz, hf]
  simp
  refine callP_ro (pull_ro s (rdAll q) j hs (rdAll_ok q) (by simpa using hlen)) ?_
  generalize pX s (rdAll q) j = x at *
  generalize pY s (rdAll q) j = y at *
  simp
  intro g2 hg2 hb2
  refine callP_lend 1 (ys := [.sl (fvs [x, y])]) (by simp [frz, fvs, Int.not_lt.2 hg2, show List.range 2 = [0, 1] from rfl]) (stores_nw [x, y] hzo (by simp)) (dV_sc _ _) fun v gs b' o f fr => ?_
  obtain ⟨w, rfl, ow, w1, w2⟩ := own_dV o
  simp
  exact retNW [w, .bool (allSome [x, y])] gs (by simp) o (fun x hx => by have := f x hx; simp [upd_apply] at this; exact this.2) (fun x y hy => new_keep f fr (by rw [upd_apply, if_neg (fun e => by rw [e, hb2] at hy; cases hy)]; exact hy))

theorem impl_PullOn_ro (s : Str) (q : List RT) (j : Int) (hj : s.js.length ≤ 140737488351232) (hm : s.ms.length ≤ 140737488351232) (hn : ∀ j, j ∈ s.js → j.name.size ≤ 140737488351232) (hq : fitQ q 1048576) : RO Tryz.prog 14 [.agg s.c, .sl (rv q), .int .i64 j] (.tup [.sl (rv (stQ (pqs s q j))), .bool (allSome (pqs s q j))]) := by
  have := ro_of_nw 3 (impl_PullOn_nw s q j hj hm hn hq) (dV_dep _ _ 0)
  rwa [dV_fz] at this
theorem okC (x : Option Rat) (hx : okQ x) : RO Tryz.prog 159 [.agg (ro x).c] (.bool x.isSome) := by
  have h1 := ro_le hx
  have := spec_RatOk_ro (ro x) (by omega) (by omega)
  rwa [ok_ro hx] at this

end Go.Proofs.YtmbcofnnibpbeaaGreat.Vm
