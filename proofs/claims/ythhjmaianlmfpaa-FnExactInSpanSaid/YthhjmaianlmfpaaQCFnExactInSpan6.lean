/- FnExactInSpan: for every span and every fraction the program's InSpan returns what the reference's returns; no condition. -/


import Derived.Test.YthhjmaianlmfpaaQCFnExactInSpan5

namespace Go.Proofs.Ythhjmaianlmfpaa.Vm
open Go Go.Proofs
set_option linter.unusedSimpArgs false
set_option linter.unusedVariables false

theorem natOk_lim {n : Nat} (h : (lim n).length ≤ 60) : natOk (lim n) = true := by unfold natOk; simp [h]
theorem lim_max : lim 9223372036854775807 = [854775807, 223372036, 9] := by
  refine lim_of ?_ (by decide +kernel) (.inr (by decide +kernel))
  intro d hd
  simp at hd
  omega
theorem cmpN_gt {a b : Nat} : 0 < cmpN a b ↔ b < a := by unfold cmpN; split <;> (try split) <;> omega
theorem cmpN_le {a b : Nat} : cmpN a b ≤ 0 ↔ a ≤ b := by unfold cmpN; split <;> (try split) <;> omega
theorem val_drop_le (n k : Nat) : val ((lim n).drop k) ≤ n := by
  rcases Nat.lt_or_ge (lim n).length k with h | h
  · rw [List.drop_of_length_le (by omega)]; exact Nat.zero_le _
  · have := val_split (lim n) h
    rw [val_lim] at this
    have hp : 1 ≤ LB ^ k := Nat.pow_pos LB_pos
    have := Nat.mul_le_mul_right (val ((lim n).drop k)) hp
    omega
theorem NatToInt_ro (n : Nat) (hn : n ≤ 9223372036854775807) : RO Try.prog 167 [.sl (iv (lim n))] (.tup [.int .i64 n, .bool true]) := by
  have hL := lim_u64 (show n ≤ 18446744073709551615 by omega)
  refine ro_of2 Try.func167 rfl rfl (by rw [Try.ntmps167]; simp) fun bl => ?_
  rw [Try.ntmps167, Try.results167]
  refine AW_run ?_
  simp
  refine AW_wayS [(0, .sl (iv (lim n)))] _ bl 14 (.bool false) ⟨rfl, by simp, Sub.refl _⟩ rfl ?_ ?_
  · simp
    refine callP_ro (spec_NatOk_ro _ (by omega)) ?_
    simp [natOk_lim (show (lim n).length ≤ 60 by omega)]
    intro g hg0 hg
    refine callP_borrow 1 (ys := [.sl (iv (lim n)), .sl (iv (lim 9223372036854775807))]) ?_ (l02Cmp_ro n 9223372036854775807 (by omega) (by rw [lim_max]; simp)) rfl ?_
    · have er3 : List.range 3 = [0, 1, 2] := rfl
      simp [frzL, frz, lim_max, iv, V.cl, Int.not_lt.2 hg0, er3]
    simp [hg]
    have := cmpN_le.2 hn
    omega
  have w0 : IntKind.i64.wrap (((lim n).length : Int) - 1) = ((lim n).length : Int) - 1 := i64_in (by omega) (by omega)
  simp [w0]
  refine AW_for (fun p : Nat × Int => [(0, .sl (iv (lim n))), (4, .int .i64 p.2), (5, .int .i64 ((p.1 : Int) - 1))]) (fun _ => bl) (fun p => p.1 ≤ (lim n).length ∧ p.2 = (val ((lim n).drop p.1) : Nat)) (fun p => p.1) _ ((lim n).length, 0) ⟨Nat.le_refl _, by simp [val]⟩ ⟨rfl, by simp, Sub.refl _⟩ ?_
  rintro ⟨k, x⟩ ⟨hk, hx⟩
  simp only at hk hx
  refine AW_run ?_
  simp [-binV, -intV]
  refine ⟨fun h1 => ?_, fun h1 => ?_⟩
  · obtain ⟨m, rfl⟩ : ∃ m, k = m + 1 := ⟨k - 1, by omega⟩
    have hm : m < (lim n).length := by omega
    have e1 : ((m + 1 : Nat) : Int) - 1 = m := by omega
    have hv : val ((lim n).drop m) = dg n m + LB * val ((lim n).drop (m + 1)) := by
      rw [List.drop_eq_getElem_cons hm, val, lim_at hm, Int.toNat_natCast]
    have hle := val_drop_le n m
    have hLB : LB = 1000000000 := rfl
    rw [hLB] at hv
    have w1 : IntKind.i64.wrap (x * 1000000000) = x * 1000000000 := i64_in (by omega) (by omega)
    have w2 : IntKind.i64.wrap (x * 1000000000 + dg n m) = x * 1000000000 + dg n m := i64_in (by omega) (by omega)
    have w3 : IntKind.i64.wrap ((m : Int) - 1) = (m : Int) - 1 := i64_in (by omega) (by omega)
    simp [-binV, -intV, e1, lv_get _ _ hm, w1, w2, w3]
    refine ⟨by omega, ?_⟩
    rw [loopQ_normal]
    refine ⟨(m, x * 1000000000 + dg n m), ⟨by simp only; omega, by simp only; omega⟩, by simp only; omega, rfl, by simp, Sub.refl _⟩
  · have e : k = 0 := by omega
    subst e
    have hx2 : x = n := by rw [hx]; simp
    rw [hx2]
    exact retRO [.int .i64 n, .bool true] 1 (by simp) rfl (Sub.refl _)

structure DL2 where
  lo : Int
  hi : Int
theorem l02Digit_ro (r b n : Nat) (hn : (lim b).length = n + 1) (hbr : b ≤ r) (hrb : r < LB * b) (hl : n ≤ 300000) : RO Try.prog 197 [.sl (iv (lim r)), .sl (iv (lim b))] (.int .i64 (r / b : Nat)) := by
  have ht : 0 < dg b n := top_pos hn
  have htl := dg_lt b n
  have hb0 : 0 < b := by
    rcases Nat.eq_zero_or_pos b with h | h
    · rw [h, lim_zero] at hn; simp at hn
    · exact h
  have hlr : n + 1 ≤ (lim r).length := by have := lim_length_mono hbr; omega
  have hbl : b < LB ^ (n + 1) := lim_length_le.1 (by omega)
  have hlr2 : (lim r).length ≤ n + 2 := by
    refine lim_length_le.2 (Nat.lt_of_lt_of_le hrb ?_)
    rw [Nat.pow_succ, Nat.mul_comm]
    exact Nat.mul_le_mul_right _ (Nat.le_of_lt hbl)
  have hLB : LB = 1000000000 := rfl
  have er : r = (dg r (n + 1) * LB + dg r n) * LB ^ n + pv r n := by
    have h1 := pv_succ r n
    have h2 := pv_succ r (n + 1)
    rw [pv_out (by omega)] at h2
    have e1 : dg r (n + 1) * LB * LB ^ n = LB ^ n * LB * dg r (n + 1) := by ac_rfl
    have e2 : dg r n * LB ^ n = LB ^ n * dg r n := Nat.mul_comm _ _
    rw [Nat.pow_succ] at h2
    rw [Nat.add_mul]
    omega
  have eb : b = dg b n * LB ^ n + pv b n := by
    have h1 := pv_succ b n
    rw [pv_out (by omega)] at h1
    have e2 : dg b n * LB ^ n = LB ^ n * dg b n := Nat.mul_comm _ _
    omega
  obtain ⟨x, hx⟩ : ∃ x, x = dg r (n + 1) * LB + dg r n := ⟨_, rfl⟩
  have hlo : x / (dg b n + 1) ≤ r / b := by
    have := digit_lo (x := x) (rl := pv r n) (pv_lt b n) ht
    rw [hx, ← er, ← eb, ← hx] at this; exact this
  have hhi : r / b ≤ x / dg b n := by
    have := digit_hi (x := x) (bl := pv b n) (pv_lt r n) ht
    rw [hx, ← er, ← eb, ← hx] at this; exact this
  have hq : r / b ≤ 999999999 := by
    have : r / b < LB := by rw [Nat.div_lt_iff_lt_mul hb0]; exact hrb
    omega
  have hr1 := dg_lt r (n + 1)
  have hr0 := dg_lt r n
  have hxl : x ≤ 1000000000000000000 := by rw [hx, hLB]; omega
  refine ro_of2 Try.func197 rfl rfl (by rw [Try.ntmps197]; simp) fun bl => ?_
  rw [Try.ntmps197, Try.results197]
  obtain ⟨d1, hd1⟩ : ∃ d1 : Int, d1 = dg r (n + 1) := ⟨_, rfl⟩
  have w0 : IntKind.i64.wrap (((lim b).length : Int) - 1) = (n : Int) := by rw [i64_in (by omega) (by omega)]; omega
  have w1 : IntKind.i64.wrap (d1 * 1000000000) = d1 * 1000000000 := i64_in (by omega) (by omega)
  have w2 : IntKind.i64.wrap ((dg r n : Int) + d1 * 1000000000) = x := by rw [i64_in (by omega) (by omega), hx, hLB]; omega
  have w3 : IntKind.i64.wrap ((dg b n : Int) + 1) = (dg b n : Int) + 1 := i64_in (by omega) (by omega)
  have lr := lv_get r n (by omega)
  have lb := lv_get b n (by omega)
  have q1 : (iv (lim r))[(lim b).length]? = if (lim b).length < (lim r).length then some [.int .i64 d1] else none := by
    split
    · rename_i h; rw [lv_get _ _ h, hn, hd1]
    · rename_i h; rw [List.getElem?_eq_none (by simp; omega)]
  have y1 : (x : Int).tdiv ((dg b n : Int) + 1) = (x / (dg b n + 1) : Nat) := by rw [Int.tdiv_eq_ediv_of_nonneg (by omega)]; simp
  have y2 : (x : Int).tdiv (dg b n : Int) = (x / dg b n : Nat) := by rw [Int.tdiv_eq_ediv_of_nonneg (by omega)]; simp
  have y3 := wq (x := (x : Int)) (n := (dg b n : Int) + 1) (by omega) (by omega) (by omega)
  have y4 := wq (x := (x : Int)) (n := (dg b n : Int)) (by omega) (by omega) (by omega)
  rw [y1] at y3
  rw [y2] at y4
  obtain ⟨lo0, hlo0⟩ : ∃ l : Int, l = (x / (dg b n + 1) : Nat) := ⟨_, rfl⟩
  obtain ⟨hi0, hhi0⟩ : ∃ l : Int, l = (x / dg b n : Nat) := ⟨_, rfl⟩
  rw [← hlo0] at y1 y3
  rw [← hhi0] at y2 y4
  have z1 : ¬ (dg b n : Int) + 1 = 0 := by omega
  have z2 : ¬ dg b n = 0 := by omega
  obtain ⟨D, hD⟩ : ∃ D : Int, D = (r / b : Nat) := ⟨_, rfl⟩
  rw [← hD]
  have hD0 : 0 ≤ D := by rw [hD]; exact Int.natCast_nonneg _
  have hDq : D ≤ 999999999 := by rw [hD]; generalize r / b = z at hq ⊢; omega
  have hDlo : lo0 ≤ D := by rw [hlo0, hD]; generalize r / b = z at hlo ⊢; generalize x / (dg b n + 1) = z2 at hlo ⊢; omega
  have hDhi : D ≤ hi0 := by rw [hhi0, hD]; generalize r / b = z at hhi ⊢; generalize x / dg b n = z2 at hhi ⊢; omega
  have hlo00 : 0 ≤ lo0 := by rw [hlo0]; exact Int.natCast_nonneg _
  refine AW_runA ?_
  simp
  refine AW_runA ?_
  simp
  refine AW_runA ?_
  simp [w0, lr]
  refine AW_mid (fun _ : Unit => [(0, .sl (iv (lim r))), (1, .sl (iv (lim b))), (5, .int .i64 (lim b).length), (6, .int .i64 x)]) (fun _ => bl) (fun _ => True) 63 ?_ ?_
  · refine AW_run ?_
    simp [-binV, -intV]
    refine ⟨fun h => ?_, fun h => ?_⟩
    · have q2 : (lim r)[(lim b).length]'h = d1 := by rw [lim_at h, hn, hd1]
      simp [-binV, -intV, q1, h, q2, w1, w2]
      rw [midQ_normal]
      exact ⟨(), trivial, rfl, by simp, Sub.refl _⟩
    · have e0 : dg r (n + 1) = 0 := dg_out (by omega)
      have ex : dg r n = x := by rw [hx, e0]; simp
      rw [midQ_normal]
      exact ⟨(), trivial, rfl, by simp [ex], Sub.refl _⟩
  rintro _ _
  refine AW_run ?_
  simp [w0, lb, w3, y1, y2, y3, y4, z1, z2, minV]
  refine AW_for (fun p : DL2 => [(0, .sl (iv (lim r))), (1, .sl (iv (lim b))), (7, .int .i64 p.lo), (8, .int .i64 p.hi)]) (fun _ => bl) (fun p => 0 ≤ p.lo ∧ p.lo ≤ D ∧ D ≤ p.hi ∧ p.hi ≤ 999999999) (fun p => (p.hi - p.lo).toNat) _ ⟨lo0, if hi0 < 999999999 then hi0 else 999999999⟩ ⟨hlo00, hDlo, by simp only; split <;> omega, by simp only; split <;> omega⟩ ⟨rfl, by simp [minV], Sub.refl _⟩ ?_
  rintro ⟨lo, hi⟩ ⟨a1, a2, a3, a4⟩
  simp only at a1 a2 a3 a4
  refine AW_run ?_
  simp
  refine ⟨fun h => ?_, fun h => ?_⟩
  · have v1 : IntKind.i64.wrap (lo + hi) = lo + hi := i64_in (by omega) (by omega)
    have v2 : IntKind.i64.wrap (lo + hi + 1) = lo + hi + 1 := i64_in (by omega) (by omega)
    have v3 := wq (x := lo + hi + 1) (n := 2) (by omega) (by omega) (by omega)
    have v4 : (lo + hi + 1).tdiv 2 = (((lo + hi + 1) / 2).toNat : Nat) := by rw [Int.tdiv_eq_ediv_of_nonneg (by omega)]; omega
    rw [v4] at v3
    obtain ⟨q, hqq⟩ : ∃ q : Nat, q = ((lo + hi + 1) / 2).toNat := ⟨_, rfl⟩
    rw [← hqq] at v3 v4
    have hq2 : (q : Int) = (lo + hi + 1) / 2 := by omega
    have hqle : q ≤ 999999999 := by omega
    simp [v1, v2, v3, v4]
    refine callP_ro (spec_NatOf_ro q (by omega)) ?_
    simp
    have lq : (lim q).length ≤ 3 := lim_u64 (by omega)
    refine callP_ro (l02Mul_ro b q (by omega) (by omega)) ?_
    simp
    have lbq := len_mul (k := 300002) (l := 3) (show (lim b).length ≤ 300002 by omega) lq
    refine callP_ro (l02Cmp_ro _ _ (by omega) (by omega)) ?_
    simp [cmpN_le]
    have hdh := digit_half (r := r) (q := q) hb0
    refine ⟨fun h2 => ?_, fun h2 => ?_⟩
    · rw [loopQ_normal]
      have h3 := hdh.1 h2
      refine ⟨⟨q, hi⟩, ⟨by simp only; omega, ?_, a3, a4⟩, by simp only; omega, rfl, by simp, Sub.refl _⟩
      simp only
      rw [hD]
      generalize r / b = z at h3 ⊢
      omega
    · have v5 : IntKind.i64.wrap ((q : Int) - 1) = (q : Int) - 1 := i64_in (by omega) (by omega)
      simp [v5]
      rw [loopQ_normal]
      have h3 : ¬ q ≤ r / b := fun hh => by have := hdh.2 hh; omega
      refine ⟨⟨lo, (q : Int) - 1⟩, ⟨a1, a2, ?_, by simp only; omega⟩, by simp only; omega, rfl, by simp, Sub.refl _⟩
      simp only
      rw [hD]
      generalize r / b = z at h3 ⊢
      omega
  · have : lo = D := by omega
    rw [this]
    exact retRO0 (by simp) rfl rfl

theorem len_digit {r d k : Nat} (hr : (lim r).length ≤ k) (hd : d < 1000000000) : (lim (r * 1000000000 + d)).length ≤ k + 1 := by
  refine lim_length_le.2 ?_
  have h5 := lim_length_le.1 hr
  have e : LB ^ (k + 1) = LB ^ k * 1000000000 := Nat.pow_succ ..
  rw [e]
  generalize LB ^ k = P at h5 ⊢
  omega
structure SD where
  g : Int
  i : Nat
  Q : List Int
  r : Nat
theorem l02Div_ro (a b : Nat) (hb0 : 0 < b) (ha : (lim a).length ≤ 200000) (hbl : (lim b).length ≤ 200000) : RO Try.prog 169 [.sl (iv (lim a)), .sl (iv (lim b))] (.tup [.sl (iv (lim (a / b))), .sl (iv (lim (a % b)))]) := by
  refine ro_of2 Try.func169 rfl rfl (by rw [Try.ntmps169]; simp) fun bl => ?_
  rw [Try.ntmps169, Try.results169]
  refine AW_runA ?_
  simp
  refine AW_runA ?_
  simp
  refine ⟨fun h1 => ?_, fun h1 => ?_⟩
  · have h1' : (lim b).length = 1 := by omega
    obtain ⟨b1, b2, b3⟩ := len1 h1'
    simp [lv_get b 0 (by omega), b1]
    refine callP_ro (l02Small_ro a b (by omega) b3 b2) ?_
    have hr : a % b < b := Nat.mod_lt _ b3
    obtain ⟨r, hr2⟩ : ∃ r, r = a % b := ⟨_, rfl⟩
    rw [← hr2] at hr ⊢
    simp
    refine callP_ro (spec_NatOf_ro r (by omega)) ?_
    simp
    exact retRO [.sl (iv (lim (a / b))), .sl (iv (lim r))] 1 (by simp) rfl (Sub.refl _)
  have hbz : (lim b).length ≠ 0 := fun h0 => by have := lim_nil.1 (List.length_eq_zero_iff.1 h0); omega
  obtain ⟨n, hn⟩ : ∃ n, (lim b).length = n + 1 := ⟨(lim b).length - 1, by omega⟩
  have w0 : IntKind.i64.wrap (((lim a).length : Int) - 1) = ((lim a).length : Int) - 1 := i64_in (by omega) (by omega)
  refine AW_run ?_
  simp
  refine ⟨by omega, by unfold maxLen; omega, fun g8 hg8 hb8 g9 hg9 h98 hb9 => ?_⟩
  have er : List.replicate ((lim a).length) [V.int IntKind.i64 0] = iv (List.replicate ((lim a).length) 0) := by simp [iv]
  simp [er, w0]
  have hb8' : bl g8 = none := by simpa using hb8
  refine AW_frzAt 1 9 (.sl (iv (lim 0))) (upd bl g8 (some ⟨1, iv (List.replicate (lim a).length 0)⟩)) (by simp [h98, hb9]) ?_ ?_
  · rw [lim_zero]
    exact frz_slice hg9 (by simp [h98, hb9]) (by simp; rfl) rfl rfl
  refine AW_for (fun p : SL => [(0, .sl (iv (lim a))), (1, .sl (iv (lim b))), (8, .lsl g8 1 0 (lim a).length), (9, .sl (iv (lim p.r.toNat))), (10, .int .i64 ((p.i : Int) - 1))]) (fun p => upd bl g8 (some ⟨1, iv (List.replicate p.i 0 ++ p.Q)⟩))
    (fun p => DivI a b p.i p.Q p.r.toNat) (fun p => p.i) _ ⟨(lim a).length, [], 0⟩ (DivI.start a b hb0) ⟨rfl, by simp, sub_eq (by simp)⟩ ?_
  rintro ⟨i, Q, r⟩ hI
  simp only at hI
  have hr := hI.rlt
  have hle := hI.le
  have hql := hI.len
  generalize r.toNat = r at *
  refine AW_run ?_
  simp
  refine ⟨fun h1 => ?_, fun h1 => ?_⟩
  · obtain ⟨m, rfl⟩ : ∃ m, i = m + 1 := ⟨i - 1, by omega⟩
    have hm : m < (lim a).length := by omega
    have hd := dg_lt a m
    obtain ⟨z, hz⟩ : ∃ z, z = r * 1000000000 + dg a m := ⟨_, rfl⟩
    have hN := hI.next (q := z / b) (r' := z % b) (by rw [hz]) (by rw [hz])
    have e1 : ((m + 1 : Nat) : Int) - 1 = m := by omega
    have er1 : List.range 1 = [0] := rfl
    have hrl : (lim r).length ≤ 200000 := len_mono (Nat.le_of_lt hr) hbl
    simp [e1, lv_get _ _ hm]
    refine ⟨by omega, ?_⟩
    intro g2 hg2 h28 hb2
    have hall : ((iv (lim r)).all fun c => c.length == 1 && c.all V.one) = true := by simp [iv]
    simp [h28, Ne.symm h28, appV, elsV, Int.not_lt.2 hg2, hall, er1]
    refine ⟨by omega, fun g3 hg3 hb3 => ?_⟩
    have hb3' : g3 ≠ g8 ∧ bl g3 = none := by grind
    have hv : val ((dg a m : Int) :: lim r) = z := by
      have hLB : LB = 1000000000 := rfl
      rw [val, val_lim, hLB, hz]; simp; omega
    have hD : Dig ((dg a m : Int) :: lim r) := fun d hd2 => by
      rcases List.mem_cons.1 hd2 with rfl | hd2
      · omega
      · exact lim_dig r d hd2
    refine callP_gro 1 (upd bl g8 (some ⟨1, iv (List.replicate (m + 1) 0 ++ Q)⟩)) _ ?_ (frz_own (ns := (dg a m : Int) :: lim r) hg3 (by simp [hb3'.1, hb3'.2]) (by simp [iv]) (by simp)) (l02Trim_ro _ hD (by simp; omega)) ?_
    · intro u y hu
      simp only [upd_apply, rem_apply] at hu ⊢
      grind
    rw [hv]
    have hzr : (lim z).length ≤ 200001 := by rw [hz]; exact len_digit hrl hd
    simp
    refine callP_ro (l02Cmp_ro z b (by omega) (by omega)) ?_
    have w3 : IntKind.i64.wrap ((m : Int) - 1) = (m : Int) - 1 := i64_in (by omega) (by omega)
    simp [cmpN_lt]
    refine ⟨fun h5 => ?_, fun h5 => ?_⟩
    · rw [Nat.div_eq_of_lt h5, Nat.mod_eq_of_lt h5] at hN
      simp [w3]
      rw [loopQ_normal]
      refine ⟨⟨m, 0 :: Q, z⟩, by simpa using hN, by simp only; omega, rfl, by simp, sub_eq ?_⟩
      rw [← fill_none]
    · have hzb : z < LB * b := by
        have hLB : LB = 1000000000 := rfl
        rw [hLB, hz]; omega
      refine callP_ro (l02Digit_ro z b n hn h5 hzb (by omega)) ?_
      have q5 : (iv (List.replicate (m + 1) 0 ++ Q))[m]? = some [.int .i64 0] := by rw [iv_get _ _ (by simp; omega)]; simp
      have hqq : z / b ≤ 999999999 := by
        have : z / b < LB := by rw [Nat.div_lt_iff_lt_mul hb0]; exact hzb
        have hLB : LB = 1000000000 := rfl
        omega
      obtain ⟨q, hq⟩ : ∃ q, q = z / b := ⟨_, rfl⟩
      have hmod : z - b * q = z % b := by rw [hq]; have := Nat.div_add_mod z b; omega
      have hle2 : b * q ≤ z := by rw [hq]; exact Nat.mul_div_le z b
      rw [← hq] at hqq hN ⊢
      simp [q5, hm]
      refine callP_ro (spec_NatOf_ro q (by omega)) ?_
      simp
      have lq : (lim q).length ≤ 3 := lim_u64 (by omega)
      refine callP_ro (l02Mul_ro b q (by omega) (by omega)) ?_
      simp
      refine callP_ro (l02Sub_ro z (b * q) hle2 (by omega)) ?_
      rw [hmod]
      simp [w3]
      rw [loopQ_normal]
      refine ⟨⟨m, (q : Int) :: Q, (z % b : Nat)⟩, by simp only [Int.toNat_natCast]; exact hN, by simp only; omega, rfl, by simp only [Int.toNat_natCast]; simp, sub_eq ?_⟩
      rw [← fill_set m _ 0 Q, ← iv_set]
  · have e : i = 0 := by omega
    subst e
    obtain ⟨h2, h3⟩ := hI.done
    refine callP_gro 1 bl _ (by simp [hb8']) (frz_own (ns := Q) hg8 hb8' (by simp) (by simp [hql])) (l02Trim_ro _ hI.dig (by omega)) ?_
    rw [h2, h3]
    simp
    exact retRO [.sl (iv (lim (a / b))), .sl (iv (lim (a % b)))] 1 (by simp) rfl (by simp)

theorem frz_any {bl bl0 : Int → Option Blk} {g : Int} {ns : List Int} (h0 : 0 ≤ g ∨ ns = []) (hg : bl0 g = none) (hb : bl g = some ⟨1, iv ns⟩) : frz (dropB bl bl0) 1 (.lsl g 1 0 ns.length) = some (.sl (iv ns)) := by
  rcases Int.lt_or_le g 0 with h | h
  · have : ns = [] := by rcases h0 with h0 | h0; omega; exact h0
    subst this
    unfold frz
    rw [if_pos h]; rfl
  · exact frz_slice h hg hb (by simp) (iv_cl ns)
theorem l02Gcd_ro (a b : Nat) (ha : (lim a).length ≤ 200000) (hb : (lim b).length ≤ 200000) : RO Try.prog 120 [.sl (iv (lim a)), .sl (iv (lim b))] (.sl (iv (lim (Nat.gcd a b)))) := by
  have hall : ∀ n : Nat, ((iv (lim n)).all fun c => c.length == 1 && c.all V.one) = true := fun n => by simp [iv]
  have hnil : ∀ n : Nat, iv (lim n) = [] → lim n = [] := fun n h => by simpa [iv] using h
  refine ro_of2 Try.func120 rfl rfl (by rw [Try.ntmps120]; simp) fun bl => ?_
  rw [Try.ntmps120, Try.results120]
  refine AW_run ?_
  simp
  intro g0 hg0 hb0
  simp [appV, elsV, hall, Int.not_lt.2 hg0]
  refine ⟨by omega, fun g1 hg1 hb1 g2 hg2 n21 hb2 => ?_⟩
  have hb2' : bl g2 = none := by grind
  have hb1' : bl g1 = none := by grind
  try simp [appV, elsV, hall, Int.not_lt.2 hg2]
  refine ⟨by omega, fun g3 hg3 hb3 => ?_⟩
  have n31 : g3 ≠ g1 := by grind
  have hb3' : bl g3 = none := by grind
  refine AW_frzAt 1 5 (.sl (iv (lim a))) (upd bl g3 (some ⟨1, iv (lim b)⟩)) ?_ ?_ ?_
  · intro u y hu
    simp only [upd_apply, rem_apply] at hu ⊢
    grind
  · exact frz_any (hg1.imp id (hnil a)) (by simp [Ne.symm n31, hb1']) (by simp [n21, Ne.symm n21, n31, Ne.symm n31])
  refine AW_frzAt 1 6 (.sl (iv (lim b))) bl (by simp [hb3']) ?_ ?_
  · exact frz_any (hg3.imp id (hnil b)) hb3' (by simp)
  refine AW_for (fun p : Nat × Nat => [(5, .sl (iv (lim p.1))), (6, .sl (iv (lim p.2)))]) (fun _ => bl) (fun p => Nat.gcd p.1 p.2 = Nat.gcd a b ∧ (lim p.1).length ≤ 200000 ∧ (lim p.2).length ≤ 200000) (fun p => p.2) _ (a, b) ⟨rfl, ha, hb⟩ ⟨rfl, by simp, Sub.refl _⟩ ?_
  rintro ⟨x, y⟩ ⟨hg, hx, hy⟩
  simp only at hg hx hy
  refine AW_run ?_
  simp
  refine ⟨fun h => ?_, fun h => ?_⟩
  · have hy0 : 0 < y := (len_pos_iff y).1 (by simpa using h)
    refine AW_way0 [(5, .sl (iv (lim x))), (6, .sl (iv (lim y)))] _ bl 29 (.bool (decide ((lim x).length < 3) && decide ((lim y).length < 3))) ⟨rfl, by simp, Sub.refl _⟩ rfl ?_ ?_
    · simp
      refine ⟨fun h3 => ?_, fun h3 h4 => by omega⟩
      rw [Bool.eq_iff_iff]; simp; omega
    simp
    refine ⟨fun h1 h2 => ?_, fun h1 => ?_⟩
    · have bx : x ≤ 9223372036854775807 := by
        have := lim_length_le.1 (show (lim x).length ≤ 2 by omega)
        have e : LB ^ 2 = 1000000000000000000 := by decide +kernel
        omega
      have by' : y ≤ 9223372036854775807 := by
        have := lim_length_le.1 (show (lim y).length ≤ 2 by omega)
        have e : LB ^ 2 = 1000000000000000000 := by decide +kernel
        omega
      refine callP_ro (NatToInt_ro x bx) ?_
      simp
      refine callP_ro (NatToInt_ro y by') ?_
      simp
      refine callP_ro (l02Plain_ro x y bx by') ?_
      rw [hg]
      simp
      exact retRO0 (by simp) rfl rfl
    · refine callP_ro (l02Div_ro x y hy0 hx hy) ?_
      simp
      rw [loopQ_normal]
      have hlt := Nat.mod_lt x hy0
      refine ⟨(y, x % y), ⟨?_, hy, ?_⟩, hlt, rfl, by simp, Sub.refl _⟩
      · rw [← hg, Nat.gcd_comm x y, Nat.gcd_rec y x, Nat.gcd_comm]
      · exact Nat.le_trans (lim_length_mono (Nat.le_of_lt hlt)) hy
  · have h0 : y = 0 := lim_nil.1 (by simpa using h)
    subst h0
    rw [Nat.gcd_zero_right] at hg
    rw [← hg]
    exact retRO0 (by simp) rfl rfl

end Go.Proofs.Ythhjmaianlmfpaa.Vm

namespace Go.Proofs.Ythhjmaianlmfpaa.Vm
open Go Go.Proofs
set_option linter.unusedSimpArgs false
set_option linter.unusedVariables false

theorem frz_pair {bl bl0 : Int → Option Blk} {g : Int} {ns : List Int} {b : Bool} (h0 : 0 ≤ g ∨ ns = []) (hg : bl0 g = none) (hb : bl g = some ⟨1, iv ns⟩) : frz (dropB bl bl0) 2 (.agg [.bool b, .lsl g 1 0 ns.length]) = some (.agg [.bool b, .sl (iv ns)]) := by
  have h1 := frz_any h0 hg hb
  have h2 : frz (dropB bl bl0) 1 (.bool b) = some (.bool b) := by simp [frz]
  rw [frz_agg]
  simp only [List.mapM_cons, List.mapM_nil, h1, h2]
  rfl
theorem l03Make_ro (neg : Bool) (m : Nat) (hm : (lim m).length ≤ 60) : RO Try.prog 122 [.bool neg, .sl (iv (lim m))] (.agg (biC (sg neg m))) := by
  have hall : ((iv (lim m)).all fun c => c.length == 1 && c.all V.one) = true := by simp [iv]
  refine ro_of2 Try.func122 rfl rfl (by rw [Try.ntmps122]; simp) fun bl => ?_
  rw [Try.ntmps122, Try.results122]
  refine AW_run ?_
  simp
  intro g hg0 hg
  refine callP_ro (l02Cap_ro (lim m) (lim_dig m) (by omega)) ?_
  rw [val_lim, if_pos hm]
  simp
  cases neg
  all_goals
    refine AW_region (Ops_of ?_)
    simp
    intro g1 hg1 h1g hb1
    simp [h1g, Ne.symm h1g, appV, elsV, Int.not_lt.2 hg1, hall]
    refine ⟨by omega, fun g2 hg2 hb2 => ?_⟩
    have h2g : g2 ≠ g := by grind
    have hb2' : bl g2 = none := by grind
    have hnn : 0 ≤ g2 ∨ lim m = [] := hg2.imp id (fun h => by simpa [iv] using h)
    simp [h1g, Ne.symm h1g, h2g, Ne.symm h2g]
  · refine retRO [.agg [.bool false, .lsl g2 1 0 (lim m).length]] 2 (by simp [h1g, Ne.symm h1g, h2g, Ne.symm h2g]) ?_ (by simp [hg, hb1, hb2', h1g, h2g])
    rw [biC_sg]
    exact frz_pair hnn hb2' (by simp [h2g])
  · refine retRO [.agg [.bool (decide (0 < (lim m).length)), .lsl g2 1 0 (lim m).length]] 2 (by simp [h1g, Ne.symm h1g, h2g, Ne.symm h2g]) ?_ (by simp [hg, hb1, hb2', h1g, h2g])
    rw [biC_sg]
    exact frz_pair hnn hb2' (by simp [h2g])

theorem l03Cmp_ro (x y : Int) (hx : (lim x.natAbs).length ≤ 1048576) (hy : (lim y.natAbs).length ≤ 1048576) : RO Try.prog 121 [.agg (biC x), .agg (biC y)] (.int .i64 (cmpZ x y)) := by
  refine ro_of2 Try.func121 rfl rfl (by rw [Try.ntmps121]; simp) fun bl => ?_
  rw [Try.ntmps121, Try.results121]
  refine AW_runA ?_
  rw [show biC x = [.bool (decide (x < 0)), .sl (iv (lim x.natAbs))] from rfl, show biC y = [.bool (decide (y < 0)), .sl (iv (lim y.natAbs))] from rfl]
  simp
  intro g hg0 hg g2 hg2 h2g hb2
  refine AW_run ?_
  simp [h2g, Ne.symm h2g]
  by_cases h1 : x < 0 <;> by_cases h2 : y < 0
  · refine AW_way [(2, .loc g 2 0 0), (3, .loc g2 2 0 0)] _ (upd (upd bl g (some ⟨2, [[.bool (decide (x < 0)), .sl (iv (lim x.natAbs))]]⟩)) g2 (some ⟨2, [[.bool (decide (y < 0)), .sl (iv (lim y.natAbs))]]⟩)) 5 (.bool false) (upd (upd bl g (some ⟨2, [[.bool (decide (x < 0)), .sl (iv (lim x.natAbs))]]⟩)) g2 (some ⟨2, [[.bool (decide (y < 0)), .sl (iv (lim y.natAbs))]]⟩)) ⟨rfl, by simp, Sub.refl _⟩ rfl (by simp [h1, h2, h2g, Ne.symm h2g]) ?_
    simp [h1, h2, h2g, Ne.symm h2g]
    refine AW_way [(2, .loc g 2 0 0), (3, .loc g2 2 0 0)] _ (upd (upd bl g (some ⟨2, [[.bool (decide (x < 0)), .sl (iv (lim x.natAbs))]]⟩)) g2 (some ⟨2, [[.bool (decide (y < 0)), .sl (iv (lim y.natAbs))]]⟩)) 13 (.bool false) (upd (upd bl g (some ⟨2, [[.bool (decide (x < 0)), .sl (iv (lim x.natAbs))]]⟩)) g2 (some ⟨2, [[.bool (decide (y < 0)), .sl (iv (lim y.natAbs))]]⟩)) ⟨rfl, by simp, sub_eq (by simp [h1, h2])⟩ rfl (by simp [h1, h2, h2g, Ne.symm h2g]) ?_
    simp [h1, h2, h2g, Ne.symm h2g]
    refine callP_ro (l02Cmp_ro _ _ hy hx) ?_
    simp
    refine retRO [.int .i64 (cmpZ x y)] 0 ?_ (by simp [frz]) (by simp [hg, hb2])
    have : cmpN y.natAbs x.natAbs = cmpZ x y := by unfold cmpN cmpZ; split <;> split <;> (try split) <;> (try split) <;> omega
    simp [this]
  · refine AW_way [(2, .loc g 2 0 0), (3, .loc g2 2 0 0)] _ (upd (upd bl g (some ⟨2, [[.bool (decide (x < 0)), .sl (iv (lim x.natAbs))]]⟩)) g2 (some ⟨2, [[.bool (decide (y < 0)), .sl (iv (lim y.natAbs))]]⟩)) 5 (.bool true) (upd (upd bl g (some ⟨2, [[.bool (decide (x < 0)), .sl (iv (lim x.natAbs))]]⟩)) g2 (some ⟨2, [[.bool (decide (y < 0)), .sl (iv (lim y.natAbs))]]⟩)) ⟨rfl, by simp, Sub.refl _⟩ rfl (by simp [h1, h2, h2g, Ne.symm h2g]) ?_
    simp [h1, h2, h2g, Ne.symm h2g]
    have : cmpZ x y = -1 := by unfold cmpZ; rw [if_pos (by omega)]
    exact retRO [.int .i64 (-1)] 0 (by simp) (by simp [frz, this]) (by simp [hg, hb2])
  · refine AW_way [(2, .loc g 2 0 0), (3, .loc g2 2 0 0)] _ (upd (upd bl g (some ⟨2, [[.bool (decide (x < 0)), .sl (iv (lim x.natAbs))]]⟩)) g2 (some ⟨2, [[.bool (decide (y < 0)), .sl (iv (lim y.natAbs))]]⟩)) 5 (.bool false) (upd (upd bl g (some ⟨2, [[.bool (decide (x < 0)), .sl (iv (lim x.natAbs))]]⟩)) g2 (some ⟨2, [[.bool (decide (y < 0)), .sl (iv (lim y.natAbs))]]⟩)) ⟨rfl, by simp, Sub.refl _⟩ rfl (by simp [h1, h2, h2g, Ne.symm h2g]) ?_
    simp [h1, h2, h2g, Ne.symm h2g]
    refine AW_way [(2, .loc g 2 0 0), (3, .loc g2 2 0 0)] _ (upd (upd bl g (some ⟨2, [[.bool (decide (x < 0)), .sl (iv (lim x.natAbs))]]⟩)) g2 (some ⟨2, [[.bool (decide (y < 0)), .sl (iv (lim y.natAbs))]]⟩)) 13 (.bool true) (upd (upd bl g (some ⟨2, [[.bool (decide (x < 0)), .sl (iv (lim x.natAbs))]]⟩)) g2 (some ⟨2, [[.bool (decide (y < 0)), .sl (iv (lim y.natAbs))]]⟩)) ⟨rfl, by simp, sub_eq (by simp [h1, h2])⟩ rfl (by simp [h1, h2, h2g, Ne.symm h2g]) ?_
    simp [h1, h2, h2g, Ne.symm h2g]
    have : cmpZ x y = 1 := by unfold cmpZ; rw [if_neg (by omega), if_neg (by omega)]
    exact retRO [.int .i64 1] 0 (by simp) (by simp [frz, this]) (by simp [hg, hb2])
  · refine AW_way [(2, .loc g 2 0 0), (3, .loc g2 2 0 0)] _ (upd (upd bl g (some ⟨2, [[.bool (decide (x < 0)), .sl (iv (lim x.natAbs))]]⟩)) g2 (some ⟨2, [[.bool (decide (y < 0)), .sl (iv (lim y.natAbs))]]⟩)) 5 (.bool false) (upd (upd bl g (some ⟨2, [[.bool (decide (x < 0)), .sl (iv (lim x.natAbs))]]⟩)) g2 (some ⟨2, [[.bool (decide (y < 0)), .sl (iv (lim y.natAbs))]]⟩)) ⟨rfl, by simp, Sub.refl _⟩ rfl (by simp [h1, h2, h2g, Ne.symm h2g]) ?_
    simp [h1, h2, h2g, Ne.symm h2g]
    refine AW_way [(2, .loc g 2 0 0), (3, .loc g2 2 0 0)] _ (upd (upd bl g (some ⟨2, [[.bool (decide (x < 0)), .sl (iv (lim x.natAbs))]]⟩)) g2 (some ⟨2, [[.bool (decide (y < 0)), .sl (iv (lim y.natAbs))]]⟩)) 13 (.bool false) (upd (upd bl g (some ⟨2, [[.bool (decide (x < 0)), .sl (iv (lim x.natAbs))]]⟩)) g2 (some ⟨2, [[.bool (decide (y < 0)), .sl (iv (lim y.natAbs))]]⟩)) ⟨rfl, by simp, sub_eq (by simp [h1, h2])⟩ rfl (by simp [h1, h2, h2g, Ne.symm h2g]) ?_
    simp [h1, h2, h2g, Ne.symm h2g]
    refine callP_ro (l02Cmp_ro _ _ hx hy) ?_
    simp
    refine retRO [.int .i64 (cmpZ x y)] 0 ?_ (by simp [frz]) (by simp [hg, hb2])
    have : cmpN x.natAbs y.natAbs = cmpZ x y := by unfold cmpN cmpZ; split <;> split <;> (try split) <;> (try split) <;> omega
    simp [this]

theorem l04One_ro (n : Nat) : RO Try.prog 119 [.sl (iv (lim n))] (.bool (decide (n = 1))) := by
  refine ro_of2 Try.func119 rfl rfl (by rw [Try.ntmps119]; simp) fun bl => ?_
  rw [Try.ntmps119, Try.results119]
  refine AW_run ?_
  simp
  refine AW_way0 [(0, .sl (iv (lim n)))] _ bl 2 (.bool (decide (n = 1))) ⟨rfl, by simp, Sub.refl _⟩ rfl ?_ ?_
  · simp
    by_cases h : (lim n).length = 1
    · obtain ⟨k1, k2, k3⟩ := len1 h
      simp [h, lv_get n 0 (by omega), k1, eq_dec]
      rw [lim_at (by omega), k1]
      omega
    · have hn : n ≠ 1 := fun e => h (by rw [e, lim1]; rfl)
      have h2 : ¬ ((lim n).length : Int) = 1 := by omega
      simp [h, h2, hn]
  simp
  exact retRO0 (by simp) rfl rfl

theorem l04Cmp_ro (a b : Rat) (ha : fits a) (hb : fits b) : RO Try.prog 69 [.agg (rq a).c, .agg (rq b).c] (.int .i64 (cmpR a b)) := by
  obtain ⟨a1, a2⟩ := ha
  obtain ⟨b1, b2⟩ := hb
  have n1 := len_mul a1 b2
  have n2 := len_mul b1 a2
  have e1 : sg (decide (a.num < 0)) (a.num.natAbs * b.den) = a.num * b.den := by
    have := sg_mul a.num b.den
    have h0 : decide (((b.den : Nat) : Int) < 0) = false := decide_eq_false (by omega)
    rw [h0, Bool.bne_false, Int.natAbs_natCast] at this
    exact this
  have e2 : sg (decide (b.num < 0)) (b.num.natAbs * a.den) = b.num * a.den := by
    have := sg_mul b.num a.den
    have h0 : decide (((a.den : Nat) : Int) < 0) = false := decide_eq_false (by omega)
    rw [h0, Bool.bne_false, Int.natAbs_natCast] at this
    exact this
  refine ro_of2 Try.func69 rfl rfl (by rw [Try.ntmps69]; simp) fun bl => ?_
  rw [Try.ntmps69, Try.results69]
  refine AW_runA ?_
  rw [rqc_def, rqc_def]
  simp
  intro g hg0 hg g2 hg2 h2g hb2
  refine AW_run ?_
  simp
  refine AW_quiet mixedO (by kernel_rfl) ?_
  simp [h2g, Ne.symm h2g]
  refine hcQ_ro (l02Mul_ro _ _ (by omega) (by omega)) ?_
  simp
  refine hcQ_ro (l03Make_ro _ _ (by omega)) ?_
  rw [e1]
  simp [h2g, Ne.symm h2g]
  refine hcQ_ro (l02Mul_ro _ _ (by omega) (by omega)) ?_
  simp
  refine hcQ_ro (l03Make_ro _ _ (by omega)) ?_
  rw [e2]
  simp
  refine hcQ_ro (l03Cmp_ro _ _ (by rw [← e1, sg_abs]; omega) (by rw [← e2, sg_abs]; omega)) ?_
  simp
  exact retRO [.int .i64 (cmpR a b)] 0 (by simp [cmpR]) (by simp [frz]) (by simp [hg, hb2])

theorem spec_RatOk_ro (r : RT) (hm : r.m.length ≤ 140737488351232) (hd : r.d.length ≤ 140737488351232) : RO Try.prog 67 [.agg r.c] (.bool (decide r.ok)) := by
  refine ro_of2 Try.func67 rfl rfl (by rw [Try.ntmps67]; simp) fun bl => ?_
  rw [Try.ntmps67, Try.results67]
  refine AW_run ?_
  simp [RT.c]
  intro g hg0 hg
  refine AW_way [(1, .loc g 3 0 0)] _ (upd bl g (some ⟨3, [[.bool r.neg, .sl (iv r.m), .sl (iv r.d)]]⟩)) 31 (.bool r.bad) (upd bl g (some ⟨3, [[.bool r.neg, .sl (iv r.m), .sl (iv r.d)]]⟩)) ⟨rfl, by simp, Sub.refl _⟩ rfl ?_ ?_
  · simp
    refine callP_ro (spec_BigIntOk_ro r.neg r.m hm) ?_
    simp [RT.bad]
    refine ⟨fun h => by simp [h], fun h => ?_⟩
    refine callP_ro (spec_NatOk_ro r.d hd) ?_
    simp [h]
    refine ⟨fun a => by simp [a], fun a => ⟨fun b => by simp [b], fun b => ⟨fun c => .inr (by omega), fun c => ?_⟩⟩⟩
    have c2 : ¬ 24 < r.d.length := by omega
    simp [a, b, c2]
    omega
  simp
  refine ⟨fun h => ?_, fun h => ?_⟩
  · refine retRO [.bool false] 0 (by simp) ?_ (by simp [hg])
    have : ¬ r.ok := fun hk => by have := (RT.ok_iff.1 hk).1; rw [h] at this; cases this
    simp [frz, this]
  · obtain ⟨l1, l2, l3, l4⟩ := RT.lims h
    rw [l1, l2]
    refine callP_ro (l02Gcd_ro (val r.m) (val r.d) (by rw [← l1]; omega) (by rw [← l2]; omega)) ?_
    simp
    refine callP_ro (l04One_ro _) ?_
    simp
    refine retRO [.bool (decide (Nat.gcd (val r.m) (val r.d) = 1))] 0 (by simp) ?_ (by simp [hg])
    simp [frz, RT.ok_iff, h]

/-- The sign of a fraction; 0 for none. -/
def sgn (x : Option Rat) : Int := match x with | some q => q.num.sign | none => 0
theorem RatSign_ro (r : RT) (hm : r.m.length ≤ 140737488351232) (hd : r.d.length ≤ 140737488351232) : RO Try.prog 68 [.agg r.c] (.int .i64 (sgn (rd r))) := by
  have key : (decide r.ok = false ∨ r.m = [] → sgn (rd r) = 0) ∧ (r.ok → r.m ≠ [] → sgn (rd r) = if r.neg then -1 else 1) := by
    have none_of : ¬ r.ok → rd r = none := fun h => by unfold rd; rw [if_neg h]
    constructor
    · rintro (h | h)
      · rw [none_of (by simpa using h)]; rfl
      · cases hq : rd r with
        | none => rfl
        | some q =>
          obtain ⟨hr, _⟩ := rd_some hq
          have : q.num = 0 := by
            have : lim q.num.natAbs = [] := by rw [← h, hr]; rfl
            have := lim_nil.1 this; omega
          simp [sgn, this]
    · intro h hm
      obtain ⟨q, hq⟩ : ∃ q, rd r = some q := ⟨_, by unfold rd; rw [if_pos h]⟩
      obtain ⟨hr, _⟩ := rd_some hq
      rw [hq]
      have h1 : q.num ≠ 0 := fun h0 => hm (by rw [hr]; show lim q.num.natAbs = []; rw [h0]; exact lim_zero)
      have h2 : r.neg = decide (q.num < 0) := by rw [hr]; rfl
      rw [h2]
      by_cases h3 : q.num < 0
      · simp [sgn, h3, Int.sign_eq_neg_one_of_neg h3]
      · simp [sgn, h3, Int.sign_eq_one_of_pos (show 0 < q.num by omega)]
  refine ro_of2 Try.func68 rfl rfl (by rw [Try.ntmps68]; simp) fun bl => ?_
  rw [Try.ntmps68, Try.results68]
  refine AW_run ?_
  simp [RT.c]
  intro g hg0 hg
  refine AW_way [(1, .loc g 3 0 0)] _ (upd bl g (some ⟨3, [[.bool r.neg, .sl (iv r.m), .sl (iv r.d)]]⟩)) 3 (.bool (!decide r.ok || decide (r.m = []))) (upd bl g (some ⟨3, [[.bool r.neg, .sl (iv r.m), .sl (iv r.d)]]⟩)) ⟨rfl, by simp, Sub.refl _⟩ rfl ?_ ?_
  · simp
    refine callP_ro (spec_RatOk_ro r hm hd) ?_
    simp [len_dec]
    by_cases h : r.ok <;> simp [h]
  simp
  refine ⟨fun h => ?_, fun h1 h2 => ⟨fun h3 => ?_, fun h3 => ?_⟩⟩
  · exact retRO [.int .i64 0] 0 (by simp) (by rw [key.1 (by simpa using h)]; simp [frz]) (by simp [hg])
  · exact retRO [.int .i64 (-1)] 0 (by simp) (by rw [key.2 h1 h2, h3]; simp [frz]) (by simp [hg])
  · exact retRO [.int .i64 1] 0 (by simp) (by rw [key.2 h1 h2, h3]; simp [frz]) (by simp [hg])

end Go.Proofs.Ythhjmaianlmfpaa.Vm

namespace Go.Proofs.Ythhjmaianlmfpaa.Vm
open Go Go.Proofs
set_option linter.unusedSimpArgs false
set_option linter.unusedVariables false

theorem bne_dec (a b : Int) : (a != b) = !decide (a = b) := by rw [Bool.eq_iff_iff]; simp
structure SP where
  lo : RT
  hi : RT
  nl : Bool
  nh : Bool
def SP.c (s : SP) : List V := [.bool s.lo.neg, .sl (iv s.lo.m), .sl (iv s.lo.d), .bool s.hi.neg, .sl (iv s.hi.m), .sl (iv s.hi.d), .bool s.nl, .bool s.nh]
/-- No list of a form is longer than that. -/
def RT.le (r : RT) (k : Nat) : Prop := r.m.length ≤ k ∧ r.d.length ≤ k
def SP.le (s : SP) (k : Nat) : Prop := s.lo.le k ∧ s.hi.le k
def spBad (s : SP) : Bool := match rd s.lo, rd s.hi with
  | some a, some b => (s.nl && decide (a.num.sign ≠ 0)) || (s.nh && decide (b.num.sign ≠ 0))
  | _, _ => true
def spFine (s : SP) : Bool := match rd s.lo, rd s.hi with
  | some a, some b => (s.nl || s.nh) || decide (cmpR a b ≤ 0)
  | _, _ => false
def spOk (s : SP) : Bool := !spBad s && spFine s
theorem ends_ro (s : SP) (hs : s.le 1048576) : RO Try.prog 70 [.agg s.c] (.tup [fv (if spBad s then none else rd s.lo), fv (if spBad s then none else rd s.hi), .bool (spOk s)]) := by
  obtain ⟨⟨h1, h2⟩, h3, h4⟩ := hs
  refine ro_of2 Try.func70 rfl rfl (by rw [Try.ntmps70]; simp) fun bl => ?_
  rw [Try.ntmps70, Try.results70]
  refine AW_run ?_
  simp [SP.c]
  intro g hg0 hg
  refine AW_quiet mixedO (by kernel_rfl) ?_
  simp
  refine hcQ_ro (load_ro s.lo (by omega) (by omega)) ?_
  simp
  refine hcQ_ro (load_ro s.hi (by omega) (by omega)) ?_
  simp
  have hx := okQ_rd s.lo
  have hy := okQ_rd s.hi
  rcases e1 : rd s.lo with _ | a
  · have hb : spBad s = true := by unfold spBad; rw [e1]
    have hk : spOk s = false := by unfold spOk; rw [hb]; rfl
    refine AW_way [(1, .loc g 8 0 0), (5, .nilp), (6, fv (rd s.hi))] _ (upd bl g (some ⟨8, [s.c]⟩)) 36 (.bool true) (upd bl g (some ⟨8, [s.c]⟩)) ⟨rfl, by simp [fv], sub_eq (by simp [SP.c])⟩ rfl ?_ ?_
    · simp
    simp [hb, hk, fv]
    exact retRO [.nilp, .nilp, .bool false] 1 (by simp) rfl (by simp [hg])
  rcases e2 : rd s.hi with _ | b
  · have hb : spBad s = true := by unfold spBad; rw [e1, e2]
    have hk : spOk s = false := by unfold spOk; rw [hb]; rfl
    refine AW_way [(1, .loc g 8 0 0), (5, fv (some a)), (6, .nilp)] _ (upd bl g (some ⟨8, [s.c]⟩)) 36 (.bool true) (upd bl g (some ⟨8, [s.c]⟩)) ⟨rfl, by simp [fv], sub_eq (by simp [SP.c])⟩ rfl ?_ ?_
    · simp [fv]
    simp [hb, hk, fv]
    exact retRO [.nilp, .nilp, .bool false] 1 (by simp) rfl (by simp [hg])
  have fa := hx a e1
  have fb := hy b e2
  refine AW_way [(1, .loc g 8 0 0), (5, .ptr (rq a).c), (6, .ptr (rq b).c)] _ (upd bl g (some ⟨8, [s.c]⟩)) 36 (.bool (spBad s)) (upd bl g (some ⟨8, [s.c]⟩)) ⟨rfl, by simp [fv], sub_eq (by simp [SP.c])⟩ rfl ?_ ?_
  · have hbv : spBad s = ((s.nl && decide (a.num.sign ≠ 0)) || (s.nh && decide (b.num.sign ≠ 0))) := by unfold spBad; rw [e1, e2]
    rw [hbv]
    cases hnl : s.nl <;> cases hnh : s.nh
    · simp [SP.c, hnl, hnh]
    · simp [SP.c, hnl, hnh]
      refine callP_ro (Sign_ro b) ?_
      simp [SP.c, hnl, hnh, bne_dec]
    · simp [SP.c, hnl, hnh]
      refine callP_ro (Sign_ro a) ?_
      simp [SP.c, hnl, hnh, bne_dec]
    · simp [SP.c, hnl, hnh]
      refine callP_ro (Sign_ro a) ?_
      simp [SP.c, hnl, hnh, bne_dec]
      refine ⟨fun h => .inl h, fun h => ?_⟩
      refine callP_ro (Sign_ro b) ?_
      simp [SP.c, hnl, hnh, bne_dec, h]
  cases hb : spBad s
  · have hkv : spOk s = ((s.nl || s.nh) || decide (cmpR a b ≤ 0)) := by unfold spOk spFine; rw [hb, e1, e2]; rfl
    rw [hkv]
    simp [fv]
    cases hnl : s.nl <;> cases hnh : s.nh
    · refine AW_region (Ops_of ?_)
      simp [SP.c, hnl, hnh]
      refine callP_ro (Cmp_ro a b (few_mono fa (by decide)) (few_mono fb (by decide))) ?_
      simp [SP.c, hnl, hnh]
      exact retRO [.ptr (rq a).c, .ptr (rq b).c, .bool (decide (cmpR a b ≤ 0))] 1 (by simp) rfl (by simp [hg])
    all_goals
      refine AW_region (Ops_of ?_)
      simp [SP.c, hnl, hnh]
      exact retRO [.ptr (rq a).c, .ptr (rq b).c, .bool true] 1 (by simp) rfl (by simp [hg])
  · have hk : spOk s = false := by unfold spOk; rw [hb]; rfl
    simp [fv, hk]
    exact retRO [.nilp, .nilp, .bool false] 1 (by simp) rfl (by simp [hg])

theorem impl_SpanOk_ro (s : SP) (hs : s.le 1048576) : RO Try.prog 23 [.agg s.c] (.bool (spOk s)) := by
  refine ro_of2 Try.func23 rfl rfl (by rw [Try.ntmps23]; simp) fun bl => ?_
  rw [Try.ntmps23, Try.results23]
  refine AW_run ?_
  simp [SP.c]
  intro g hg0 hg
  refine callP_ro (ends_ro s hs) ?_
  simp
  exact retRO [.bool (spOk s)] 0 (by simp) (by simp [frz]) (by simp [hg])
theorem impl_IsOpen_ro (s : SP) (hs : s.le 1048576) : RO Try.prog 26 [.agg s.c] (.bool (spOk s && (s.nl || s.nh))) := by
  refine ro_of2 Try.func26 rfl rfl (by rw [Try.ntmps26]; simp) fun bl => ?_
  rw [Try.ntmps26, Try.results26]
  refine AW_run ?_
  simp [SP.c]
  intro g hg0 hg
  refine AW_way [(1, .loc g 8 0 0)] _ (upd bl g (some ⟨8, [s.c]⟩)) 2 (.bool (spOk s && (s.nl || s.nh))) (upd bl g (some ⟨8, [s.c]⟩)) ⟨rfl, by simp, sub_eq (by simp [SP.c])⟩ rfl ?_ ?_
  · simp [SP.c]
    refine callP_ro (impl_SpanOk_ro s hs) ?_
    cases spOk s <;> cases hnl : s.nl <;> simp [SP.c, hnl]
  simp
  exact retRO [.bool (spOk s && (s.nl || s.nh))] 0 (by simp) (by simp [frz]) (by simp [hg])

/-! ### Spans in the reference -/
theorem spec_SpanOk_ro (s : SP) (hs : s.le 1048576) : RO Try.prog 21 [.agg s.c] (.bool (spOk s)) := by
  obtain ⟨⟨h1, h2⟩, h3, h4⟩ := hs
  refine ro_of2 Try.func21 rfl rfl (by rw [Try.ntmps21]; simp) fun bl => ?_
  rw [Try.ntmps21, Try.results21]
  refine AW_run ?_
  simp [SP.c]
  intro g hg0 hg
  refine AW_way [(1, .loc g 8 0 0)] _ (upd bl g (some ⟨8, [s.c]⟩)) 32 (.bool (spBad s)) (upd bl g (some ⟨8, [s.c]⟩)) ⟨rfl, by simp, sub_eq (by simp [SP.c])⟩ rfl ?_ ?_
  · simp [SP.c]
    refine callP_ro (spec_RatOk_ro s.lo (by omega) (by omega)) ?_
    simp
    refine ⟨fun h => ?_, fun h => ?_⟩
    · have : rd s.lo = none := by unfold rd; rw [if_neg h]
      simp [spBad, this]
    refine callP_ro (spec_RatOk_ro s.hi (by omega) (by omega)) ?_
    simp [h]
    refine ⟨fun h5 => ?_, fun h5 => ?_⟩
    · have : rd s.hi = none := by unfold rd; rw [if_neg h5]
      simp [spBad, this]
    obtain ⟨a, e1⟩ : ∃ q, rd s.lo = some q := ⟨_, by unfold rd; rw [if_pos h]⟩
    obtain ⟨b, e2⟩ : ∃ q, rd s.hi = some q := ⟨_, by unfold rd; rw [if_pos h5]⟩
    have hbv : spBad s = ((s.nl && decide (a.num.sign ≠ 0)) || (s.nh && decide (b.num.sign ≠ 0))) := by unfold spBad; rw [e1, e2]
    rw [hbv]
    have ra := RatSign_ro s.lo (by omega) (by omega)
    have rb := RatSign_ro s.hi (by omega) (by omega)
    rw [e1] at ra
    rw [e2] at rb
    cases hnl : s.nl <;> cases hnh : s.nh
    · simp [SP.c, hnl, hnh, h5]
    · simp [SP.c, hnl, hnh, h5]
      refine callP_ro rb ?_
      simp [SP.c, hnl, hnh, bne_dec, sgn]
    · simp [SP.c, hnl, hnh, h5]
      refine callP_ro ra ?_
      simp [SP.c, hnl, hnh, bne_dec, sgn]
    · simp [SP.c, hnl, hnh, h5]
      refine callP_ro ra ?_
      simp [SP.c, hnl, hnh, bne_dec, sgn]
      refine ⟨fun h => .inl h, fun h => ?_⟩
      refine callP_ro rb ?_
      simp [SP.c, hnl, hnh, bne_dec, h, sgn]
  cases hb : spBad s
  · simp
    rcases e1 : rd s.lo with _ | a
    · unfold spBad at hb; rw [e1] at hb; cases hb
    rcases e2 : rd s.hi with _ | b
    · unfold spBad at hb; rw [e1, e2] at hb; cases hb
    obtain ⟨ha, fa⟩ := rd_some e1
    obtain ⟨hb2, fb⟩ := rd_some e2
    have hc := l04Cmp_ro a b fa fb
    rw [← ha, ← hb2] at hc
    have hkv : spOk s = ((s.nl || s.nh) || decide (cmpR a b ≤ 0)) := by unfold spOk spFine; rw [hb, e1, e2]; rfl
    rw [hkv]
    cases hnl : s.nl <;> cases hnh : s.nh
    · refine AW_region (Ops_of ?_)
      simp [SP.c, hnl, hnh]
      refine callP_ro hc ?_
      simp [SP.c, hnl, hnh]
      exact retRO [.bool (decide (cmpR a b ≤ 0))] 0 (by simp) (by simp [frz]) (by simp [hg])
    all_goals
      refine AW_region (Ops_of ?_)
      simp [SP.c, hnl, hnh]
      exact retRO [.bool true] 0 (by simp) (by simp [frz]) (by simp [hg])
  · have hk : spOk s = false := by unfold spOk; rw [hb]; rfl
    simp [hk]
    exact retRO [.bool false] 0 (by simp) (by simp [frz]) (by simp [hg])
theorem spec_IsOpen_ro (s : SP) (hs : s.le 1048576) : RO Try.prog 25 [.agg s.c] (.bool (spOk s && (s.nl || s.nh))) := by
  refine ro_of2 Try.func25 rfl rfl (by rw [Try.ntmps25]; simp) fun bl => ?_
  rw [Try.ntmps25, Try.results25]
  refine AW_run ?_
  simp [SP.c]
  intro g hg0 hg
  refine AW_way [(1, .loc g 8 0 0)] _ (upd bl g (some ⟨8, [s.c]⟩)) 2 (.bool (spOk s && (s.nl || s.nh))) (upd bl g (some ⟨8, [s.c]⟩)) ⟨rfl, by simp, sub_eq (by simp [SP.c])⟩ rfl ?_ ?_
  · simp [SP.c]
    refine callP_ro (spec_SpanOk_ro s hs) ?_
    cases spOk s <;> cases hnl : s.nl <;> simp [SP.c, hnl]
  simp
  exact retRO [.bool (spOk s && (s.nl || s.nh))] 0 (by simp) (by simp [frz]) (by simp [hg])

end Go.Proofs.Ythhjmaianlmfpaa.Vm

namespace Go.Proofs.Ythhjmaianlmfpaa.Vm
open Go Go.Proofs
set_option linter.unusedSimpArgs false
set_option linter.unusedVariables false

theorem celT_int : Try.prog.cellsOf 3 = 1 := by kernel_rfl
theorem celT_bool : Try.prog.cellsOf 4 = 1 := by kernel_rfl
theorem celT_string : Try.prog.cellsOf 9 = 1 := by kernel_rfl
theorem celT_Joint : Try.prog.cellsOf 169 = 4 := by kernel_rfl

theorem len2 {cs : List V} (h : cs.length = 2) : ∃ a b, cs = [a, b] := by
  match cs, h with
  | [a, b], _ => exact ⟨a, b, rfl⟩
theorem len3 {cs : List V} (h : cs.length = 3) : ∃ a b c, cs = [a, b, c] := by
  match cs, h with
  | [a, b, c], _ => exact ⟨a, b, c, rfl⟩
theorem len4 {cs : List V} (h : cs.length = 4) : ∃ a b c d, cs = [a, b, c, d] := by
  match cs, h with
  | [a, b, c, d], _ => exact ⟨a, b, c, d, rfl⟩

theorem j_of_co {cs : List V} (h : CO Try.prog 169 cs) : ∃ j : J, cs = j.c ∧ j.fit := by
  obtain ⟨hl, hf⟩ := co_struct Try.underlying169 h
  rw [celT_Joint] at hl
  obtain ⟨a, b, c, d, rfl⟩ := len4 hl
  simp [celT_int, celT_bool, celT_string] at hf
  obtain ⟨h0, h1, h2, h3⟩ := hf
  obtain ⟨s, h0, hs⟩ := co_str Try.underlying9 h0
  obtain ⟨x, h1, hx⟩ := co_int Try.underlying3 h1
  obtain ⟨y, h2, hy⟩ := co_int Try.underlying3 h2
  obtain ⟨f, h3⟩ := co_bool Try.underlying4 h3
  cases h0; cases h1; cases h2; cases h3
  exact ⟨⟨s, x, y, f⟩, rfl, hs, wf_i64 hx, wf_i64 hy⟩

theorem bytes_int : Try.prog.bytesOf 3 = 8 := by kernel_rfl

theorem iv_of_co {cs : List V} (h : CO Try.prog 27 cs) : ∃ ns : List Int, cs = [.sl (iv ns)] ∧ ns.length ≤ 17592186043904 ∧ ∀ n, n ∈ ns → -9223372036854775808 ≤ n ∧ n ≤ 9223372036854775807 := by
  obtain ⟨xs, rfl, hx, hl⟩ := co_slice Try.underlying27 h
  rw [bytes_int] at hl
  have : ∃ ns : List Int, xs = iv ns ∧ ∀ n, n ∈ ns → -9223372036854775808 ≤ n ∧ n ≤ 9223372036854775807 := by
    clear hl h
    induction xs with
    | nil => exact ⟨[], rfl, fun n hn => by cases hn⟩
    | cons x xs ih =>
      obtain ⟨ns, rfl, hns⟩ := ih fun y hy => hx y (List.mem_cons_of_mem _ hy)
      obtain ⟨n, rfl, hn⟩ := co_int Try.underlying3 (hx x List.mem_cons_self)
      refine ⟨n :: ns, rfl, fun m hm => ?_⟩
      rcases List.mem_cons.1 hm with rfl | hm
      · exact wf_i64 hn
      · exact hns m hm
  obtain ⟨ns, rfl, hns⟩ := this
  exact ⟨ns, rfl, by simp at hl; omega, hns⟩

end Go.Proofs.Ythhjmaianlmfpaa.Vm

namespace Go.Proofs.Ythhjmaianlmfpaa.Vm
open Go Go.Proofs
set_option linter.unusedSimpArgs false
set_option linter.unusedVariables false

theorem celT_Member : Try.prog.cellsOf 173 = 3 := by kernel_rfl
theorem celT_Structure : Try.prog.cellsOf 69 = 2 := by kernel_rfl
theorem celT_Joints : Try.prog.cellsOf 66 = 1 := by kernel_rfl
theorem celT_Members : Try.prog.cellsOf 67 = 1 := by kernel_rfl
theorem bytes_Joint : 1 ≤ Try.prog.bytesOf 169 := by
  have : Try.prog.bytesOf 169 = 40 := by kernel_rfl
  omega
theorem bytes_Member : 1 ≤ Try.prog.bytesOf 173 := by
  have : Try.prog.bytesOf 173 = 24 := by kernel_rfl
  omega

def In64 (n : Int) : Prop := -9223372036854775808 ≤ n ∧ n ≤ 9223372036854775807
structure Mb.fit (m : Mb) : Prop where
  a : In64 m.a
  b : In64 m.b
  kind : In64 m.kind
structure Str.fit (s : Str) : Prop where
  js : s.js.length ≤ 140737488351232
  ms : s.ms.length ≤ 140737488351232
  names : ∀ j, j ∈ s.js → j.name.size ≤ 140737488351232
  joints : ∀ j, j ∈ s.js → j.fit
  members : ∀ m, m ∈ s.ms → m.fit

theorem m_of_co {cs : List V} (h : CO Try.prog 173 cs) : ∃ m : Mb, cs = m.c ∧ m.fit := by
  obtain ⟨hl, hf⟩ := co_struct Try.underlying173 h
  rw [celT_Member] at hl
  obtain ⟨a, b, c, rfl⟩ := len3 hl
  simp [celT_int, celT_bool, celT_string] at hf
  obtain ⟨h0, h1, h2⟩ := hf
  obtain ⟨x, h0, hx⟩ := co_int Try.underlying3 h0
  obtain ⟨y, h1, hy⟩ := co_int Try.underlying3 h1
  obtain ⟨z, h2, hz⟩ := co_int Try.underlying3 h2
  cases h0; cases h1; cases h2
  exact ⟨⟨x, y, z⟩, rfl, wf_i64 hx, wf_i64 hy, wf_i64 hz⟩

theorem jv_of {xs : List (List V)} (hx : ∀ x, x ∈ xs → CO Try.prog 169 x) : ∃ js : List J, xs = jv js ∧ ∀ j, j ∈ js → j.fit := by
  induction xs with
  | nil => exact ⟨[], rfl, fun n hn => by cases hn⟩
  | cons x xs ih =>
    obtain ⟨ns, rfl, hns⟩ := ih fun y hy => hx y (List.mem_cons_of_mem _ hy)
    obtain ⟨n, rfl, hn⟩ := j_of_co (hx x List.mem_cons_self)
    refine ⟨n :: ns, rfl, fun m hm => ?_⟩
    rcases List.mem_cons.1 hm with rfl | hm
    · exact hn
    · exact hns m hm
theorem mv_of {xs : List (List V)} (hx : ∀ x, x ∈ xs → CO Try.prog 173 x) : ∃ js : List Mb, xs = mv js ∧ ∀ j, j ∈ js → j.fit := by
  induction xs with
  | nil => exact ⟨[], rfl, fun n hn => by cases hn⟩
  | cons x xs ih =>
    obtain ⟨ns, rfl, hns⟩ := ih fun y hy => hx y (List.mem_cons_of_mem _ hy)
    obtain ⟨n, rfl, hn⟩ := m_of_co (hx x List.mem_cons_self)
    refine ⟨n :: ns, rfl, fun m hm => ?_⟩
    rcases List.mem_cons.1 hm with rfl | hm
    · exact hn
    · exact hns m hm

theorem len_of {xs : List (List V)} {b n : Nat} (hl : xs.length * b ≤ n) (hb : 1 ≤ b) : xs.length ≤ n := Nat.le_trans (Nat.le_mul_of_pos_right _ hb) hl

theorem str_of_co {cs : List V} (h : CO Try.prog 69 cs) : ∃ s : Str, cs = s.c ∧ s.fit := by
  obtain ⟨hl, hf⟩ := co_struct Try.underlying69 h
  rw [celT_Structure] at hl
  obtain ⟨a, b, rfl⟩ := len2 hl
  simp [celT_Joints, celT_Members] at hf
  obtain ⟨h0, h1⟩ := hf
  obtain ⟨x, h0, hx, hlx⟩ := co_slice Try.underlying66 h0
  obtain ⟨y, h1, hy, hly⟩ := co_slice Try.underlying67 h1
  cases h0; cases h1
  obtain ⟨js, rfl, hjs⟩ := jv_of hx
  obtain ⟨ms, rfl, hms⟩ := mv_of hy
  exact ⟨⟨js, ms⟩, rfl, by simpa using len_of hlx bytes_Joint, by simpa using len_of hly bytes_Member, fun j hj => (hjs j hj).1, hjs, hms⟩

end Go.Proofs.Ythhjmaianlmfpaa.Vm

namespace Go.Proofs.Ythhjmaianlmfpaa.Vm
open Go Go.Proofs
set_option linter.unusedSimpArgs false
set_option linter.unusedVariables false

theorem szBigInt_ro (neg : Bool) (m : List Int) (left : Int) (hl : -1 ≤ left ∧ left ≤ 1048576) (hm : m.length ≤ 140737488351232) : RO Try.prog 71 [.agg [.bool neg, .sl (iv m)], .int .i64 left] (.int .i64 (less left m.length)) := by
  refine ro_of2 Try.func71 rfl rfl (by rw [Try.ntmps71]; simp) fun bl => ?_
  rw [Try.ntmps71, Try.results71]
  refine AW_run ?_
  simp
  intro g hg0 hg
  refine callP_ro (szIntS_ro m left hl hm) ?_
  simp
  refine ⟨fun h => ?_, fun h => ?_⟩
  · have : less left m.length = -1 := by unfold less at h ⊢; split at h <;> split <;> omega
    exact retRO [.int .i64 (-1)] 0 (by simp) (by simp [frz, this]) (by simp [hg])
  · exact retRO [.int .i64 (less left m.length)] 0 (by simp) (by simp [frz]) (by simp [hg])
theorem less_n {left : Int} {n : Nat} (h : 0 ≤ less left n) : (n : Int) ≤ left := by unfold less at h; split at h <;> omega
theorem less_neg {left : Int} {n : Nat} (h : less left n < 0) : less left n = -1 := by unfold less at h ⊢; split at h <;> split <;> omega
def szR (r : RT) (left : Int) : Int := if less left r.m.length < 0 then -1 else less (less left r.m.length) r.d.length
theorem szR_le {r : RT} {left : Int} (hl : -1 ≤ left ∧ left ≤ 1048576) : -1 ≤ szR r left ∧ szR r left ≤ 1048576 := by
  unfold szR; split
  · omega
  · exact less_le (less_le hl)
theorem szR_n {r : RT} {left : Int} (hl : -1 ≤ left ∧ left ≤ 1048576) (h : 0 ≤ szR r left) : r.le 1048576 := by
  unfold szR at h
  split at h
  · omega
  · have h1 := less_n (show 0 ≤ less left r.m.length by omega)
    have h2 := less_n h
    have := (less_le (n := r.m.length) hl).2
    exact ⟨by omega, by omega⟩
theorem szRat_ro (r : RT) (left : Int) (hl : -1 ≤ left ∧ left ≤ 1048576) (hr : r.le 140737488351232) : RO Try.prog 27 [.agg r.c, .int .i64 left] (.int .i64 (szR r left)) := by
  refine ro_of2 Try.func27 rfl rfl (by rw [Try.ntmps27]; simp) fun bl => ?_
  rw [Try.ntmps27, Try.results27]
  refine AW_run ?_
  simp [RT.c]
  intro g hg0 hg
  refine callP_ro (szBigInt_ro r.neg r.m left hl hr.1) ?_
  simp
  refine ⟨fun h => ?_, fun h => ?_⟩
  · exact retRO [.int .i64 (-1)] 0 (by simp) (by simp [frz, szR, h]) (by simp [hg])
  · refine callP_ro (szIntS_ro r.d _ (less_le hl) hr.2) ?_
    have hn : ¬ less left r.m.length < 0 := by omega
    simp
    refine ⟨fun h2 => ?_, fun h2 => ?_⟩
    · exact retRO [.int .i64 (-1)] 0 (by simp) (by simp [frz, szR, hn, less_neg h2]) (by simp [hg])
    · exact retRO [.int .i64 (szR r left)] 0 (by simp [szR, hn]) (by simp [frz]) (by simp [hg])
def szSp (s : SP) (left : Int) : Int := if szR s.lo left < 0 then -1 else szR s.hi (szR s.lo left)
theorem szR_neg {r : RT} {left : Int} (h : szR r left < 0) : szR r left = -1 := by
  unfold szR at h ⊢
  split at h
  · rw [if_pos (by assumption)]
  · rename_i hn; rw [if_neg hn]; exact less_neg h
theorem szSp_le {s : SP} {left : Int} (hl : -1 ≤ left ∧ left ≤ 1048576) : -1 ≤ szSp s left ∧ szSp s left ≤ 1048576 := by
  unfold szSp; split
  · omega
  · exact szR_le (szR_le hl)
theorem szSp_n {s : SP} {left : Int} (hl : -1 ≤ left ∧ left ≤ 1048576) (h : 0 ≤ szSp s left) : s.le 1048576 := by
  unfold szSp at h
  split at h
  · omega
  · exact ⟨szR_n hl (by omega), szR_n (szR_le hl) h⟩
theorem szSpan_ro (s : SP) (left : Int) (hl : -1 ≤ left ∧ left ≤ 1048576) (hs : s.le 140737488351232) : RO Try.prog 20 [.agg s.c, .int .i64 left] (.int .i64 (szSp s left)) := by
  refine ro_of2 Try.func20 rfl rfl (by rw [Try.ntmps20]; simp) fun bl => ?_
  rw [Try.ntmps20, Try.results20]
  refine AW_run ?_
  simp [SP.c]
  intro g hg0 hg
  refine callP_ro (szRat_ro s.lo left hl hs.1) ?_
  simp
  refine ⟨fun h => ?_, fun h => ?_⟩
  · exact retRO [.int .i64 (-1)] 0 (by simp) (by simp [frz, szSp, h]) (by simp [hg])
  · refine callP_ro (szRat_ro s.hi _ (szR_le hl) hs.2) ?_
    have hn : ¬ szR s.lo left < 0 := by omega
    simp
    refine ⟨fun h2 => ?_, fun h2 => ?_⟩
    · exact retRO [.int .i64 (-1)] 0 (by simp) (by simp [frz, szSp, hn, szR_neg h2]) (by simp [hg])
    · exact retRO [.int .i64 (szSp s left)] 0 (by simp [szSp, hn]) (by simp [frz]) (by simp [hg])

/-! ### Copies -/
theorem toBigInt_ro (neg : Bool) (m : List Int) (hm : m.length ≤ 1048576) : RO Try.prog 73 [.agg [.bool neg, .sl (iv m)]] (.agg [.bool neg, .sl (iv m)]) := by
  refine ro_of2 Try.func73 rfl rfl (by rw [Try.ntmps73]; simp) fun bl => ?_
  rw [Try.ntmps73, Try.results73]
  refine AW_run ?_
  simp
  intro g1 hg1 hb1 g2 hg2 h21 hb2 g3 hg3 h32 h31 hb3
  try simp [h21, h31, h32, Ne.symm h21, Ne.symm h31, Ne.symm h32]
  refine callP_ro (toIntS_ro m hm) ?_
  simp [h21, h31, h32, Ne.symm h21, Ne.symm h31, Ne.symm h32]
  exact retRO [.agg [.bool neg, .sl (iv m)]] 1 (by simp [h21, h31, h32, Ne.symm h21, Ne.symm h31, Ne.symm h32]) rfl (by simp [hb1, hb2, hb3])
theorem toRat_ro (r : RT) (hr : r.le 1048576) : RO Try.prog 29 [.agg r.c] (.agg r.c) := by
  refine ro_of2 Try.func29 rfl rfl (by rw [Try.ntmps29]; simp) fun bl => ?_
  rw [Try.ntmps29, Try.results29]
  refine AW_run ?_
  simp [RT.c]
  intro g1 hg1 hb1 g2 hg2 h21 hb2 g3 hg3 h32 h31 hb3
  try simp [h21, h31, h32, Ne.symm h21, Ne.symm h31, Ne.symm h32]
  refine callP_ro (toBigInt_ro r.neg r.m hr.1) ?_
  simp [h21, h31, h32, Ne.symm h21, Ne.symm h31, Ne.symm h32]
  refine callP_ro (toIntS_ro r.d hr.2) ?_
  simp [h21, h31, h32, Ne.symm h21, Ne.symm h31, Ne.symm h32]
  exact retRO [.agg [.bool r.neg, .sl (iv r.m), .sl (iv r.d)]] 1 (by simp [h21, h31, h32, Ne.symm h21, Ne.symm h31, Ne.symm h32]) rfl (by simp [hb1, hb2, hb3])
theorem toSpan_ro (s : SP) (hs : s.le 1048576) : RO Try.prog 22 [.agg s.c] (.agg s.c) := by
  refine ro_of2 Try.func22 rfl rfl (by rw [Try.ntmps22]; simp) fun bl => ?_
  rw [Try.ntmps22, Try.results22]
  refine AW_run ?_
  simp [SP.c]
  intro g1 hg1 hb1 g2 hg2 h21 hb2 g3 hg3 h32 h31 hb3
  try simp [h21, h31, h32, Ne.symm h21, Ne.symm h31, Ne.symm h32]
  refine callP_ro (toRat_ro s.lo hs.1) ?_
  simp [h21, h31, h32, Ne.symm h21, Ne.symm h31, Ne.symm h32, RT.c]
  refine callP_ro (toRat_ro s.hi hs.2) ?_
  simp [h21, h31, h32, Ne.symm h21, Ne.symm h31, Ne.symm h32, RT.c]
  exact retRO [.agg s.c] 1 (by simp [SP.c, h21, h31, h32, Ne.symm h21, Ne.symm h31, Ne.symm h32]) rfl (by simp [hb1, hb2, hb3])

/-! ### Comparisons with itself -/
theorem eqBigInt_ro (neg : Bool) (m : List Int) (hm : m.length ≤ 140737488351232) : RO Try.prog 77 [.agg [.bool neg, .sl (iv m)], .agg [.bool neg, .sl (iv m)]] (.bool true) := by
  refine ro_of2 Try.func77 rfl rfl (by rw [Try.ntmps77]; simp) fun bl => ?_
  rw [Try.ntmps77, Try.results77]
  refine AW_run ?_
  simp
  intro g1 hg1 hb1 g2 hg2 h21 hb2
  try simp [h21, Ne.symm h21]
  refine callP_ro (eqIntS_ro m m hm) ?_
  simp
  exact retRO [.bool true] 0 (by simp) rfl (by simp [hb1, hb2])
theorem eqRat_ro (r : RT) (hr : r.le 140737488351232) : RO Try.prog 31 [.agg r.c, .agg r.c] (.bool true) := by
  refine ro_of2 Try.func31 rfl rfl (by rw [Try.ntmps31]; simp) fun bl => ?_
  rw [Try.ntmps31, Try.results31]
  refine AW_run ?_
  simp [RT.c]
  intro g1 hg1 hb1 g2 hg2 h21 hb2
  try simp [h21, Ne.symm h21]
  refine callP_ro (eqBigInt_ro r.neg r.m hr.1) ?_
  simp [h21, Ne.symm h21]
  refine callP_ro (eqIntS_ro r.d r.d hr.2) ?_
  simp
  exact retRO [.bool true] 0 (by simp) rfl (by simp [hb1, hb2])
theorem eqSpan_ro (s : SP) (hs : s.le 140737488351232) : RO Try.prog 24 [.agg s.c, .agg s.c] (.bool true) := by
  refine ro_of2 Try.func24 rfl rfl (by rw [Try.ntmps24]; simp) fun bl => ?_
  rw [Try.ntmps24, Try.results24]
  refine AW_run ?_
  simp [SP.c]
  intro g1 hg1 hb1 g2 hg2 h21 hb2
  try simp [h21, Ne.symm h21]
  refine callP_ro (eqRat_ro s.lo hs.1) ?_
  simp [h21, Ne.symm h21]
  refine callP_ro (eqRat_ro s.hi hs.2) ?_
  simp [h21, Ne.symm h21]
  exact retRO [.bool true] 0 (by simp) rfl (by simp [hb1, hb2])

end Go.Proofs.Ythhjmaianlmfpaa.Vm

namespace Go.Proofs.Ythhjmaianlmfpaa.Vm
open Go Go.Proofs
set_option linter.unusedSimpArgs false
set_option linter.unusedVariables false

theorem celT_Rat : Try.prog.cellsOf 44 = 3 := by kernel_rfl
theorem celT_BigInt : Try.prog.cellsOf 42 = 2 := by kernel_rfl
theorem celT_Span : Try.prog.cellsOf 46 = 8 := by kernel_rfl
theorem celT_ints : Try.prog.cellsOf 27 = 1 := by kernel_rfl
theorem len8 {cs : List V} (h : cs.length = 8) : ∃ a b c d e f g i, cs = [a, b, c, d, e, f, g, i] := by
  match cs, h with
  | [a, b, c, d, e, f, g, i], _ => exact ⟨a, b, c, d, e, f, g, i, rfl⟩
theorem bi_of_co {cs : List V} (h : CO Try.prog 42 cs) : ∃ (b : Bool) (m : List Int), cs = [.bool b, .sl (iv m)] ∧ m.length ≤ 17592186043904 := by
  obtain ⟨hl, hf⟩ := co_struct Try.underlying42 h
  rw [celT_BigInt] at hl
  obtain ⟨a, b, rfl⟩ := len2 hl
  simp [celT_bool, celT_ints] at hf
  obtain ⟨h0, h1⟩ := hf
  obtain ⟨x, h0⟩ := co_bool Try.underlying4 h0
  obtain ⟨m, h1, hm, _⟩ := iv_of_co h1
  cases h0; cases h1
  exact ⟨x, m, rfl, hm⟩
theorem rat_of_co {cs : List V} (h : CO Try.prog 44 cs) : ∃ r : RT, cs = r.c ∧ r.le 17592186043904 := by
  obtain ⟨hl, hf⟩ := co_struct Try.underlying44 h
  rw [celT_Rat] at hl
  obtain ⟨a, b, c, rfl⟩ := len3 hl
  simp [celT_BigInt, celT_ints] at hf
  obtain ⟨h0, h1⟩ := hf
  obtain ⟨x, m, h0, hm⟩ := bi_of_co h0
  obtain ⟨d, h1, hd, _⟩ := iv_of_co h1
  cases h0; cases h1
  exact ⟨⟨x, m, d⟩, rfl, hm, hd⟩
theorem sp_of_co {cs : List V} (h : CO Try.prog 46 cs) : ∃ s : SP, cs = s.c ∧ s.le 17592186043904 := by
  obtain ⟨hl, hf⟩ := co_struct Try.underlying46 h
  rw [celT_Span] at hl
  obtain ⟨a, b, c, d, e, f, g, i, rfl⟩ := len8 hl
  simp [celT_Rat, celT_bool] at hf
  obtain ⟨h0, h1, h2, h3⟩ := hf
  obtain ⟨r, h0, hr⟩ := rat_of_co h0
  obtain ⟨r2, h1, hr2⟩ := rat_of_co h1
  obtain ⟨x, h2⟩ := co_bool Try.underlying4 h2
  obtain ⟨y, h3⟩ := co_bool Try.underlying4 h3
  cases h0; cases h1; cases h2; cases h3
  exact ⟨⟨r, r2, x, y⟩, rfl, hr, hr2⟩
theorem SP.le_mono {s : SP} {k l : Nat} (h : s.le k) (hkl : k ≤ l) : s.le l := ⟨⟨by have := h.1.1; omega, by have := h.1.2; omega⟩, by have := h.2.1; omega, by have := h.2.2; omega⟩
theorem RT.le_mono {s : RT} {k l : Nat} (h : s.le k) (hkl : k ≤ l) : s.le l := ⟨by have := h.1; omega, by have := h.2; omega⟩

theorem spOk_some {s : SP} (h : spOk s = true) : spBad s = false ∧ ∃ a b, rd s.lo = some a ∧ rd s.hi = some b := by
  unfold spOk at h
  rw [Bool.and_eq_true, Bool.not_eq_true'] at h
  refine ⟨h.1, ?_⟩
  have := h.1
  unfold spBad at this
  rcases e1 : rd s.lo with _ | a
  · rw [e1] at this; cases this
  rcases e2 : rd s.hi with _ | b
  · rw [e1, e2] at this; cases this
  exact ⟨a, b, rfl, rfl⟩

theorem law_SpanOk_ro (s : SP) (hs : s.le 17592186043904) : RO Try.prog 4 [.agg s.c] (.bool true) := by
  refine ro_of2 Try.func4 rfl rfl (by rw [Try.ntmps4]; simp) fun bl => ?_
  rw [Try.ntmps4, Try.results4]
  refine AW_run ?_
  simp [SP.c]
  intro g hg0 hg
  refine callP_ro (szSpan_ro s _ (by omega) (SP.le_mono hs (by omega))) ?_
  simp
  refine ⟨fun h => ?_, fun h => ?_⟩
  · exact retRO [.bool true] 0 (by simp) rfl (by simp [hg])
  have hk := szSp_n (s := s) (left := 1048576) (by omega) (by omega)
  refine callP_ro (toSpan_ro s hk) ?_
  simp
  refine callP_ro (spec_SpanOk_ro s hk) ?_
  simp
  refine callP_ro (toSpan_ro s hk) ?_
  simp [SP.c]
  intro g2 hg2 h2g hb2
  try simp [h2g, Ne.symm h2g]
  refine callP_ro (impl_SpanOk_ro s hk) ?_
  simp
  refine AW_quiet mixedO (by kernel_rfl) ?_
  simp [h2g, Ne.symm h2g]
  refine hcQ_ro (toSpan_ro s hk) ?_
  simp
  refine hcQ_ro (eqSpan_ro s (SP.le_mono hs (by omega))) ?_
  simp
  exact retRO [.bool true] 0 (by simp) rfl (by simp [hg, hb2])

theorem law_IsOpen_ro (s : SP) (hs : s.le 17592186043904) : RO Try.prog 5 [.agg s.c] (.bool true) := by
  refine ro_of2 Try.func5 rfl rfl (by rw [Try.ntmps5]; simp) fun bl => ?_
  rw [Try.ntmps5, Try.results5]
  refine AW_run ?_
  simp [SP.c]
  intro g hg0 hg
  refine callP_ro (szSpan_ro s _ (by omega) (SP.le_mono hs (by omega))) ?_
  simp
  refine ⟨fun h => ?_, fun h => ?_⟩
  · exact retRO [.bool true] 0 (by simp) rfl (by simp [hg])
  have hk := szSp_n (s := s) (left := 1048576) (by omega) (by omega)
  refine callP_ro (toSpan_ro s hk) ?_
  simp
  refine callP_ro (spec_IsOpen_ro s hk) ?_
  simp
  refine callP_ro (toSpan_ro s hk) ?_
  simp [SP.c]
  intro g2 hg2 h2g hb2
  try simp [h2g, Ne.symm h2g]
  refine callP_ro (impl_IsOpen_ro s hk) ?_
  simp
  refine AW_quiet mixedO (by kernel_rfl) ?_
  simp [h2g, Ne.symm h2g]
  refine hcQ_ro (toSpan_ro s hk) ?_
  simp
  refine hcQ_ro (eqSpan_ro s (SP.le_mono hs (by omega))) ?_
  simp
  exact retRO [.bool true] 0 (by simp) rfl (by simp [hg, hb2])

end Go.Proofs.Ythhjmaianlmfpaa.Vm

namespace Go.Proofs.Ythhjmaianlmfpaa.Vm
open Go Go.Proofs
set_option linter.unusedSimpArgs false
set_option linter.unusedVariables false

theorem cmpR_swap (a b : Rat) : 0 ≤ cmpR a b ↔ cmpR b a ≤ 0 := by
  unfold cmpR
  generalize a.num * (b.den : Int) = x
  generalize b.num * (a.den : Int) = y
  unfold cmpZ
  by_cases h1 : x < y
  · rw [if_pos h1, if_neg (by omega), if_neg (by omega)]; omega
  · by_cases h2 : x = y
    · subst h2; simp
    · rw [if_neg h1, if_neg h2, if_pos (by omega)]; omega
def inSp (s : SP) (r : RT) : Bool := match rd s.lo, rd s.hi, rd r with
  | some a, some b, some v => spOk s && ((s.nl || decide (cmpR a v ≤ 0)) && (s.nh || decide (cmpR v b ≤ 0)))
  | _, _, _ => false
theorem inSp_no {s : SP} {r : RT} (h : spOk s = false) : inSp s r = false := by
  unfold inSp; split <;> simp [h]
theorem inSp_none {s : SP} {r : RT} (h : rd r = none) : inSp s r = false := by
  unfold inSp; split <;> simp_all
theorem impl_InSpan_ro (s : SP) (r : RT) (hs : s.le 1048576) (hr : r.le 1048576) : RO Try.prog 30 [.agg s.c, .agg r.c] (.bool (inSp s r)) := by
  obtain ⟨⟨h1, h2⟩, h3, h4⟩ := hs
  refine ro_of2 Try.func30 rfl rfl (by rw [Try.ntmps30]; simp) fun bl => ?_
  rw [Try.ntmps30, Try.results30]
  refine AW_run ?_
  simp [SP.c, RT.c]
  intro g hg0 hg g2 hg2 h2g hb2
  try simp [h2g, Ne.symm h2g]
  refine callP_ro (ends_ro s ⟨⟨h1, h2⟩, h3, h4⟩) ?_
  try simp [h2g, Ne.symm h2g]
  refine callP_ro (load_ro r (by have := hr.1; omega) (by have := hr.2; omega)) ?_
  try simp [h2g, Ne.symm h2g]
  refine AW_way [(2, .loc g 8 0 0), (5, fv (if spBad s then none else rd s.lo)), (6, fv (if spBad s then none else rd s.hi)), (7, .bool (spOk s)), (8, fv (rd r))] _ (upd (upd bl g (some ⟨8, [s.c]⟩)) g2 (some ⟨3, [r.c]⟩)) 4 (.bool (inSp s r)) (upd (upd bl g (some ⟨8, [s.c]⟩)) g2 (some ⟨3, [r.c]⟩)) ⟨rfl, by simp, sub_eq (by simp [SP.c, RT.c])⟩ rfl ?_ ?_
  · cases hk : spOk s
    · simp [hk, inSp_no hk]
    obtain ⟨hb, a, b, ea, eb⟩ := spOk_some hk
    have fa := okQ_rd s.lo a ea
    have fb := okQ_rd s.hi b eb
    rcases ev : rd r with _ | v
    · simp [inSp_none ev, fv]
    have fvv := okQ_rd r v ev
    have hv : inSp s r = ((s.nl || decide (cmpR a v ≤ 0)) && (s.nh || decide (cmpR v b ≤ 0))) := by
      unfold inSp; rw [ea, eb, ev]; simp [hk]
    rw [hv, hb, ea, eb]
    have c1 := Cmp_ro a v (few_mono fa (by decide)) (few_mono fvv (by decide))
    have c2 := Cmp_ro v b (few_mono fvv (by decide)) (few_mono fb (by decide))
    cases hnl : s.nl <;> cases hnh : s.nh
    · simp [SP.c, fv, hnl, hnh, h2g, Ne.symm h2g]
      refine callP_ro c1 ?_
      simp [SP.c, fv, hnl, hnh, h2g, Ne.symm h2g]
      refine ⟨fun h => ?_, fun h => ?_⟩
      · refine callP_ro c2 ?_
        simp [SP.c, fv, hnl, hnh, h, h2g, Ne.symm h2g]
      · intro hh; omega
    · simp [SP.c, fv, hnl, hnh, h2g, Ne.symm h2g]
      refine callP_ro c1 ?_
      simp [SP.c, fv, hnl, hnh, h2g, Ne.symm h2g]
    · simp [SP.c, fv, hnl, hnh, h2g, Ne.symm h2g]
      refine callP_ro c2 ?_
      simp [SP.c, fv, hnl, hnh, h2g, Ne.symm h2g]
    · simp [SP.c, fv, hnl, hnh, h2g, Ne.symm h2g]
  simp
  exact retRO [.bool (inSp s r)] 0 (by simp) (by simp [frz]) (by simp [hg, hb2])
theorem spec_InSpan_ro (s : SP) (r : RT) (hs : s.le 1048576) (hr : r.le 1048576) : RO Try.prog 28 [.agg s.c, .agg r.c] (.bool (inSp s r)) := by
  have hr0 := spec_RatOk_ro r (by have := hr.1; omega) (by have := hr.2; omega)
  refine ro_of2 Try.func28 rfl rfl (by rw [Try.ntmps28]; simp) fun bl => ?_
  rw [Try.ntmps28, Try.results28]
  refine AW_run ?_
  simp [SP.c, RT.c]
  intro g hg0 hg g2 hg2 h2g hb2
  try simp [h2g, Ne.symm h2g]
  refine AW_way [(2, .loc g 8 0 0), (3, .loc g2 3 0 0)] _ (upd (upd bl g (some ⟨8, [s.c]⟩)) g2 (some ⟨3, [r.c]⟩)) 4 (.bool (inSp s r)) (upd (upd bl g (some ⟨8, [s.c]⟩)) g2 (some ⟨3, [r.c]⟩)) ⟨rfl, by simp, sub_eq (by simp [SP.c, RT.c])⟩ rfl ?_ ?_
  · simp [SP.c, RT.c, h2g, Ne.symm h2g]
    refine callP_ro (spec_SpanOk_ro s hs) ?_
    cases hk : spOk s
    · simp [inSp_no hk]
    obtain ⟨hb, a, b, ea, eb⟩ := spOk_some hk
    simp [SP.c, RT.c, h2g, Ne.symm h2g]
    refine callP_ro hr0 ?_
    by_cases hro : r.ok
    · obtain ⟨v, ev⟩ : ∃ q, rd r = some q := ⟨_, by unfold rd; rw [if_pos hro]⟩
      have hv : inSp s r = ((s.nl || decide (cmpR a v ≤ 0)) && (s.nh || decide (cmpR v b ≤ 0))) := by
        unfold inSp; rw [ea, eb, ev]; simp [hk]
      obtain ⟨ha, fa⟩ := rd_some ea
      obtain ⟨hb2', fb⟩ := rd_some eb
      obtain ⟨hv2, fvv⟩ := rd_some ev
      have c1 := l04Cmp_ro v a fvv fa
      have c2 := l04Cmp_ro v b fvv fb
      rw [← ha, ← hv2] at c1
      rw [← hb2', ← hv2] at c2
      rw [hv]
      simp only [RT.c] at c1 c2
      cases hnl : s.nl <;> cases hnh : s.nh
      · simp [SP.c, RT.c, hro, hnl, hnh, h2g, Ne.symm h2g]
        refine callP_ro c1 ?_
        simp [SP.c, RT.c, hnl, hnh, h2g, Ne.symm h2g, cmpR_swap]
        refine ⟨fun h => ?_, fun h => ?_⟩
        · refine callP_ro c2 ?_
          simp [h, cmpR_swap]
        · intro hh; omega
      · simp [SP.c, RT.c, hro, hnl, hnh, h2g, Ne.symm h2g]
        refine callP_ro c1 ?_
        simp [SP.c, RT.c, hnl, hnh, h2g, Ne.symm h2g, cmpR_swap]
      · simp [SP.c, RT.c, hro, hnl, hnh, h2g, Ne.symm h2g]
        refine callP_ro c2 ?_
        simp [SP.c, RT.c, hnl, hnh, h2g, Ne.symm h2g]
      · simp [SP.c, RT.c, hro, hnl, hnh, h2g, Ne.symm h2g]
    · have ev : rd r = none := by unfold rd; rw [if_neg hro]
      simp [hro, inSp_none ev]
  simp
  exact retRO [.bool (inSp s r)] 0 (by simp) (by simp [frz]) (by simp [hg, hb2])

theorem law_InSpan_ro (s : SP) (r : RT) (hs : s.le 17592186043904) (hr : r.le 17592186043904) : RO Try.prog 6 [.agg s.c, .agg r.c] (.bool true) := by
  refine ro_of2 Try.func6 rfl rfl (by rw [Try.ntmps6]; simp) fun bl => ?_
  rw [Try.ntmps6, Try.results6]
  refine AW_run ?_
  simp [SP.c, RT.c]
  intro g hg0 hg g1 hg1 h1g hb1
  try simp [h1g, Ne.symm h1g]
  refine callP_ro (szSpan_ro s _ (by omega) (SP.le_mono hs (by omega))) ?_
  try simp [h1g, Ne.symm h1g]
  refine ⟨fun h => ?_, fun h => ?_⟩
  · exact retRO [.bool true] 0 (by simp) rfl (by simp [hg, hb1])
  have hk := szSp_n (s := s) (left := 1048576) (by omega) (by omega)
  have hle := szSp_le (s := s) (left := 1048576) (by omega)
  refine callP_ro (szRat_ro r _ hle (RT.le_mono hr (by omega))) ?_
  try simp [h1g, Ne.symm h1g]
  refine ⟨fun h2 => ?_, fun h2 => ?_⟩
  · exact retRO [.bool true] 0 (by simp) rfl (by simp [hg, hb1])
  have hkr := szR_n (r := r) hle (by omega)
  have tS := toSpan_ro s hk
  have tR := toRat_ro r hkr
  refine AW_quiet mixedO (by kernel_rfl) ?_
  try simp [h1g, Ne.symm h1g]
  refine hcQ_ro tS ?_
  try simp [h1g, Ne.symm h1g]
  refine hcQ_ro tR ?_
  simp
  refine hcQ_ro (spec_InSpan_ro s r hk hkr) ?_
  try simp [h1g, Ne.symm h1g]
  refine callP_ro tS ?_
  simp [SP.c, h1g, Ne.symm h1g]
  intro g2 hg2 h2g h21 hb2
  try simp [h1g, Ne.symm h1g, h2g, Ne.symm h2g, h21, Ne.symm h21]
  refine callP_ro tR ?_
  simp [RT.c, h1g, Ne.symm h1g, h2g, Ne.symm h2g, h21, Ne.symm h21]
  intro g3 hg3 h3g h31 h32 hb3
  try simp [h1g, Ne.symm h1g, h2g, Ne.symm h2g, h21, Ne.symm h21, h3g, Ne.symm h3g, h31, Ne.symm h31, h32, Ne.symm h32]
  refine callP_ro (impl_InSpan_ro s r hk hkr) ?_
  simp
  refine AW_quiet mixedO (by kernel_rfl) ?_
  try simp [h1g, Ne.symm h1g, h2g, Ne.symm h2g, h21, Ne.symm h21, h3g, Ne.symm h3g, h31, Ne.symm h31, h32, Ne.symm h32]
  refine hcQ_ro tS ?_
  simp
  refine hcQ_ro (eqSpan_ro s (SP.le_mono hs (by omega))) ?_
  simp
  refine AW_quiet mixedO (by kernel_rfl) ?_
  try simp [h1g, Ne.symm h1g, h2g, Ne.symm h2g, h21, Ne.symm h21, h3g, Ne.symm h3g, h31, Ne.symm h31, h32, Ne.symm h32]
  refine hcQ_ro tR ?_
  simp
  refine hcQ_ro (eqRat_ro r (RT.le_mono hr (by omega))) ?_
  simp
  exact retRO [.bool true] 0 (by simp) rfl (by simp [hg, hb1, hb2, hb3])

end Go.Proofs.Ythhjmaianlmfpaa.Vm

namespace Go.Proofs.Ythhjmaianlmfpaa.lawInSpan
open Go Go.RowKit Go.ChangeShapes Go.WideShapes Vm
theorem body (xs : List V) (h : ArgsOk Try.prog Try.f6.params.toList xs) : RO Try.prog 6 xs (.bool true) := by
  rw [Try.params6] at h
  obtain ⟨c0, ys, rfl, h0, h⟩ := args_cons h
  obtain ⟨c1, ys, rfl, h1, h⟩ := args_cons h
  obtain rfl := args_nil h
  obtain ⟨s, rfl, hs⟩ := sp_of_co h0
  obtain ⟨r, rfl, hr⟩ := rat_of_co h1
  rw [toV_struct Try.underlying46, toV_struct Try.underlying44]
  exact law_InSpan_ro s r hs hr
set_option maxRecDepth 100000 in
theorem lifted (os : Os) (started : os.Started) (H : Type) (enc : TypeId × Value → H) :
    ReturnsInHanded {} Try.checked os 6 .any (Rows.fnExactInSpanSpec.pre6 enc Try.prog Try.f6 Rows.fnExactInSpanRow.domain false) (Rows.fnExactInSpanSpec.post enc Try.prog Try.f6 false true false false) := by
  refine returnsInHanded_of_change_sized (C := Try.checked) own started (by kernel_rfl) Try.func6
    (ChangeSpec.witness6 (enc := enc) (C := Try.checked) false ⟨#[], #[.agg #[.bool false, .slice none 0 0, .slice none 0 0, .bool false, .slice none 0 0, .slice none 0 0, .bool false, .bool false], .agg #[.bool false, .slice none 0 0, .slice none 0 0]], []⟩ 8 (by kernel_rfl) (by kernel_rfl) (by kernel_rfl) (by kernel_rfl)) ?_
  intro W base args ds gs before hval hW hcnd hsz _
  refine law_calls (tb := 4) rfl rfl Try.underlying4 laidOut (by kernel_rfl) (fun ds hds => ?_) body W base args ds gs before hval hW hsz
  rw [Try.params6] at hds
  first
    | (match ds, hds with | [a], _ => rfl)
    | (match ds, hds with | [a, b], _ => rfl)
    | (match ds, hds with | [a, b, c], _ => rfl)
    | (match ds, hds with | [a, b, c, d], _ => rfl)
    | (match ds, hds with | [a, b, c, d, e], _ => rfl)
    | (match ds, hds with | [a, b, c, d, e, f], _ => rfl)
theorem over : Rows.fnExactInSpanRow.holds Try.pinned (OpenSpec.ofChange Rows.fnExactInSpanSpec) :=
  OpenClaim.holds_of_wide 6 Try.f6 rfl rfl rfl rfl rfl rfl rfl ⟨rfl, rfl, rfl, rfl, rfl⟩ rfl rfl rfl rfl rfl (by kernel_rfl) Try.func6 (facts (by kernel_rfl))
    (of_decide_eq_true (by kernel_rfl)) (by unfold Func.isWrapper; first | (rw [if_pos (by decide +kernel)]; kernel_rfl) | (rw [if_neg (by decide +kernel)]; exact ⟨rfl, rfl⟩))
    (fun os started H enc _ => lifted os started H enc)
theorem proved : Rows.FnExactInSpanSaid := over
#print axioms proved
end Go.Proofs.Ythhjmaianlmfpaa.lawInSpan
