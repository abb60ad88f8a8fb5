/- Sums, differences and products of fractions in the reference. -/


import Derived.Test.YthhjmaianlmfpaaQCFnExactEquilibriumMatrix6

namespace Go.Proofs.Ythhjmaianlmfpaa.Vm
open Go Go.Proofs
set_option linter.unusedSimpArgs false
set_option linter.unusedVariables false

theorem l03Add_ro (x y : Int) (hx : (lim x.natAbs).length ≤ 59) (hy : (lim y.natAbs).length ≤ 59) : RO Try.prog 179 [.agg (biC x), .agg (biC y)] (.agg (biC (x + y))) := by
  have hb := len_add hx hy
  refine ro_of2 Try.func179 rfl rfl (by rw [Try.ntmps179]; simp) fun bl => ?_
  rw [Try.ntmps179, Try.results179]
  refine AW_runA ?_
  rw [biC_def x, biC_def y]
  simp
  intro g hg0 hg g2 hg2 h2g hb2 g3 hg3 h32 h3g hb3
  refine AW_run ?_
  simp [h2g, Ne.symm h2g, h32, Ne.symm h32, h3g, Ne.symm h3g]
  refine ⟨fun hs => ?_, fun hs => ?_⟩
  · refine AW_mixedB mixedO (upd (upd bl g (some ⟨2, [[.bool (decide (x < 0)), .sl (iv (lim x.natAbs))]]⟩)) g2 (some ⟨2, [[.bool (decide (y < 0)), .sl (iv (lim y.natAbs))]]⟩)) (by simp [h32, h3g, hb3]) [0, 1, 2, 3, 4, 5, 6, 7] 1 (by kernel_rfl) ?_
    simp [h2g, Ne.symm h2g, h32, Ne.symm h32, h3g, Ne.symm h3g]
    refine hcQ_ro (l02Add_ro _ _ (by omega) (by omega)) ?_
    simp [h2g, Ne.symm h2g, h32, Ne.symm h32, h3g, Ne.symm h3g]
    refine hcQ_ro (l03Make_ro _ _ (by omega)) ?_
    simp [h2g, Ne.symm h2g, h32, Ne.symm h32, h3g, Ne.symm h3g]
    refine DAny_one (i := 8) (by kernel_rfl) rfl rfl ?_
    simp [h2g, Ne.symm h2g, h32, Ne.symm h32, h3g, Ne.symm h3g]
    refine ⟨by simp [h32, h3g, hb3], DAny_done (by kernel_rfl) ?_⟩
    rw [sg_add_same hs]
    simp [h2g, Ne.symm h2g, h32, Ne.symm h32, h3g, Ne.symm h3g]
    exact retRO [.agg (biC (x + y))] 1 (by simp [biC, h2g, Ne.symm h2g, h32, Ne.symm h32, h3g, Ne.symm h3g]) retAgg (by simp [hg, hb2, hb3])

  refine callP_ro (l02Cmp_ro _ _ (by omega) (by omega)) ?_
  simp [h2g, Ne.symm h2g, h32, Ne.symm h32, h3g, Ne.symm h3g, cmpN_ge]
  refine ⟨fun hle => ?_, fun hle => ?_⟩
  · refine AW_mixedB mixedO (upd (upd bl g (some ⟨2, [[.bool (decide (x < 0)), .sl (iv (lim x.natAbs))]]⟩)) g2 (some ⟨2, [[.bool (decide (y < 0)), .sl (iv (lim y.natAbs))]]⟩)) (by simp [h32, h3g, hb3]) [0, 1, 2, 3, 4, 5, 6, 7] 1 (by kernel_rfl) ?_
    simp [h2g, Ne.symm h2g, h32, Ne.symm h32, h3g, Ne.symm h3g]
    refine hcQ_ro (l02Sub_ro _ _ hle (by omega)) ?_
    simp [h2g, Ne.symm h2g, h32, Ne.symm h32, h3g, Ne.symm h3g]
    refine hcQ_ro (l03Make_ro _ _ (len_mono (Nat.sub_le _ _) (by omega))) ?_
    simp [h2g, Ne.symm h2g, h32, Ne.symm h32, h3g, Ne.symm h3g]
    refine DAny_one (i := 8) (by kernel_rfl) rfl rfl ?_
    simp [h2g, Ne.symm h2g, h32, Ne.symm h32, h3g, Ne.symm h3g]
    refine ⟨by simp [h32, h3g, hb3], DAny_done (by kernel_rfl) ?_⟩
    rw [sg_add_left hs hle]
    simp [h2g, Ne.symm h2g, h32, Ne.symm h32, h3g, Ne.symm h3g]
    exact retRO [.agg (biC (x + y))] 1 (by simp [biC, h2g, Ne.symm h2g, h32, Ne.symm h32, h3g, Ne.symm h3g]) retAgg (by simp [hg, hb2, hb3])

  · refine AW_mixedB mixedO (upd (upd bl g (some ⟨2, [[.bool (decide (x < 0)), .sl (iv (lim x.natAbs))]]⟩)) g2 (some ⟨2, [[.bool (decide (y < 0)), .sl (iv (lim y.natAbs))]]⟩)) (by simp [h32, h3g, hb3]) [0, 1, 2, 3, 4, 5, 6, 7] 1 (by kernel_rfl) ?_
    simp [h2g, Ne.symm h2g, h32, Ne.symm h32, h3g, Ne.symm h3g]
    refine hcQ_ro (l02Sub_ro _ _ (by omega) (by omega)) ?_
    simp [h2g, Ne.symm h2g, h32, Ne.symm h32, h3g, Ne.symm h3g]
    refine hcQ_ro (l03Make_ro _ _ (len_mono (Nat.sub_le _ _) (by omega))) ?_
    simp [h2g, Ne.symm h2g, h32, Ne.symm h32, h3g, Ne.symm h3g]
    refine DAny_one (i := 8) (by kernel_rfl) rfl rfl ?_
    simp [h2g, Ne.symm h2g, h32, Ne.symm h32, h3g, Ne.symm h3g]
    refine ⟨by simp [h32, h3g, hb3], DAny_done (by kernel_rfl) ?_⟩
    rw [sg_add_left (x := y) (y := x) (fun hh => hs ⟨hh.2, hh.1⟩) (by omega), Int.add_comm y x]
    simp [h2g, Ne.symm h2g, h32, Ne.symm h32, h3g, Ne.symm h3g]
    exact retRO [.agg (biC (x + y))] 1 (by simp [biC, h2g, Ne.symm h2g, h32, Ne.symm h32, h3g, Ne.symm h3g]) retAgg (by simp [hg, hb2, hb3])

/-- What the reference makes of a sign, a numerator and a denominator. -/
def lowQ (neg : Bool) (a b : Nat) : Option Rat := if b = 0 then none else fit (mkRat (sg neg a) b)
theorem lowQ_ok (neg : Bool) (a b : Nat) : okQ (lowQ neg a b) := by
  unfold lowQ; split
  · intro q h; cases h
  · exact okQ_fit _
theorem frz_rat {bl bl0 : Int → Option Blk} {g : Int} {ns ms : List Int} {b : Bool} (h0 : 0 ≤ g ∨ ns = []) (hg : bl0 g = none) (hb : bl g = some ⟨1, iv ns⟩) : frz (dropB bl bl0) 2 (.agg [.bool b, .sl (iv ms), .lsl g 1 0 ns.length]) = some (.agg [.bool b, .sl (iv ms), .sl (iv ns)]) := by
  have h1 := frz_any h0 hg hb
  have h2 : frz (dropB bl bl0) 1 (.bool b) = some (.bool b) := by simp [frz]
  have h3 : frz (dropB bl bl0) 1 (.sl (iv ms)) = some (.sl (iv ms)) := by simp [frz]
  rw [frz_agg]
  simp only [List.mapM_cons, List.mapM_nil, h1, h2, h3]
  rfl
theorem rq_low (neg : Bool) (a b : Nat) (hb : b ≠ 0) : (rq (mkRat (sg neg a) b)).c = biC (sg neg (a / Nat.gcd a b)) ++ [.sl (iv (lim (b / Nat.gcd a b)))] := by
  have hg : 0 < Nat.gcd a b := Nat.gcd_pos_of_pos_right _ (by omega)
  rw [rq_mk _ hb, RT.c, sg_abs, biC_def, sg_abs]
  simp only [List.cons_append, List.nil_append]
  rw [sg_neg, sg_neg]
  have : (0 < a / Nat.gcd a b) ↔ 0 < a := by
    constructor
    · intro h; rcases Nat.eq_zero_or_pos a with h0 | h0
      · rw [h0] at h; simp at h
      · exact h0
    · intro h; exact Nat.div_pos (Nat.gcd_le_left _ h) hg
  rw [decide_eq_decide.2 this]
theorem l04Low_ro (neg : Bool) (a b : Nat) (ha : (lim a).length ≤ 60) (hb : (lim b).length ≤ 60) : RO Try.prog 180 [.bool neg, .sl (iv (lim a)), .sl (iv (lim b))] (.agg (ro (lowQ neg a b)).c) := by
  have hall : ∀ m, ((iv (lim m)).all fun c => c.length == 1 && c.all V.one) = true := fun m => by simp [iv]
  refine ro_of2 Try.func180 rfl rfl (by rw [Try.ntmps180]; simp) fun bl => ?_
  rw [Try.ntmps180, Try.results180]
  refine AW_runA ?_
  simp
  intro g hg0 hg
  refine AW_runA ?_
  simp
  refine callP_ro (l02Trim_ro (lim a) (lim_dig a) (by omega)) ?_
  rw [val_lim]
  simp
  refine AW_runA ?_
  simp
  refine callP_ro (l02Trim_ro (lim b) (lim_dig b) (by omega)) ?_
  rw [val_lim]
  simp
  refine AW_runA ?_
  simp
  refine ⟨fun h => ?_, fun h => ?_⟩
  · have hb0 : b = 0 := by simpa [lim_nil] using h
    exact retRO [.agg [.bool false, .nils, .nils]] 1 (by simp) (by simp [frz, lowQ, hb0, ro, rz, RT.c, V.cl, iv]) (by simp [hg])
  have hb0 : b ≠ 0 := fun e => h (by rw [e, lim_zero])
  have hg1 := Nat.gcd_pos_of_pos_right a (show 0 < b by omega)
  refine AW_mid (fun _ : Unit => [(0, .bool neg), (6, .loc g 3 0 0), (7, .sl (iv (lim (a / Nat.gcd a b)))), (8, .sl (iv (lim (b / Nat.gcd a b))))]) (fun _ => upd bl g (some ⟨3, [[.bool false, .nils, .nils]]⟩)) (fun _ => True) 55 ?_ ?_
  · refine AW_run ?_
    simp
    refine callP_ro (l04One_ro _) ?_
    simp
    refine ⟨fun h1 => ?_, fun h1 => ?_⟩
    · refine callP_ro (l02Gcd_ro _ _ (by omega) (by omega)) ?_
      simp
      refine callP_ro (l04One_ro _) ?_
      simp
      refine ⟨fun h2 => ?_, fun h2 => ?_⟩
      · have hgl := gcd_len ha hb
        refine callP_ro (l02Div_ro a (Nat.gcd a b) hg1 (by omega) (by omega)) ?_
        simp
        refine callP_ro (l02Div_ro b (Nat.gcd a b) hg1 (by omega) (by omega)) ?_
        simp [midQ_normal]
        exact ⟨rfl, by simp, Sub.refl _⟩
      · simp [midQ_normal]
        exact ⟨rfl, by simp [h2], Sub.refl _⟩
    · have h2 : Nat.gcd a b = 1 := by rw [h1]; exact Nat.gcd_one_right a
      simp [midQ_normal]
      exact ⟨rfl, by simp [h2], Sub.refl _⟩
  intro _ _
  have e2 := rq_low neg a b hb0
  have hx : (lim (a / Nat.gcd a b)).length ≤ 60 := len_mono (Nat.div_le_self _ _) ha
  have hy : (lim (b / Nat.gcd a b)).length ≤ 60 := len_mono (Nat.div_le_self _ _) hb
  have hr : ro (lowQ neg a b) = if (lim (a / Nat.gcd a b)).length ≤ 24 ∧ (lim (b / Nat.gcd a b)).length ≤ 24 then rq (mkRat (sg neg a) b) else rz := by
    have e3 := rq_mk (sg neg a) hb0
    have e4 : fits (mkRat (sg neg a) b) ↔ (lim (a / Nat.gcd a b)).length ≤ 24 ∧ (lim (b / Nat.gcd a b)).length ≤ 24 := by
      have e5 := congrArg RT.m e3
      have e6 := congrArg RT.d e3
      simp only [rq, sg_abs] at e5 e6
      unfold fits
      rw [e5, e6]
    unfold lowQ fit
    rw [if_neg hb0]
    by_cases hf : fits (mkRat (sg neg a) b)
    · rw [if_pos hf, if_pos (e4.1 hf)]; rfl
    · rw [if_neg hf, if_neg (fun h => hf (e4.2 h))]; rfl
  obtain ⟨x, ex⟩ : ∃ x, a / Nat.gcd a b = x := ⟨_, rfl⟩
  obtain ⟨y, ey⟩ : ∃ y, b / Nat.gcd a b = y := ⟨_, rfl⟩
  rw [ex, ey] at hr e2
  rw [ex] at hx
  rw [ey] at hy
  rw [ex, ey, hr]
  refine AW_run ?_
  simp
  refine AW_way [(0, .bool neg), (6, .loc g 3 0 0), (7, .sl (iv (lim x))), (8, .sl (iv (lim y)))] _ _ 46 (.bool (!decide ((lim x).length ≤ 24 ∧ (lim y).length ≤ 24))) (upd bl g (some ⟨3, [[.bool false, .nils, .nils]]⟩)) ⟨rfl, by simp, Sub.refl _⟩ rfl ?_ ?_
  · simp
    refine ⟨fun h => ?_, fun h => ?_⟩
    · omega
    · rw [Bool.eq_iff_iff]
      simp
      omega
  by_cases hc : (lim x).length ≤ 24 ∧ (lim y).length ≤ 24
  · simp only [hc, and_self, decide_true, Bool.not_true, if_true]
    simp
    refine callP_ro (l03Make_ro neg x (by omega)) ?_
    simp
    intro g1 hg1 h1g hb1
    simp [h1g, Ne.symm h1g, appV, elsV, Int.not_lt.2 hg1, hall]
    refine ⟨by omega, fun g2 hg2 hb2 => ?_⟩
    have h2g : g2 ≠ g := by grind
    have hb2' : bl g2 = none := by grind
    have hnn : 0 ≤ g2 ∨ lim y = [] := hg2.imp id (fun h => by simpa [iv] using h)
    simp [h1g, Ne.symm h1g, h2g, Ne.symm h2g, biC_def, sg_abs]
    refine retRO [.agg [.bool (decide (sg neg x < 0)), .sl (iv (lim x)), .lsl g2 1 0 (lim y).length]] 2 (by simp [h1g, Ne.symm h1g, h2g, Ne.symm h2g]) ?_ (by simp [hg, hb1, hb2', h1g, h2g])
    rw [e2, biC_def, sg_abs]
    exact frz_rat hnn hb2' (by simp [h2g])
  · simp only [hc, decide_false, Bool.not_false, if_false]
    simp
    exact retRO [.agg [.bool false, .nils, .nils]] 1 (by simp) (by simp [frz, rz, RT.c, V.cl, iv]) (by simp [hg])

/-! ### Numerators and denominators of what may be none -/
def nm (x : Option Rat) : Int := match x with | some q => q.num | none => 0
def dn (x : Option Rat) : Nat := match x with | some q => q.den | none => 0
theorem ro_c (x : Option Rat) : (ro x).c = [.bool (decide (nm x < 0)), .sl (iv (lim (nm x).natAbs)), .sl (iv (lim (dn x)))] := by
  cases x
  · show rz.c = _
    rw [show nm none = 0 from rfl, show dn none = 0 from rfl, Int.natAbs_zero, lim_zero]; rfl
  · rfl
theorem okQ_len {x : Option Rat} (h : okQ x) : (lim (nm x).natAbs).length ≤ 24 ∧ (lim (dn x)).length ≤ 24 := by
  cases x with
  | none => rw [show nm none = 0 from rfl, show dn none = 0 from rfl, Int.natAbs_zero, lim_zero]; simp
  | some q => exact h q rfl
theorem okQ_neg {x : Option Rat} (h : okQ x) : okQ (x.map (- ·)) := by
  intro q hq
  cases x with
  | none => cases hq
  | some a =>
    cases hq
    have := h a rfl
    unfold fits at this ⊢
    rw [show (-a).num = -a.num from rfl, show (-a).den = a.den from rfl, Int.natAbs_neg]; exact this
theorem nm_neg (x : Option Rat) : nm (x.map (- ·)) = - nm x := by cases x with | none => rfl | some q => rfl
theorem dn_neg (x : Option Rat) : dn (x.map (- ·)) = dn x := by cases x with | none => rfl | some q => rfl

theorem l04Neg_ro (x : Option Rat) (hx : okQ x) : RO Try.prog 128 [.agg (ro x).c] (.agg (ro (x.map (- ·))).c) := by
  obtain ⟨hm, hd⟩ := okQ_len hx
  have hall : ∀ m, ((iv (lim m)).all fun c => c.length == 1 && c.all V.one) = true := fun m => by simp [iv]
  refine ro_of2 Try.func128 rfl rfl (by rw [Try.ntmps128]; simp) fun bl => ?_
  rw [Try.ntmps128, Try.results128]
  refine AW_runA ?_
  rw [ro_c x]
  simp
  intro g hg0 hg g2 hg2 h2g hb2
  refine AW_run ?_
  simp
  refine AW_mixedB mixedO (upd bl g (some ⟨3, [[.bool (decide (nm x < 0)), .sl (iv (lim (nm x).natAbs)), .sl (iv (lim (dn x)))]]⟩)) (by simp [h2g, hb2]) [0, 1, 2, 3, 4, 5, 6, 7, 9, 10] 4 (by kernel_rfl) ?_
  simp [h2g, Ne.symm h2g]
  refine hcQ_ro (l03Make_ro _ _ (by omega)) ?_
  rw [sg_opp]
  simp [h2g, Ne.symm h2g]
  refine DAny_one (i := 8) (by kernel_rfl) rfl rfl ?_
  simp [h2g, Ne.symm h2g]
  intro g3 hg3 h32 h3g hb3
  refine ⟨by simp [h2g, Ne.symm h2g, hb2, h3g, h32, hb3], DAny_one (i := 11) (by kernel_rfl) rfl rfl ?_⟩
  simp [h2g, Ne.symm h2g, h3g, Ne.symm h3g, h32, Ne.symm h32, appV, elsV, Int.not_lt.2 hg3, hall]
  refine ⟨by omega, fun g4 hg4 hb4 => ?_⟩
  have h4g : g4 ≠ g := by grind
  have h42 : g4 ≠ g2 := by grind
  have hb4' : bl g4 = none := by grind
  have hnn : 0 ≤ g4 ∨ lim (dn x) = [] := hg4.imp id (fun h => by simpa [iv] using h)
  refine ⟨by simp [h2g, Ne.symm h2g, hb2, h3g, h32, hb3, h4g, h42, hb4'], DAny_one (i := 12) (by kernel_rfl) rfl rfl ?_⟩
  simp [h2g, Ne.symm h2g, h3g, Ne.symm h3g, h32, Ne.symm h32, h4g, Ne.symm h4g, h42, Ne.symm h42, biC_def]
  refine ⟨by simp [h2g, Ne.symm h2g, hb2, h3g, h32, hb3, h4g, h42, hb4'], DAny_one (i := 13) (by kernel_rfl) rfl rfl ?_⟩
  simp [h2g, Ne.symm h2g, h3g, Ne.symm h3g, h32, Ne.symm h32, h4g, Ne.symm h4g, h42, Ne.symm h42]
  refine ⟨by simp [h2g, Ne.symm h2g, hb2, h3g, h32, hb3, h4g, h42, hb4'], DAny_done (by kernel_rfl) ?_⟩
  simp
  refine retRO [.agg [.bool (decide (-nm x < 0)), .sl (iv (lim (nm x).natAbs)), .lsl g4 1 0 (lim (dn x)).length]] 2 (by simp [h2g, Ne.symm h2g, h4g, Ne.symm h4g, h42, Ne.symm h42]) ?_ (by simp [hg, hb2, hb3, hb4', h2g, h4g, h42])
  rw [ro_c, nm_neg, dn_neg, Int.natAbs_neg]
  exact frz_rat hnn hb4' (by simp [h4g, h42])

theorem l04Mul_ro (x y : Option Rat) (hx : okQ x) (hy : okQ y) : RO Try.prog 146 [.agg (ro x).c, .agg (ro y).c] (.agg (ro (op2 (· * ·) x y)).c) := by
  obtain ⟨hm, hd⟩ := okQ_len hx
  obtain ⟨hm2, hd2⟩ := okQ_len hy
  have n1 := len_mul hm hm2
  have n2 := len_mul hd hd2
  have e : lowQ (decide (nm x < 0) != decide (nm y < 0)) ((nm x).natAbs * (nm y).natAbs) (dn x * dn y) = op2 (· * ·) x y := by
    unfold lowQ op2
    rw [sg_mul]
    cases x with
    | none => simp [dn]
    | some a =>
      cases y with
      | none => simp [dn]
      | some b =>
        rw [if_neg (show ¬ dn (some a) * dn (some b) = 0 from Nat.mul_ne_zero a.den_nz b.den_nz)]
        simp only [nm, dn]
        rw [← Rat.mul_def']
  refine ro_of2 Try.func146 rfl rfl (by rw [Try.ntmps146]; simp) fun bl => ?_
  rw [Try.ntmps146, Try.results146]
  refine AW_runA ?_
  rw [ro_c x, ro_c y]
  simp
  intro g hg0 hg g2 hg2 h2g hb2 g3 hg3 h32 h3g hb3
  refine AW_run ?_
  simp
  refine AW_mixedB mixedO (upd (upd bl g (some ⟨3, [[.bool (decide (nm x < 0)), .sl (iv (lim (nm x).natAbs)), .sl (iv (lim (dn x)))]]⟩)) g2 (some ⟨3, [[.bool (decide (nm y < 0)), .sl (iv (lim (nm y).natAbs)), .sl (iv (lim (dn y)))]]⟩)) (by simp [h32, h3g, hb3]) [0, 1, 2, 3, 4, 5, 6, 7, 8, 9, 10, 11, 12, 13, 14, 15, 16, 17, 18, 19] 1 (by kernel_rfl) ?_
  simp [h2g, Ne.symm h2g, h32, Ne.symm h32, h3g, Ne.symm h3g]
  refine hcQ_ro (l02Mul_ro _ _ (by omega) (by omega)) ?_
  simp [h2g, Ne.symm h2g, h32, Ne.symm h32, h3g, Ne.symm h3g]
  refine hcQ_ro (l02Mul_ro _ _ (by omega) (by omega)) ?_
  simp [h2g, Ne.symm h2g, h32, Ne.symm h32, h3g, Ne.symm h3g]
  refine hcQ_ro (l04Low_ro _ _ _ (by omega) (by omega)) ?_
  rw [e]
  simp [h2g, Ne.symm h2g, h32, Ne.symm h32, h3g, Ne.symm h3g]
  refine DAny_one (i := 20) (by kernel_rfl) rfl rfl ?_
  rw [ro_c (op2 _ x y)]
  simp [h2g, Ne.symm h2g, h32, Ne.symm h32, h3g, Ne.symm h3g]
  refine ⟨by simp [h32, h3g, hb3], DAny_done (by kernel_rfl) ?_⟩
  simp [h2g, Ne.symm h2g, h32, Ne.symm h32, h3g, Ne.symm h3g]
  exact retRO [.agg (ro (op2 (· * ·) x y)).c] 1 (by rw [ro_c (op2 _ x y)]; simp [h2g, Ne.symm h2g, h32, Ne.symm h32, h3g, Ne.symm h3g]) (by rw [ro_c (op2 _ x y)]; simp [frz, V.cl]) (by simp [hg, hb2, hb3])

theorem l04Add_ro (x y : Option Rat) (hx : okQ x) (hy : okQ y) : RO Try.prog 127 [.agg (ro x).c, .agg (ro y).c] (.agg (ro (op2 (· + ·) x y)).c) := by
  obtain ⟨hm, hd⟩ := okQ_len hx
  obtain ⟨hm2, hd2⟩ := okQ_len hy
  have n1 := len_mul hm hd2
  have n2 := len_mul hm2 hd
  have n3 := len_mul hd hd2
  have e0 : ∀ (a : Int) (b : Nat), sg (decide (a < 0)) (a.natAbs * b) = a * b := fun a b => by
    have := sg_mul a b
    have h0 : decide (((b : Nat) : Int) < 0) = false := decide_eq_false (by omega)
    rw [h0, Bool.bne_false, Int.natAbs_natCast] at this
    exact this
  have e : ∀ n : Int, n = nm x * dn y + nm y * dn x → lowQ (decide (n < 0)) n.natAbs (dn x * dn y) = op2 (· + ·) x y := fun n hn => by
    unfold lowQ op2
    rw [sg_self, hn]
    cases x with
    | none => simp [dn]
    | some a =>
      cases y with
      | none => simp [dn]
      | some b =>
        rw [if_neg (show ¬ dn (some a) * dn (some b) = 0 from Nat.mul_ne_zero a.den_nz b.den_nz)]
        simp only [nm, dn]
        rw [← Rat.add_def']
  have o1 := l04One_ro (dn x)
  have o2 := l04One_ro (dn y)
  refine ro_of2 Try.func127 rfl rfl (by rw [Try.ntmps127]; simp) fun bl => ?_
  rw [Try.ntmps127, Try.results127]
  refine AW_runA ?_
  rw [ro_c x, ro_c y]
  simp
  intro g hg0 hg g2 hg2 h2g hb2 g3 hg3 h32 h3g hb3
  refine AW_run ?_
  simp
  refine AW_way [(2, .loc g 3 0 0), (3, .loc g2 3 0 0), (4, .loc g3 3 0 0)] _ _ 16 (.bool (decide (dn x = 1) && decide (dn y = 1))) (upd (upd (upd bl g (some ⟨3, [[.bool (decide (nm x < 0)), .sl (iv (lim (nm x).natAbs)), .sl (iv (lim (dn x)))]]⟩)) g2 (some ⟨3, [[.bool (decide (nm y < 0)), .sl (iv (lim (nm y).natAbs)), .sl (iv (lim (dn y)))]]⟩)) g3 (some ⟨3, [[.bool false, .nils, .nils]]⟩)) ⟨rfl, by simp, Sub.refl _⟩ rfl ?_ ?_
  · simp [h2g, Ne.symm h2g, h32, Ne.symm h32, h3g, Ne.symm h3g]
    refine callP_ro o1 ?_
    simp [h2g, Ne.symm h2g, h32, Ne.symm h32, h3g, Ne.symm h3g]
    refine ⟨fun h => ?_, fun h => ?_⟩
    · refine callP_ro o2 ?_
      simp [h]
    · simp [h]
  have w : ro (op2 (· + ·) x y) = ro (op2 (· + ·) x y) := rfl
  by_cases hone : dn x = 1 ∧ dn y = 1
  · have e1 := e (nm x + nm y) (by rw [hone.1, hone.2]; simp)
    rw [hone.1, hone.2] at e1
    have l1 : (lim (nm x + nm y).natAbs).length ≤ 25 := len_mono (Int.natAbs_add_le _ _) (len_add hm hm2)
    simp [hone.1, hone.2, h2g, Ne.symm h2g, h32, Ne.symm h32, h3g, Ne.symm h3g]
    refine callP_ro (l03Add_ro (nm x) (nm y) (by omega) (by omega)) ?_
    simp [h2g, Ne.symm h2g, h32, Ne.symm h32, h3g, Ne.symm h3g]
    intro g4 hg4
    intros
    have h4g : ¬ g4 = g := by assumption
    have h42 : ¬ g4 = g2 := by assumption
    have h43 : ¬ g4 = g3 := by assumption
    have hb4 : bl g4 = none := by assumption
    simp [h2g, Ne.symm h2g, h32, Ne.symm h32, h3g, Ne.symm h3g, h4g, Ne.symm h4g, h42, Ne.symm h42, h43, Ne.symm h43, biC_def]
    intro g5 hg5
    intros
    have h5g : ¬ g5 = g := by assumption
    have h52 : ¬ g5 = g2 := by assumption
    have h53 : ¬ g5 = g3 := by assumption
    have h54 : ¬ g5 = g4 := by assumption
    have hb5 : bl g5 = none := by assumption
    refine callP_gro 1 (upd (upd (upd (upd bl g (some ⟨3, [[.bool (decide (nm x < 0)), .sl (iv (lim (nm x).natAbs)), .sl (iv (lim 1))]]⟩)) g2 (some ⟨3, [[.bool (decide (nm y < 0)), .sl (iv (lim (nm y).natAbs)), .sl (iv (lim 1))]]⟩)) g3 (some ⟨3, [[.bool false, .nils, .nils]]⟩)) g4 (some ⟨2, [[.bool (decide (nm x + nm y < 0)), .sl (iv (lim (nm x + nm y).natAbs))]]⟩)) [.bool (decide (nm x + nm y < 0)), .sl (iv (lim (nm x + nm y).natAbs)), .sl (iv (lim 1))] (by simp [h2g, Ne.symm h2g, h32, Ne.symm h32, h3g, Ne.symm h3g, h4g, Ne.symm h4g, h42, Ne.symm h42, h43, Ne.symm h43, h5g, Ne.symm h5g, h52, Ne.symm h52, h53, Ne.symm h53, h54, Ne.symm h54, hb5]) (by simp [frz, dropB, V.cl, lim1, iv, Int.not_lt.2 hg5, h2g, Ne.symm h2g, h32, Ne.symm h32, h3g, Ne.symm h3g, h4g, Ne.symm h4g, h42, Ne.symm h42, h43, Ne.symm h43, h5g, Ne.symm h5g, h52, Ne.symm h52, h53, Ne.symm h53, h54, Ne.symm h54, hb5]) (l04Low_ro _ _ 1 (by omega) (by rw [lim1]; simp)) ?_
    rw [show lowQ (decide (nm x + nm y < 0)) (nm x + nm y).natAbs 1 = op2 (· + ·) x y from e1, ro_c (op2 _ x y)]
    simp [h2g, Ne.symm h2g, h32, Ne.symm h32, h3g, Ne.symm h3g, h4g, Ne.symm h4g, h42, Ne.symm h42, h43, Ne.symm h43, h5g, Ne.symm h5g, h52, Ne.symm h52, h53, Ne.symm h53, h54, Ne.symm h54]
    exact retRO [.agg (ro (op2 (· + ·) x y)).c] 1 (by rw [ro_c (op2 _ x y)]; simp [h2g, Ne.symm h2g, h32, Ne.symm h32, h3g, Ne.symm h3g, h4g, Ne.symm h4g, h42, Ne.symm h42, h43, Ne.symm h43, h5g, Ne.symm h5g, h52, Ne.symm h52, h53, Ne.symm h53, h54, Ne.symm h54]) (by rw [ro_c (op2 _ x y)]; simp [frz, V.cl]) (by simp [hg, hb2, hb3, hb4, hb5])
  · have hone2 : (decide (dn x = 1) && decide (dn y = 1)) = false := by
      rw [Bool.eq_false_iff]; simpa using hone
    rw [hone2]
    simp
    refine AW_mixedB mixedO (upd (upd (upd bl g (some ⟨3, [[.bool (decide (nm x < 0)), .sl (iv (lim (nm x).natAbs)), .sl (iv (lim (dn x)))]]⟩)) g2 (some ⟨3, [[.bool (decide (nm y < 0)), .sl (iv (lim (nm y).natAbs)), .sl (iv (lim (dn y)))]]⟩)) g3 (some ⟨3, [[.bool false, .nils, .nils]]⟩)) (Sub.refl _) [0, 1, 2, 3, 4, 5, 6, 7, 8, 9] 2 (by kernel_rfl) ?_
    simp [h2g, Ne.symm h2g, h32, Ne.symm h32, h3g, Ne.symm h3g]
    refine hcQ_ro (l02Mul_ro _ _ (by omega) (by omega)) ?_
    simp [h2g, Ne.symm h2g, h32, Ne.symm h32, h3g, Ne.symm h3g]
    refine hcQ_ro (l03Make_ro _ _ (by omega)) ?_
    rw [e0]
    simp [h2g, Ne.symm h2g, h32, Ne.symm h32, h3g, Ne.symm h3g]
    refine DAny_one (i := 10) (by kernel_rfl) rfl rfl ?_
    simp [h2g, Ne.symm h2g, h32, Ne.symm h32, h3g, Ne.symm h3g]
    intro g4 hg4
    intros
    have h4g : ¬ g4 = g := by assumption
    have h42 : ¬ g4 = g2 := by assumption
    have h43 : ¬ g4 = g3 := by assumption
    have hb4 : bl g4 = none := by assumption
    refine ⟨by simp [h2g, Ne.symm h2g, h32, Ne.symm h32, h3g, Ne.symm h3g, h4g, Ne.symm h4g, h42, Ne.symm h42, h43, Ne.symm h43, hb2, hb3, hb4], DAny_one (i := 11) (by kernel_rfl) rfl rfl ?_⟩
    simp [h2g, Ne.symm h2g, h32, Ne.symm h32, h3g, Ne.symm h3g, h4g, Ne.symm h4g, h42, Ne.symm h42, h43, Ne.symm h43, biC_def]
    refine ⟨by simp [h2g, Ne.symm h2g, h32, Ne.symm h32, h3g, Ne.symm h3g, h4g, Ne.symm h4g, h42, Ne.symm h42, h43, Ne.symm h43, hb2, hb3, hb4], DAny_done (by kernel_rfl) ?_⟩
    simp [h2g, Ne.symm h2g, h32, Ne.symm h32, h3g, Ne.symm h3g, h4g, Ne.symm h4g, h42, Ne.symm h42, h43, Ne.symm h43]
    refine AW_run ?_
    refine AW_mixedB mixedO (upd (upd (upd (upd bl g (some ⟨3, [[.bool (decide (nm x < 0)), .sl (iv (lim (nm x).natAbs)), .sl (iv (lim (dn x)))]]⟩)) g2 (some ⟨3, [[.bool (decide (nm y < 0)), .sl (iv (lim (nm y).natAbs)), .sl (iv (lim (dn y)))]]⟩)) g3 (some ⟨3, [[.bool false, .nils, .nils]]⟩)) g4 (some ⟨2, [[.bool (decide (nm x * dn y < 0)), .sl (iv (lim (nm x * dn y).natAbs))]]⟩)) (Sub.refl _) [0, 1, 2, 3, 4, 5, 6, 7, 8, 9] 2 (by kernel_rfl) ?_
    simp [h2g, Ne.symm h2g, h32, Ne.symm h32, h3g, Ne.symm h3g, h4g, Ne.symm h4g, h42, Ne.symm h42, h43, Ne.symm h43]
    refine hcQ_ro (l02Mul_ro _ _ (by omega) (by omega)) ?_
    simp [h2g, Ne.symm h2g, h32, Ne.symm h32, h3g, Ne.symm h3g, h4g, Ne.symm h4g, h42, Ne.symm h42, h43, Ne.symm h43]
    refine hcQ_ro (l03Make_ro _ _ (by omega)) ?_
    rw [e0]
    simp [h2g, Ne.symm h2g, h32, Ne.symm h32, h3g, Ne.symm h3g, h4g, Ne.symm h4g, h42, Ne.symm h42, h43, Ne.symm h43]
    refine DAny_one (i := 10) (by kernel_rfl) rfl rfl ?_
    simp [h2g, Ne.symm h2g, h32, Ne.symm h32, h3g, Ne.symm h3g, h4g, Ne.symm h4g, h42, Ne.symm h42, h43, Ne.symm h43]
    intro g5 hg5
    intros
    have h5g : ¬ g5 = g := by assumption
    have h52 : ¬ g5 = g2 := by assumption
    have h53 : ¬ g5 = g3 := by assumption
    have h54 : ¬ g5 = g4 := by assumption
    have hb5 : bl g5 = none := by assumption
    refine ⟨by simp [h2g, Ne.symm h2g, h32, Ne.symm h32, h3g, Ne.symm h3g, h4g, Ne.symm h4g, h42, Ne.symm h42, h43, Ne.symm h43, h5g, Ne.symm h5g, h52, Ne.symm h52, h53, Ne.symm h53, h54, Ne.symm h54, hb2, hb3, hb4, hb5], DAny_one (i := 11) (by kernel_rfl) rfl rfl ?_⟩
    simp [h2g, Ne.symm h2g, h32, Ne.symm h32, h3g, Ne.symm h3g, h4g, Ne.symm h4g, h42, Ne.symm h42, h43, Ne.symm h43, h5g, Ne.symm h5g, h52, Ne.symm h52, h53, Ne.symm h53, h54, Ne.symm h54, biC_def]
    refine ⟨by simp [h2g, Ne.symm h2g, h32, Ne.symm h32, h3g, Ne.symm h3g, h4g, Ne.symm h4g, h42, Ne.symm h42, h43, Ne.symm h43, h5g, Ne.symm h5g, h52, Ne.symm h52, h53, Ne.symm h53, h54, Ne.symm h54, hb2, hb3, hb4, hb5], DAny_done (by kernel_rfl) ?_⟩
    simp [h2g, Ne.symm h2g, h32, Ne.symm h32, h3g, Ne.symm h3g, h4g, Ne.symm h4g, h42, Ne.symm h42, h43, Ne.symm h43, h5g, Ne.symm h5g, h52, Ne.symm h52, h53, Ne.symm h53, h54, Ne.symm h54]
    refine callP_ro (l03Add_ro (nm x * dn y) (nm y * dn x) (by rw [Int.natAbs_mul, Int.natAbs_natCast]; omega) (by rw [Int.natAbs_mul, Int.natAbs_natCast]; omega)) ?_
    simp [h2g, Ne.symm h2g, h32, Ne.symm h32, h3g, Ne.symm h3g, h4g, Ne.symm h4g, h42, Ne.symm h42, h43, Ne.symm h43, h5g, Ne.symm h5g, h52, Ne.symm h52, h53, Ne.symm h53, h54, Ne.symm h54, biC_def]
    intro g6 hg6
    intros
    have h6g : ¬ g6 = g := by assumption
    have h62 : ¬ g6 = g2 := by assumption
    have h63 : ¬ g6 = g3 := by assumption
    have h64 : ¬ g6 = g4 := by assumption
    have h65 : ¬ g6 = g5 := by assumption
    have hb6 : bl g6 = none := by assumption
    try simp [h2g, Ne.symm h2g, h32, Ne.symm h32, h3g, Ne.symm h3g, h4g, Ne.symm h4g, h42, Ne.symm h42, h43, Ne.symm h43, h5g, Ne.symm h5g, h52, Ne.symm h52, h53, Ne.symm h53, h54, Ne.symm h54, h6g, Ne.symm h6g, h62, Ne.symm h62, h63, Ne.symm h63, h64, Ne.symm h64, h65, Ne.symm h65]
    refine AW_run ?_
    refine AW_mixedB mixedO (upd (upd (upd (upd (upd bl g (some ⟨3, [[.bool (decide (nm x < 0)), .sl (iv (lim (nm x).natAbs)), .sl (iv (lim (dn x)))]]⟩)) g2 (some ⟨3, [[.bool (decide (nm y < 0)), .sl (iv (lim (nm y).natAbs)), .sl (iv (lim (dn y)))]]⟩)) g4 (some ⟨2, [[.bool (decide (nm x * dn y < 0)), .sl (iv (lim (nm x * dn y).natAbs))]]⟩)) g5 (some ⟨2, [[.bool (decide (nm y * dn x < 0)), .sl (iv (lim (nm y * dn x).natAbs))]]⟩)) g6 (some ⟨2, [[.bool (decide (nm x * dn y + nm y * dn x < 0)), .sl (iv (lim (nm x * dn y + nm y * dn x).natAbs))]]⟩)) (by intro z b hz; simp only [upd_apply] at hz ⊢; grind) [0, 1, 2, 3, 4, 5, 6, 7, 8, 9] 1 (by kernel_rfl) ?_
    simp [h2g, Ne.symm h2g, h32, Ne.symm h32, h3g, Ne.symm h3g, h4g, Ne.symm h4g, h42, Ne.symm h42, h43, Ne.symm h43, h5g, Ne.symm h5g, h52, Ne.symm h52, h53, Ne.symm h53, h54, Ne.symm h54, h6g, Ne.symm h6g, h62, Ne.symm h62, h63, Ne.symm h63, h64, Ne.symm h64, h65, Ne.symm h65]
    refine hcQ_ro (l02Mul_ro _ _ (by omega) (by omega)) ?_
    simp [h2g, Ne.symm h2g, h32, Ne.symm h32, h3g, Ne.symm h3g, h4g, Ne.symm h4g, h42, Ne.symm h42, h43, Ne.symm h43, h5g, Ne.symm h5g, h52, Ne.symm h52, h53, Ne.symm h53, h54, Ne.symm h54, h6g, Ne.symm h6g, h62, Ne.symm h62, h63, Ne.symm h63, h64, Ne.symm h64, h65, Ne.symm h65]
    refine hcQ_ro (l04Low_ro _ _ _ ?_ (by omega)) ?_
    · exact len_mono (Int.natAbs_add_le _ _) (by rw [Int.natAbs_mul, Int.natAbs_mul, Int.natAbs_natCast, Int.natAbs_natCast]; have := len_add n1 n2; omega)
    rw [e _ rfl, ro_c (op2 _ x y)]
    simp [h2g, Ne.symm h2g, h32, Ne.symm h32, h3g, Ne.symm h3g, h4g, Ne.symm h4g, h42, Ne.symm h42, h43, Ne.symm h43, h5g, Ne.symm h5g, h52, Ne.symm h52, h53, Ne.symm h53, h54, Ne.symm h54, h6g, Ne.symm h6g, h62, Ne.symm h62, h63, Ne.symm h63, h64, Ne.symm h64, h65, Ne.symm h65]
    refine DAny_one (i := 10) (by kernel_rfl) rfl rfl ?_
    simp [h2g, Ne.symm h2g, h32, Ne.symm h32, h3g, Ne.symm h3g, h4g, Ne.symm h4g, h42, Ne.symm h42, h43, Ne.symm h43, h5g, Ne.symm h5g, h52, Ne.symm h52, h53, Ne.symm h53, h54, Ne.symm h54, h6g, Ne.symm h6g, h62, Ne.symm h62, h63, Ne.symm h63, h64, Ne.symm h64, h65, Ne.symm h65]
    refine ⟨by intro z b hz; simp only [upd_apply] at hz ⊢; grind, DAny_done (by kernel_rfl) ?_⟩
    simp [h2g, Ne.symm h2g, h32, Ne.symm h32, h3g, Ne.symm h3g, h4g, Ne.symm h4g, h42, Ne.symm h42, h43, Ne.symm h43, h5g, Ne.symm h5g, h52, Ne.symm h52, h53, Ne.symm h53, h54, Ne.symm h54, h6g, Ne.symm h6g, h62, Ne.symm h62, h63, Ne.symm h63, h64, Ne.symm h64, h65, Ne.symm h65]
    exact retRO [.agg (ro (op2 (· + ·) x y)).c] 1 (by rw [ro_c (op2 _ x y)]; simp [h2g, Ne.symm h2g, h32, Ne.symm h32, h3g, Ne.symm h3g, h4g, Ne.symm h4g, h42, Ne.symm h42, h43, Ne.symm h43, h5g, Ne.symm h5g, h52, Ne.symm h52, h53, Ne.symm h53, h54, Ne.symm h54, h6g, Ne.symm h6g, h62, Ne.symm h62, h63, Ne.symm h63, h64, Ne.symm h64, h65, Ne.symm h65]) (by rw [ro_c (op2 _ x y)]; simp [frz, V.cl]) (by simp [hg, hb2, hb3, hb4, hb5, hb6])

/-! ### For all forms, valid or not -/
theorem rd_ro {x : Option Rat} (h : okQ x) : rd (ro x) = x := by
  cases x with
  | none => exact rd_rz
  | some q => exact rd_rq (h q rfl)
theorem RatSub_ro (r s : RT) (hr : r.le 1048576) (hs : s.le 1048576) : RO Try.prog 79 [.agg r.c, .agg s.c] (.agg (ro (op2 (· - ·) (rd r) (rd s))).c) := by
  have k1 := spec_RatOk_ro r (by have := hr.1; omega) (by have := hr.2; omega)
  have k2 := spec_RatOk_ro s (by have := hs.1; omega) (by have := hs.2; omega)
  refine ro_of2 Try.func79 rfl rfl (by rw [Try.ntmps79]; simp) fun bl => ?_
  rw [Try.ntmps79, Try.results79]
  refine AW_runA ?_
  rw [ro_c (op2 _ _ _)]
  simp [RT.c]
  intro g hg0 hg g2 hg2 h2g hb2 g3 hg3 h32 h3g hb3
  refine AW_run ?_
  simp
  refine AW_way [(2, .loc g 3 0 0), (3, .loc g2 3 0 0), (4, .loc g3 3 0 0)] _ (upd (upd (upd bl g (some ⟨3, [r.c]⟩)) g2 (some ⟨3, [s.c]⟩)) g3 (some ⟨3, [[.bool false, .nils, .nils]]⟩)) 12 (.bool (!decide r.ok || !decide s.ok)) (upd (upd (upd bl g (some ⟨3, [r.c]⟩)) g2 (some ⟨3, [s.c]⟩)) g3 (some ⟨3, [[.bool false, .nils, .nils]]⟩)) ⟨rfl, by simp, sub_eq (by simp [RT.c])⟩ rfl ?_ ?_
  · simp [RT.c, h2g, Ne.symm h2g, h32, Ne.symm h32, h3g, Ne.symm h3g]
    refine callP_ro k1 ?_
    simp [h2g, Ne.symm h2g, h32, Ne.symm h32, h3g, Ne.symm h3g]
    refine ⟨fun h => ?_, fun h => ?_⟩
    · simp [h]
    · simp [h, h2g, Ne.symm h2g, h32, Ne.symm h32, h3g, Ne.symm h3g]
      refine callP_ro k2 ?_
      simp [h]
  by_cases h1 : r.ok
  · by_cases h2 : s.ok
    · obtain ⟨a, ea⟩ : ∃ q, rd r = some q := ⟨_, by unfold rd; rw [if_pos h1]⟩
      obtain ⟨b, eb⟩ : ∃ q, rd s = some q := ⟨_, by unfold rd; rw [if_pos h2]⟩
      obtain ⟨ra, fa⟩ := rd_some ea
      obtain ⟨sb, fb⟩ := rd_some eb
      have oa : okQ (some a) := fun q h => by cases h; exact fa
      have ob : okQ (some b) := fun q h => by cases h; exact fb
      have c1 := l04Neg_ro (some b) ob
      have c2 := l04Add_ro (some a) (some (-b)) oa (okQ_neg ob)
      have er : op2 (· + ·) (some a) (some (-b)) = op2 (· - ·) (rd r) (rd s) := by
        rw [ea, eb]; unfold op2; simp only; rw [Rat.sub_eq_add_neg]
      rw [er] at c2
      clear er
      generalize op2 (· - ·) (rd r) (rd s) = z at c2 ⊢
      rw [ro_c z] at c2
      rw [show (ro (some b)) = s from sb.symm] at c1
      rw [show (ro (some a)) = r from ra.symm] at c2
      simp [h1, h2]
      refine AW_mixedB mixedO (upd (upd bl g (some ⟨3, [r.c]⟩)) g2 (some ⟨3, [s.c]⟩)) (by simp [RT.c, h2g, Ne.symm h2g, h32, Ne.symm h32, h3g, Ne.symm h3g, hb3]) [0, 1, 2, 3] 1 (by kernel_rfl) ?_
      simp [h2g, Ne.symm h2g, h32, Ne.symm h32, h3g, Ne.symm h3g, RT.c]
      refine hcQ_ro c1 ?_
      simp [h2g, Ne.symm h2g, h32, Ne.symm h32, h3g, Ne.symm h3g]
      refine hcQ_ro c2 ?_
      simp [h2g, Ne.symm h2g, h32, Ne.symm h32, h3g, Ne.symm h3g]
      refine DAny_one (i := 4) (by kernel_rfl) rfl rfl ?_
      simp [h2g, Ne.symm h2g, h32, Ne.symm h32, h3g, Ne.symm h3g]
      refine ⟨by simp [h32, h3g, hb3], DAny_done (by kernel_rfl) ?_⟩
      simp [h2g, Ne.symm h2g, h32, Ne.symm h32, h3g, Ne.symm h3g]
      exact retRO [.agg [.bool (decide (nm z < 0)), .sl (iv (lim (nm z).natAbs)), .sl (iv (lim (dn z)))]] 1 (by simp [h2g, Ne.symm h2g, h32, Ne.symm h32, h3g, Ne.symm h3g]) (by simp [frz, V.cl]) (by simp [hg, hb2, hb3])
    · have eb : rd s = none := by unfold rd; rw [if_neg h2]
      have er : op2 (· - ·) (rd r) (rd s) = none := by rw [eb]; cases rd r <;> rfl
      rw [er]
      simp [h1, h2]
      exact retRO [.agg [.bool false, .nils, .nils]] 1 (by simp [h2g, Ne.symm h2g, h32, Ne.symm h32, h3g, Ne.symm h3g]) (by simp [frz, nm, dn, V.cl, iv, lim_zero]) (by simp [hg, hb2, hb3])
  · have eb : rd r = none := by unfold rd; rw [if_neg h1]
    have er : op2 (· - ·) (rd r) (rd s) = none := by rw [eb]; rfl
    rw [er]
    simp [h1]
    exact retRO [.agg [.bool false, .nils, .nils]] 1 (by simp [h2g, Ne.symm h2g, h32, Ne.symm h32, h3g, Ne.symm h3g]) (by simp [frz, nm, dn, V.cl, iv, lim_zero]) (by simp [hg, hb2, hb3])

end Go.Proofs.Ythhjmaianlmfpaa.Vm

namespace Go.Proofs.Ythhjmaianlmfpaa.Vm
open Go Go.Proofs
set_option linter.unusedSimpArgs false
set_option linter.unusedVariables false

theorem fewer_nw (n : Int) (hn : (lim n.natAbs).length ≤ 60) : NW Try.prog 181 [.agg (biC n)] (.a (dB (decide (n < 0)) (lim n.natAbs))) := by
  refine nw_of Try.func181 rfl rfl (by rw [Try.ntmps181]; simp) fun bl => ?_
  rw [Try.ntmps181, Try.results181]
  refine AW_run ?_
  rw [biC_def]
  simp
  intro g1 hg1 hb1 g2 hg2 h21 hb2
  try simp [h21, Ne.symm h21]
  refine ⟨fun h => by omega, fun h => ?_⟩
  try simp [h21, Ne.symm h21]
  refine AW_mixedB mixedO (upd bl g1 (some ⟨2, [[.bool (decide (n < 0)), .sl (iv (lim n.natAbs))]]⟩)) (by simp [h21, hb2]) [0, 1, 2, 3] 3 (by kernel_rfl) ?_
  simp [h21, Ne.symm h21]
  refine DAny_one (i := 4) (by kernel_rfl) rfl rfl ?_
  simp [h21, Ne.symm h21]
  refine callP_new (Clone_ints_nw (lim n.natAbs) (by omega)) fun v gs b o f fr => ?_
  obtain ⟨c1, c2⟩ := o.one
  have e1 : ∀ x, x ∈ gs → x ≠ g1 ∧ x ≠ g2 ∧ bl x = none := fun x hx => by have := f x hx; simp [upd_apply] at this; grind
  have n1 : b g1 = _ := fr g1 fun h => (e1 g1 h).1 rfl
  have n2 : b g2 = _ := fr g2 fun h => (e1 g2 h).2.1 rfl
  simp [h21, Ne.symm h21] at n1 n2
  have hs : Sub bl b := fun x y hy => by
    have z1 : x ≠ g1 := fun h => by rw [h, hb1] at hy; cases hy
    have z2 : x ≠ g2 := fun h => by rw [h, hb2] at hy; cases hy
    exact new_keep f fr (by simp [upd_apply, z1, z2, hy])
  have hs1 : Sub (upd bl g1 (some ⟨2, [[.bool (decide (n < 0)), .sl (iv (lim n.natAbs))]]⟩)) b := fun x y hy => by
    rw [upd_apply] at hy
    split at hy
    · rename_i h; subst h; rw [n1]; exact hy
    · exact hs x y hy
  refine ⟨hs1, DAny_one (i := 5) (by kernel_rfl) rfl rfl ?_⟩
  simp [h21, Ne.symm h21, n1, n2, c1, c2]
  refine ⟨hs1, DAny_one (i := 6) (by kernel_rfl) rfl rfl ?_⟩
  simp [h21, Ne.symm h21, n1, n2, c1, c2]
  refine ⟨hs1.upd (by simp [h21, hb2]) _, DAny_done (by kernel_rfl) ?_⟩
  simp [h21, Ne.symm h21, n1, n2, c1, c2]
  refine retNW [.agg [.bool (decide (n < 0)), v]] gs (by simp [c1, n1, n2]) ?_ (fun x hx => (e1 x hx).2.2) (hs.upd hb2 _)
  exact own_bi.2 ⟨v, rfl, o.frame fun x hx => by simp [upd_apply, (e1 x hx).2.1]⟩

theorem store_nw (x : Option Rat) (hx : okQ x) : NW Try.prog 129 [fv x] (.a (dR (ro x))) := by
  cases x with
  | none =>
    refine nw_of Try.func129 rfl rfl (by rw [Try.ntmps129]; simp) fun bl => ?_
    rw [Try.ntmps129, Try.results129]
    refine AW_run ?_
    simp [fv]
    intro g2 hg2 hb2
    refine retNW [.agg [.bool false, .nils, .nils]] [] (by simp) ?_ (by simp) (by simp [hb2])
    exact own_rt.2 ⟨.nils, .nils, [], [], rfl, rfl, by simp, own_iv.2 (.inl ⟨rfl, rfl, rfl⟩), own_iv.2 (.inl ⟨rfl, rfl, rfl⟩)⟩
  | some q =>
    have hf := hx q rfl
    have hl := hf.1
    have hl2 := hf.2
    refine nw_of Try.func129 rfl rfl (by rw [Try.ntmps129]; simp) fun bl => ?_
    rw [Try.ntmps129, Try.results129]
    refine AW_run ?_
    rw [show fv (some q) = .ptr (rq q).c from rfl, rqc_def]
    simp
    intro g2 hg2 hb2
    refine AW_mixedB mixedO bl (by simp [hb2]) [0, 1, 2, 3, 5, 6, 7, 8] 4 (by kernel_rfl) ?_
    simp
    refine DAny_one (i := 4) (by kernel_rfl) rfl rfl ?_
    simp
    have hfw := fewer_nw q.num (by omega)
    rw [biC_def] at hfw
    refine callP_new hfw fun v gs b o f fr => ?_
    obtain ⟨vm, rfl, om⟩ := own_bi.1 o
    obtain ⟨c1, c2⟩ := om.one
    have e1 : ∀ x, x ∈ gs → x ≠ g2 ∧ bl x = none := fun x hx => by have := f x hx; simp [upd_apply] at this; exact this
    have n2 : b g2 = _ := fr g2 fun h => (e1 g2 h).1 rfl
    simp at n2
    have hs : Sub bl b := fun x y hy => by
      have z2 : x ≠ g2 := fun h => by rw [h, hb2] at hy; cases hy
      exact new_keep f fr (by simp [upd_apply, z2, hy])
    refine ⟨hs, DAny_one (i := 9) (by kernel_rfl) rfl rfl ?_⟩
    simp
    refine callP_new (Clone_ints_nw (lim q.den) (by omega)) fun w gw b2 ow f2 fr2 => ?_
    obtain ⟨d1, d2⟩ := ow.one
    have m2 : b2 g2 = _ := new_keep f2 fr2 n2
    have hs2 : Sub bl b2 := fun x y hy => new_keep f2 fr2 (hs x y hy)
    have e3 : ∀ x, x ∈ gw → x ≠ g2 := fun x hx h => by have := f2 x hx; rw [h, n2] at this; cases this
    have e4 : ∀ x, x ∈ gs → x ∉ gw := fun x hx h => by
      obtain ⟨y, hy⟩ := om.has x hx
      rw [f2 x h] at hy; cases hy
    refine ⟨hs2, DAny_one (i := 10) (by kernel_rfl) rfl rfl ?_⟩
    simp [m2, c1, c2, d1, d2]
    refine ⟨hs2, DAny_one (i := 11) (by kernel_rfl) rfl rfl ?_⟩
    simp [m2, c1, c2, d1, d2]
    refine ⟨hs2.upd hb2 _, DAny_done (by kernel_rfl) ?_⟩
    simp [m2, c1, c2, d1, d2]
    refine retNW [.agg [.bool (decide (q.num < 0)), vm, w]] (gs ++ gw) (by simp [c1, d1, m2]) ?_ (fun x hx => ?_) (hs2.upd hb2 _)
    · refine own_rt.2 ⟨vm, w, gs, gw, rfl, rfl, e4, om.frame fun x hx => ?_, ow.frame fun x hx => ?_⟩
      · simp only [upd_apply]; rw [if_neg (e1 x hx).1]; exact fr2 x (e4 x hx)
      · simp only [upd_apply]; rw [if_neg (e3 x hx)]
    · rcases List.mem_append.1 hx with hx | hx
      · exact (e1 x hx).2
      · exact fresh_of hs (f2 x hx)

def dT (r : RT) (b : Bool) : D := .t [.a (dR r), .c (.bool b)]
theorem own_dT {bl : Int → Option Blk} {r : RT} {b : Bool} {v : V} {gs : List Int} : OwnD bl (dT r b) v gs ↔ ∃ vs, v = .tup [.agg vs, .bool b] ∧ OwnL bl (dR r) vs gs := by
  unfold dT
  rw [OwnD]
  constructor
  · rintro ⟨vs, rfl, h⟩
    obtain ⟨v, w, g1, g2, rfl, rfl, hd, h1, h2⟩ := own_pair.1 h
    rw [OwnD] at h2
    obtain ⟨rfl, _, rfl⟩ := h2
    rw [OwnD] at h1
    obtain ⟨vs, rfl, h1⟩ := h1
    exact ⟨vs, rfl, by simpa using h1⟩
  · rintro ⟨vs, rfl, h⟩
    refine ⟨_, rfl, own_pair.2 ⟨.agg vs, .bool b, gs, [], rfl, by simp, fun x hx h => (by cases h), by rw [OwnD]; exact ⟨vs, rfl, h⟩, own_bool b⟩⟩
theorem told_nw (x : Option Rat) (hx : okQ x) : NW Try.prog 80 [fv x] (dT (ro x) x.isSome) := by
  cases x with
  | none =>
    refine nw_of Try.func80 rfl rfl (by rw [Try.ntmps80]; simp) fun bl => ?_
    rw [Try.ntmps80, Try.results80]
    refine AW_run ?_
    simp [fv]
    intro g2 hg2 hb2
    refine retNW [.agg [.bool false, .nils, .nils], .bool false] [] (by simp) ?_ (by simp) (by simp [hb2])
    exact own_dT.2 ⟨_, rfl, own_rtL.2 ⟨.nils, .nils, [], [], rfl, rfl, by simp, own_iv.2 (.inl ⟨rfl, rfl, rfl⟩), own_iv.2 (.inl ⟨rfl, rfl, rfl⟩)⟩⟩
  | some q =>
    refine nw_of Try.func80 rfl rfl (by rw [Try.ntmps80]; simp) fun bl => ?_
    rw [Try.ntmps80, Try.results80]
    refine AW_run ?_
    simp [fv]
    intro g2 hg2 hb2
    refine callP_new (store_nw (some q) hx) fun v gs b o f fr => ?_
    obtain ⟨vm, vd, ga, gb, rfl, rfl, hd, om, od⟩ := own_rt.1 o
    obtain ⟨c1, c2⟩ := om.one
    obtain ⟨d1, d2⟩ := od.one
    have e1 : ∀ x, x ∈ ga ++ gb → x ≠ g2 ∧ bl x = none := fun x hx => by have := f x hx; simp only [upd_apply] at this; split at this <;> simp_all
    have n2 : b g2 = some ⟨3, [[.bool false, .nils, .nils]]⟩ := new_keep f fr (by simp)
    have hs : Sub bl b := fun x y hy => by
      have z2 : x ≠ g2 := fun h => by rw [h, hb2] at hy; cases hy
      exact new_keep f fr (by simp [upd_apply, z2, hy])
    simp [n2, c1, d1]
    refine retNW [.agg [.bool (ro (some q)).neg, vm, vd], .bool true] (ga ++ gb) (by simp [c1, d1]) ?_ (fun x hx => (e1 x hx).2) (hs.upd hb2 _)
    refine own_dT.2 ⟨_, rfl, (own_rtL.2 ⟨vm, vd, ga, gb, rfl, rfl, hd, om, od⟩).frame fun x hx => by simp [upd_apply, (e1 x hx).1]⟩


/-- The width of a span, if it has one. -/
def widQ (s : SP) : Option Rat := if spOk s && !s.nl && !s.nh then op2 (· - ·) (rd s.hi) (rd s.lo) else none
theorem okQ_wid (s : SP) : okQ (widQ s) := by
  unfold widQ; split
  · exact okQ_op2 _ _ _
  · intro q h; cases h
theorem ok_ro {x : Option Rat} (h : okQ x) : decide (ro x).ok = x.isSome := by
  have := rd_ok (r := ro x)
  rw [rd_ro h] at this
  rw [Bool.eq_iff_iff, decide_eq_true_iff, this]
theorem ro_le {x : Option Rat} (h : okQ x) : (ro x).m.length ≤ 24 ∧ (ro x).d.length ≤ 24 := by
  cases x with
  | none => simp [ro, rz]
  | some q => exact h q rfl
theorem spec_WidthOf_ro (s : SP) (hs : s.le 1048576) : RO Try.prog 32 [.agg s.c] (.tup [.agg (ro (widQ s)).c, .bool (widQ s).isSome]) := by
  refine ro_of2 Try.func32 rfl rfl (by rw [Try.ntmps32]; simp) fun bl => ?_
  rw [Try.ntmps32, Try.results32]
  refine AW_runA ?_
  rw [ro_c (widQ s)]
  simp [SP.c]
  intro g hg0 hg g2 hg2 h2g hb2
  refine AW_run ?_
  simp [h2g, Ne.symm h2g]
  refine AW_way [(1, .loc g 8 0 0), (2, .loc g2 3 0 0), (3, .bool false)] _ (upd (upd bl g (some ⟨8, [s.c]⟩)) g2 (some ⟨3, [[.bool false, .nils, .nils]]⟩)) 15 (.bool (!(spOk s && !s.nl && !s.nh))) (upd (upd bl g (some ⟨8, [s.c]⟩)) g2 (some ⟨3, [[.bool false, .nils, .nils]]⟩)) ⟨rfl, by simp, sub_eq (by simp [SP.c])⟩ rfl ?_ ?_
  · simp [SP.c, h2g, Ne.symm h2g]
    refine callP_ro (spec_SpanOk_ro s hs) ?_
    cases spOk s <;> cases hnl : s.nl <;> cases hnh : s.nh <;> simp [SP.c, hnl, hnh, h2g, Ne.symm h2g]
  cases hw : (spOk s && !s.nl && !s.nh)
  · have hz : widQ s = none := by unfold widQ; rw [hw]; rfl
    rw [hz]
    simp
    exact retRO [.agg [.bool false, .nils, .nils], .bool false] 2 (by simp [h2g, Ne.symm h2g]) (by simp [frz, nm, dn, V.cl, iv, lim_zero]) (by simp [hg, hb2])
  · have hz : widQ s = op2 (· - ·) (rd s.hi) (rd s.lo) := by unfold widQ; rw [hw]; rfl
    have hc := RatSub_ro s.hi s.lo hs.2 hs.1
    have ho := okQ_wid s
    rw [← hz] at hc
    have hk := spec_RatOk_ro (ro (widQ s)) (by have := (ro_le ho).1; omega) (by have := (ro_le ho).2; omega)
    rw [ok_ro ho] at hk
    rw [ro_c (widQ s)] at hc hk
    simp [SP.c, h2g, Ne.symm h2g]
    refine callP_ro hc ?_
    simp [h2g, Ne.symm h2g]
    intro g3 hg3 h32 h3g hb3
    refine AW_mixedB mixedO (upd bl g3 (some ⟨3, [[.bool (decide (nm (widQ s) < 0)), .sl (iv (lim (nm (widQ s)).natAbs)), .sl (iv (lim (dn (widQ s))))]]⟩)) (by intro z b hz; simp only [upd_apply] at hz ⊢; grind) [0, 1, 2] 2 (by kernel_rfl) ?_
    simp [h2g, Ne.symm h2g, h32, Ne.symm h32, h3g, Ne.symm h3g]
    refine hcQ_ro hk ?_
    simp [h2g, Ne.symm h2g, h32, Ne.symm h32, h3g, Ne.symm h3g]
    refine DAny_one (i := 3) (by kernel_rfl) rfl rfl ?_
    simp [h2g, Ne.symm h2g, h32, Ne.symm h32, h3g, Ne.symm h3g]
    refine ⟨(by intro z b hz; simp only [upd_apply] at hz ⊢; grind), DAny_one (i := 4) (by kernel_rfl) rfl rfl ?_⟩
    simp [h2g, Ne.symm h2g, h32, Ne.symm h32, h3g, Ne.symm h3g]
    refine ⟨(by intro z b hz; simp only [upd_apply] at hz ⊢; grind), DAny_done (by kernel_rfl) ?_⟩
    simp [h2g, Ne.symm h2g, h32, Ne.symm h32, h3g, Ne.symm h3g]
    exact retRO [.agg [.bool (decide (nm (widQ s) < 0)), .sl (iv (lim (nm (widQ s)).natAbs)), .sl (iv (lim (dn (widQ s))))], .bool (widQ s).isSome] 2 (by simp [h2g, Ne.symm h2g, h32, Ne.symm h32, h3g, Ne.symm h3g]) (by simp [frz, V.cl]) (by simp [hg, hb2, hb3])
theorem impl_WidthOf_nw (s : SP) (hs : s.le 1048576) : NW Try.prog 33 [.agg s.c] (dT (ro (widQ s)) (widQ s).isSome) := by
  refine nw_of Try.func33 rfl rfl (by rw [Try.ntmps33]; simp) fun bl => ?_
  rw [Try.ntmps33, Try.results33]
  refine AW_run ?_
  simp [SP.c]
  intro g hg0 hg g2 hg2 h2g hb2
  simp [h2g, Ne.symm h2g]
  refine callP_ro (ends_ro s hs) ?_
  simp [h2g, Ne.symm h2g]
  refine AW_way [(1, .loc g 8 0 0), (2, .loc g2 3 0 0), (3, .bool false), (4, fv (if spBad s then none else rd s.lo)), (5, fv (if spBad s then none else rd s.hi)), (6, .bool (spOk s))] _ (upd (upd bl g (some ⟨8, [s.c]⟩)) g2 (some ⟨3, [[.bool false, .nils, .nils]]⟩)) 22 (.bool (!(spOk s && !s.nl && !s.nh))) (upd (upd bl g (some ⟨8, [s.c]⟩)) g2 (some ⟨3, [[.bool false, .nils, .nils]]⟩)) ⟨rfl, by simp, sub_eq (by simp [SP.c])⟩ rfl ?_ ?_
  · simp [SP.c, h2g, Ne.symm h2g]
    cases spOk s <;> cases hnl : s.nl <;> cases hnh : s.nh <;> simp [SP.c, hnl, hnh, h2g, Ne.symm h2g]
  cases hw : (spOk s && !s.nl && !s.nh)
  · have hz : widQ s = none := by unfold widQ; rw [hw]; rfl
    rw [hz]
    simp
    refine retNW [.agg [.bool false, .nils, .nils], .bool false] [] (by simp [h2g, Ne.symm h2g]) ?_ (by simp) (by simp [hg, hb2])
    exact own_dT.2 ⟨_, rfl, own_rtL.2 ⟨.nils, .nils, [], [], rfl, rfl, by simp, own_iv.2 (.inl ⟨rfl, rfl, rfl⟩), own_iv.2 (.inl ⟨rfl, rfl, rfl⟩)⟩⟩
  · have hz : widQ s = op2 (· - ·) (rd s.hi) (rd s.lo) := by unfold widQ; rw [hw]; rfl
    have hk : spOk s = true := by cases h : spOk s <;> simp [h] at hw ⊢
    obtain ⟨hb, a, b, ea, eb⟩ := spOk_some hk
    have ho := okQ_wid s
    rw [hb]
    have hc := sub_ro (rd s.hi) (rd s.lo) (okQ_rd _) (okQ_rd _)
    rw [← hz] at hc
    simp
    refine callP_ro hc ?_
    simp
    refine callP_new (told_nw (widQ s) ho) fun v gs b' o f fr => ?_
    obtain ⟨vs, rfl, ol⟩ := own_dT.1 o
    obtain ⟨vm, vd, ga, gb, rfl, rfl, hd, om, od⟩ := own_rtL.1 ol
    obtain ⟨c1, c2⟩ := om.one
    obtain ⟨d1, d2⟩ := od.one
    have e1 : ∀ x, x ∈ ga ++ gb → x ≠ g2 ∧ bl x = none := fun x hx => by have := f x hx; simp only [upd_apply] at this; split at this <;> simp_all
    have n2 : b' g2 = some ⟨3, [[.bool false, .nils, .nils]]⟩ := new_keep f fr (by simp)
    have hs : Sub bl b' := fun x y hy => by
      have z1 : x ≠ g := fun h => by rw [h, hg] at hy; cases hy
      have z2 : x ≠ g2 := fun h => by rw [h, hb2] at hy; cases hy
      exact new_keep f fr (by simp [upd_apply, z1, z2, hy])
    simp [n2, c1, d1]
    refine retNW [.agg [.bool (ro (widQ s)).neg, vm, vd], .bool (widQ s).isSome] (ga ++ gb) (by simp [c1, d1]) ?_ (fun x hx => (e1 x hx).2) (hs.upd hb2 _)
    refine own_dT.2 ⟨_, rfl, (own_rtL.2 ⟨vm, vd, ga, gb, rfl, rfl, hd, om, od⟩).frame fun x hx => by simp [upd_apply, (e1 x hx).1]⟩
theorem frz_rtL {bl : Int → Option Blk} {r : RT} {vs : List V} {gs : List Int} (h : OwnL bl (dR r) vs gs) (n : Nat) : frz bl (n + 2) (.agg vs) = some (.agg r.c) :=
  frz_rt (by rw [OwnD]; exact ⟨vs, rfl, h⟩) n
theorem own_sp1 {bl : Int → Option Blk} {s : SP} {vs : List V} {gs : List Int} (h : OwnL bl (dS s) vs gs) : ∃ vm vd wm wd, vs = [.bool s.lo.neg, vm, vd, .bool s.hi.neg, wm, wd, .bool s.nl, .bool s.nh] ∧ vm.one = true ∧ vd.one = true ∧ wm.one = true ∧ wd.one = true := by
  obtain ⟨v1, v2, ga, gb, rfl, rfl, hd, o1, o2⟩ := own_spL.1 h
  obtain ⟨vm, vd, _, _, rfl, rfl, _, om, od⟩ := own_rtL.1 o1
  obtain ⟨wm, wd, _, _, rfl, rfl, _, om2, od2⟩ := own_rtL.1 o2
  exact ⟨vm, vd, wm, wd, rfl, om.one.1, od.one.1, om2.one.1, od2.one.1⟩
theorem own_rt1 {bl : Int → Option Blk} {r : RT} {vs : List V} {gs : List Int} (h : OwnL bl (dR r) vs gs) : ∃ vm vd, vs = [.bool r.neg, vm, vd] ∧ vm.one = true ∧ vd.one = true := by
  obtain ⟨vm, vd, _, _, rfl, rfl, _, om, od⟩ := own_rtL.1 h
  exact ⟨vm, vd, rfl, om.one.1, od.one.1⟩

end Go.Proofs.Ythhjmaianlmfpaa.Vm

namespace Go.Proofs.Ythhjmaianlmfpaa.Vm
open Go Go.Proofs
set_option linter.unusedSimpArgs false
set_option linter.unusedVariables false

/-! ### Lists of fractions that may be none -/
def fvs (xs : List (Option Rat)) : List (List V) := xs.map fun x => [fv x]
@[simp] theorem fvs_length (xs : List (Option Rat)) : (fvs xs).length = xs.length := by simp [fvs]
@[simp] theorem fvs_getE (xs : List (Option Rat)) (i : Nat) (h : i < (fvs xs).length) : (fvs xs)[i] = [fv (xs[i]'(by simpa using h))] := by simp [fvs]
@[simp] theorem fv_cl (x : Option Rat) : (fv x).cl = true := by cases x <;> rfl
@[simp] theorem fv_one (x : Option Rat) : (fv x).one = true := by cases x <;> rfl
@[simp] theorem fv_cells (x : Option Rat) : (fv x).cells = [fv x] := by cases x <;> rfl
theorem fvs_cl (xs : List (Option Rat)) : (fvs xs).all (fun r => r.all V.cl) = true := by simp [fvs]
theorem fvs_clen (xs : List (Option Rat)) : ∀ r, r ∈ fvs xs → r.length = 1 := by
  intro r hr
  obtain ⟨n, _, rfl⟩ := List.mem_map.1 hr
  rfl
theorem own_fvs {bl : Int → Option Blk} {xs : List (Option Rat)} {v : V} {gs : List Int} : OwnD bl (fl 1 (fvs xs)) v gs ↔ (xs = [] ∧ v = .nils ∧ gs = []) ∨ ∃ g, v = .lsl g 1 0 xs.length ∧ gs = [g] ∧ bl g = some ⟨1, fvs xs⟩ ∧ (g < 0 → xs = []) := by
  rw [own_fl (fvs_cl xs) (fvs_clen xs)]
  simp [fvs]
def okL (xs : List (Option Rat)) : Prop := ∀ x, x ∈ xs → okQ x
/-- A list and whether it is one. -/
def dL (xs : List (Option Rat)) (b : Bool) : D := .t [fl 1 (fvs xs), .c (.bool b)]
theorem own_two {bl : Int → Option Blk} {d : D} {b : Bool} {v : V} {gs : List Int} : OwnD bl (.t [d, .c (.bool b)]) v gs ↔ ∃ w, v = .tup [w, .bool b] ∧ OwnD bl d w gs := by
  rw [OwnD]
  constructor
  · rintro ⟨vs, rfl, h⟩
    obtain ⟨v, w, g1, g2, rfl, rfl, hd, h1, h2⟩ := own_pair.1 h
    rw [OwnD] at h2
    obtain ⟨rfl, _, rfl⟩ := h2
    exact ⟨v, rfl, by simpa using h1⟩
  · rintro ⟨w, rfl, h⟩
    exact ⟨_, rfl, own_pair.2 ⟨w, .bool b, gs, [], rfl, by simp, fun x hx h => (by cases h), h, own_bool b⟩⟩
theorem dL_dep (xs : List (Option Rat)) (b : Bool) (n : Nat) : (dL xs b).dep (n + 2) := by
  unfold dL; rw [D.dep]; exact ⟨by omega, by simp [D.depL, D.dep, fl_dep]⟩
theorem dL_fz (xs : List (Option Rat)) (b : Bool) : (dL xs b).fz = .tup [.sl (fvs xs), .bool b] := by simp [dL, D.fz, D.fzL]

def allOk (rs : List RT) : Bool := rs.all fun r => (rd r).isSome
def rdAll (rs : List RT) : List (Option Rat) := rs.map rd
@[simp] theorem rdAll_length (rs : List RT) : (rdAll rs).length = rs.length := by simp [rdAll]
theorem rdAll_ok (rs : List RT) : okL (rdAll rs) := by
  intro x hx
  obtain ⟨r, _, rfl⟩ := List.mem_map.1 hx
  exact okQ_rd r

theorem loads_nw (rs : List RT) (hq : fitQ rs 1048576) : NW Try.prog 136 [.sl (rv rs)] (dL (if allOk rs = true then rdAll rs else []) (allOk rs)) := by
  have hw := hq.1
  refine nw_of Try.func136 rfl rfl (by rw [Try.ntmps136]; simp) fun bl => ?_
  rw [Try.ntmps136, Try.results136]
  refine AW_run ?_
  simp
  refine ⟨by omega, by unfold maxLen; omega, fun g hg0 hg => ?_⟩
  refine AW_for (fun i : Nat => [(4, .lsl g 1 0 rs.length), (10, .sl (rv rs)), (11, .int .i64 rs.length), (12, .int .i64 i)]) (fun i => upd bl g (some ⟨1, part (fvs (rdAll rs)) [.nilp] i⟩)) (fun i => i ≤ rs.length ∧ ∀ r, r ∈ rs.take i → (rd r).isSome = true) (fun i => rs.length - i) _ 0 ⟨Nat.zero_le _, by simp⟩ ⟨rfl, by simp, sub_eq (by simp)⟩ ?_
  rintro i ⟨hi, hall⟩
  refine AW_run ?_
  simp
  refine ⟨fun h => ?_, fun h => ?_⟩
  · have hi' : i < (fvs (rdAll rs)).length := by simpa using h
    simp [h, RT.c]
    intro g2 hg2 h2g hb2
    try simp [h2g, Ne.symm h2g]
    have hr := hq.2 _ (List.getElem_mem h)
    refine callP_ro (load_ro rs[i] (by have := hr.1; omega) (by have := hr.2; omega)) ?_
    have hpl : i < (part (fvs (rdAll rs)) [.nilp] i).length := by simp [part]; omega
    have hpi : (part (fvs (rdAll rs)) [.nilp] i)[i]? = some [.nilp] := part_get _ _ _ hi'
    have hpe : (part (fvs (rdAll rs)) [.nilp] i)[i] = [.nilp] := by
      rw [List.getElem?_eq_getElem hpl] at hpi; exact Option.some.inj hpi
    rcases ev : rd rs[i] with _ | a
    · have hno : allOk rs = false := by
        rw [Bool.eq_false_iff]
        intro hh
        have := List.all_eq_true.1 hh rs[i] (List.getElem_mem h)
        rw [ev] at this; cases this
      simp [h, ev, fv, hpl, hpe, h2g, Ne.symm h2g, hno]
      refine retNW [.nils, .bool false] [] (by simp) ?_ (by simp) (by simp [hg, hb2])
      exact own_two.2 ⟨.nils, rfl, own_fvs.2 (.inl ⟨rfl, rfl, rfl⟩)⟩
    · have hset : (part (fvs (rdAll rs)) [.nilp] i).set i [fv (some a)] = part (fvs (rdAll rs)) [.nilp] (i + 1) := by
        rw [part_set _ _ _ hi']
        simp [rdAll, ev]
      simp [h, ev, fv, hpl, hpe, h2g, Ne.symm h2g]
      simp (disch := omega) [i64_in, loopQ_normal]
      refine ⟨i + 1, ⟨by omega, fun r hr => ?_⟩, by omega, rfl, by simp, ?_⟩
      · rw [List.take_add_one, List.getElem?_eq_getElem h] at hr
        rcases List.mem_append.1 hr with hr | hr
        · exact hall r hr
        · obtain rfl : r = rs[i] := by simpa using hr
          rw [ev]; rfl
      · have e2 := hset
        simp only [fv] at e2
        intro z y hz
        simp only [upd_apply, e2] at hz ⊢
        grind
  · have hi2 : i = rs.length := by omega
    have hyes : allOk rs = true := List.all_eq_true.2 fun r hr => hall r (by rw [hi2, List.take_length]; exact hr)
    simp [hyes]
    refine retNW [.lsl g 1 0 rs.length, .bool true] [g] (by simp) ?_ (by simpa using hg) (by simp [hg])
    rw [part_all _ _ _ (by simpa using h)]
    exact own_two.2 ⟨_, rfl, own_fvs.2 (.inr ⟨g, by simp, rfl, by simp, by omega⟩)⟩

theorem loads_ro (rs : List RT) (hq : fitQ rs 1048576) : RO Try.prog 136 [.sl (rv rs)] (.tup [.sl (fvs (if allOk rs = true then rdAll rs else [])), .bool (allOk rs)]) := by
  have := ro_of_nw 2 (loads_nw rs hq) (dL_dep _ _ 0)
  rwa [dL_fz] at this
def vecOk (rs : List RT) : Bool := decide (rs.length ≤ 24) && allOk rs
theorem own_dL {bl : Int → Option Blk} {xs : List (Option Rat)} {b : Bool} {v : V} {gs : List Int} (h : OwnD bl (dL xs b) v gs) : ∃ w, v = .tup [w, .bool b] ∧ OwnD bl (fl 1 (fvs xs)) w gs ∧ w.one = true ∧ w.cells = [w] := by
  obtain ⟨w, rfl, o⟩ := own_two.1 h
  exact ⟨w, rfl, o, o.one⟩
theorem loadVector_nw (rs : List RT) (hq : fitQ rs 1048576) : NW Try.prog 147 [.sl (rv rs)] (dL (if vecOk rs = true then rdAll rs else []) (vecOk rs)) := by
  have hw := hq.1
  refine nw_of Try.func147 rfl rfl (by rw [Try.ntmps147]; simp) fun bl => ?_
  rw [Try.ntmps147, Try.results147]
  refine AW_run ?_
  simp
  refine ⟨fun h => ?_, fun h => ?_⟩
  · have hv : vecOk rs = false := by unfold vecOk; rw [decide_eq_false (by omega)]; rfl
    rw [hv]
    refine retNW [.nils, .bool false] [] (by simp) ?_ (by simp) (Sub.refl _)
    exact own_two.2 ⟨.nils, rfl, own_fvs.2 (.inl ⟨rfl, rfl, rfl⟩)⟩
  · have hv : vecOk rs = allOk rs := by unfold vecOk; rw [decide_eq_true (by omega)]; rfl
    rw [hv]
    refine callP_new (loads_nw rs hq) fun v gs b o f fr => ?_
    obtain ⟨w, rfl, ow, w1, w2⟩ := own_dL o
    simp
    exact retNW [w, .bool (allOk rs)] gs (by simp) (own_two.2 ⟨w, rfl, ow⟩) f (fun x y hy => new_keep f fr hy)
theorem loadVector_ro (rs : List RT) (hq : fitQ rs 1048576) : RO Try.prog 147 [.sl (rv rs)] (.tup [.sl (fvs (if vecOk rs = true then rdAll rs else [])), .bool (vecOk rs)]) := by
  have := ro_of_nw 2 (loadVector_nw rs hq) (dL_dep _ _ 0)
  rwa [dL_fz] at this

/-! ### Handing back -/
def allSome (xs : List (Option Rat)) : Bool := xs.all Option.isSome
def roAll (xs : List (Option Rat)) : List RT := xs.map ro
@[simp] theorem roAll_length (xs : List (Option Rat)) : (roAll xs).length = xs.length := by simp [roAll]
/-- Fractions handed back, and whether all are some. -/
def stQ (xs : List (Option Rat)) : List RT := if allSome xs = true then roAll xs else []
def dV (rs : List RT) (b : Bool) : D := .t [dRs rs, .c (.bool b)]
theorem dV_dep (rs : List RT) (b : Bool) (n : Nat) : (dV rs b).dep (n + 3) := by
  unfold dV; rw [D.dep]; exact ⟨by omega, by simp [D.depL, D.dep, dRs_dep]⟩
theorem dV_fz (rs : List RT) (b : Bool) : (dV rs b).fz = .tup [.sl (rv rs), .bool b] := by simp [dV, D.fz, D.fzL, dRs_fz]
theorem dV_sc (rs : List RT) (b : Bool) : (dV rs b).sc = true := by simp [dV, D.sc, D.scL, dRs_sc, V.ow]
theorem own_dV {bl : Int → Option Blk} {rs : List RT} {b : Bool} {v : V} {gs : List Int} (h : OwnD bl (dV rs b) v gs) : ∃ w, v = .tup [w, .bool b] ∧ OwnD bl (dRs rs) w gs ∧ w.one = true ∧ w.cells = [w] := by
  obtain ⟨w, rfl, o⟩ := own_two.1 h
  exact ⟨w, rfl, o, own_rs1 o⟩
theorem own_dV0 {bl : Int → Option Blk} (b : Bool) : OwnD bl (dV [] b) (.tup [.nils, .bool b]) [] := own_two.2 ⟨.nils, rfl, own_rs.2 (.inl ⟨rfl, rfl, rfl⟩)⟩

theorem stores_nw (xs : List (Option Rat)) (hx : okL xs) (hw : xs.length ≤ 1048576) : NW Try.prog 144 [.sl (fvs xs)] (dV (stQ xs) (allSome xs)) := by
  refine nw_of Try.func144 rfl rfl (by rw [Try.ntmps144]; simp) fun bl => ?_
  rw [Try.ntmps144, Try.results144]
  refine AW_run ?_
  simp
  refine ⟨by omega, by unfold maxLen; omega, fun g hg0 hg => ?_⟩
  refine AW_for (fun p : Grow => [(4, .lsl g 3 0 xs.length), (10, .sl (fvs xs)), (11, .int .i64 xs.length), (12, .int .i64 p.els.length)]) (fun p => p.b)
    (fun p => p.els.length ≤ xs.length ∧ (∀ x, x ∈ xs.take p.els.length → x.isSome = true) ∧ p.b g = some ⟨3, p.els ++ List.replicate (xs.length - p.els.length) [.bool false, .nils, .nils]⟩ ∧ OwnR p.b 3 (((roAll xs).map dR).take p.els.length) p.els p.gs ∧ g ∉ p.gs ∧ (∀ x, x ∈ p.gs → bl x = none) ∧ Sub bl p.b)
    (fun p => xs.length - p.els.length) 26 ⟨[], [], upd bl g (some ⟨3, List.replicate xs.length [.bool false, .nils, .nils]⟩)⟩ ⟨Nat.zero_le _, by simp, by simp, by simp [OwnR], by simp, by simp, by simp [hg]⟩ ⟨rfl, by simp, by simp⟩ ?_
  rintro ⟨els, gs, b⟩ ⟨hi, hall, hb, ho, hn, hf, hs⟩
  simp only at hi hall hb ho hn hf hs
  refine AW_run ?_
  simp
  refine ⟨fun h => ?_, fun h => ?_⟩
  · rcases ex : xs[els.length] with _ | q
    · have hno : allSome xs = false := by
        rw [Bool.eq_false_iff]
        intro hh
        have := List.all_eq_true.1 hh xs[els.length] (List.getElem_mem h)
        rw [ex] at this; cases this
      have hst : stQ xs = [] := by unfold stQ; rw [hno]; rfl
      simp [h, ex, fv]
      rw [hno, hst]
      refine retNW [.nils, .bool false] [] (by simp) (own_dV0 _) (by simp) hs
    · simp [h, ex, fv]
      have hq0 : okQ (some q) := by rw [← ex]; exact hx _ (List.getElem_mem h)
      have hstore := store_nw (some q) hq0
      rw [show fv (some q) = .ptr (rq q).c from rfl] at hstore
      refine callP_new hstore fun v gv b' o f fr => ?_
      rw [OwnD] at o
      obtain ⟨vs, rfl, o⟩ := o
      obtain ⟨vm, vd, _, _, rfl, _, _, om, od⟩ := own_rtL.1 o
      have c1 := om.one.1
      have d1 := od.one.1
      have hb' : b' g = _ := new_keep f fr hb
      have hgv : g ∉ gv := fun hh => by have := f g hh; rw [hb] at this; cases this
      simp [h, hb', grow_get els [.bool false, .nils, .nils] xs.length h, c1, d1]
      simp (disch := omega) [i64_in, loopQ_normal]
      have gg := grow_set' els [.bool false, .nils, .nils] [.bool (ro (some q)).neg, vm, vd] xs.length h
      refine ⟨⟨els ++ [[.bool (ro (some q)).neg, vm, vd]], gs ++ gv, upd b' g (some ⟨3, (els ++ [[.bool (ro (some q)).neg, vm, vd]]) ++ List.replicate (xs.length - (els ++ [[V.bool (ro (some q)).neg, vm, vd]]).length) [.bool false, .nils, .nils]⟩)⟩, ⟨by simp; omega, ?_, by simp, ?_, ?_, ?_, ?_⟩, by simp; omega, rfl, by simp, sub_eq ?_⟩
      · intro x hx
        simp only [List.length_append, List.length_singleton] at hx
        rw [List.take_add_one, List.getElem?_eq_getElem h] at hx
        rcases List.mem_append.1 hx with hx | hx
        · exact hall x hx
        · obtain rfl : x = xs[els.length] := by simpa using hx
          rw [ex]; rfl
      · have h2 : els.length < (roAll xs).length := by simpa using h
        have ht : ((roAll xs).map dR).take (els ++ [[V.bool (ro (some q)).neg, vm, vd]]).length = ((roAll xs).map dR).take els.length ++ [dR (ro (some q))] := by
          rw [List.length_append, List.length_singleton, List.take_add_one, List.getElem?_map, List.getElem?_eq_getElem h2]; simp [roAll, ex]
        simp only
        rw [ht]
        refine OwnR.snoc (o.frame fun x hx => by simp [show x ≠ g from fun e => hgv (e ▸ hx)]) rfl (by simp [c1, d1]) (ho.keep fun x hx y hy => ?_) fun x hx hx2 => ?_
        · rw [upd_apply, if_neg (fun e => hn (by rw [← e]; exact hx))]; exact new_keep f fr hy
        · exact ho.not (f x hx2) hx
      · simp only [List.mem_append]; rintro (h | h)
        · exact hn h
        · exact hgv h
      · intro x hx
        rcases List.mem_append.1 hx with hx | hx
        · exact hf x hx
        · exact fresh_of hs (f x hx)
      · exact sub_new' hg fun x y hy => new_keep f fr (hs x y hy)
      · exact congrArg (fun e => upd b' g (some (Blk.mk 3 e))) gg
  · have hl : els.length = xs.length := by omega
    have hyes : allSome xs = true := List.all_eq_true.2 fun x hx => hall x (by rw [hl, List.take_length]; exact hx)
    have hst : stQ xs = roAll xs := by unfold stQ; rw [hyes]; rfl
    rw [hyes, hst]
    refine retNW [.lsl g 3 0 xs.length, .bool true] (g :: gs) (by simp) ?_ (by simpa [hg] using hf) hs
    refine own_two.2 ⟨_, rfl, own_rs.2 (.inr ⟨g, els, gs, by simp, rfl, hn, ?_, by omega, ?_⟩)⟩
    · show b g = _
      rw [hb, hl]; simp
    · rw [hl] at ho
      rw [List.take_of_length_le (by simp)] at ho
      exact ho

theorem frz_tup2 {bl : Int → Option Blk} {n : Nat} {x y : V} {b : Bool} (h : frz bl n x = some y) : frz bl (n + 1) (.tup [x, .bool b]) = some (.tup [y, .bool b]) := by
  rw [frz_tup]
  simp only [List.mapM_cons, List.mapM_nil, h, show frz bl n (.bool b) = some (.bool b) by cases n <;> simp [frz]]
  rfl
theorem rv_all (rs : List RT) : ((rv rs).all fun c => c.length == 3 && c.all V.one) = true := by simp [rv, RT.c]
theorem rv_cl (rs : List RT) : (rv rs).all (fun r => r.all V.cl) = true := by simp [rv, RT.c, V.cl]
theorem rv_append (a b : List RT) : rv (a ++ b) = rv a ++ rv b := by simp [rv]
theorem roAll_append (a b : List (Option Rat)) : roAll (a ++ b) = roAll a ++ roAll b := by simp [roAll]
theorem stQ_fit {zs : List (Option Rat)} (h : okL zs) (hl : zs.length ≤ 1048576) : fitQ (stQ zs) 1048576 ∧ sumQ (stQ zs) ≤ 100000000 := by
  have hle : ∀ r, r ∈ stQ zs → r.m.length ≤ 24 ∧ r.d.length ≤ 24 := by
    intro r hr
    unfold stQ at hr
    split at hr
    · obtain ⟨x, hx, rfl⟩ := List.mem_map.1 hr
      exact ro_le (h x hx)
    · cases hr
  have hn : (stQ zs).length ≤ zs.length := by
    unfold stQ; split
    · simp
    · simp
  have hs : sumQ (stQ zs) ≤ 48 * (stQ zs).length := by
    generalize stQ zs = rs at hle
    clear hn h hl
    unfold sumQ
    induction rs with
    | nil => simp
    | cons r rs ih =>
      rw [List.map_cons, List.sum_cons, List.length_cons]
      have h1 := hle r List.mem_cons_self
      have h2 := ih fun x hx => hle x (List.mem_cons_of_mem _ hx)
      omega
  exact ⟨⟨by omega, fun r hr => ⟨by have := (hle r hr).1; omega, by have := (hle r hr).2; omega⟩⟩, by omega⟩
theorem okL_none : okL [none] := by
  intro x hx
  obtain rfl : x = none := by simpa using hx
  intro q h; cases h

end Go.Proofs.Ythhjmaianlmfpaa.Vm

namespace Go.Proofs.Ythhjmaianlmfpaa.Vm
open Go Go.Proofs
set_option linter.unusedSimpArgs false
set_option linter.unusedVariables false

def gv (cells : List (List (Option Rat))) : List (List V) := cells.map fun r => [.sl (fvs r)]
@[simp] theorem gv_length (cells : List (List (Option Rat))) : (gv cells).length = cells.length := by simp [gv]
@[simp] theorem gv_getE (cells : List (List (Option Rat))) (i : Nat) (h : i < (gv cells).length) : (gv cells)[i] = [.sl (fvs (cells[i]'(by simpa using h)))] := by simp [gv]
def dGr (cells : List (List (Option Rat))) : D := .s 1 (cells.map fun r => [fl 1 (fvs r)])
theorem dGr_fz (cells : List (List (Option Rat))) : (dGr cells).fz = .sl (gv cells) := by
  unfold dGr gv
  rw [D.fz, fzR_map, List.map_map]
  congr 1
  exact List.map_congr_left fun w _ => by simp
theorem dGr_dep (cells : List (List (Option Rat))) (n : Nat) : (dGr cells).dep (n + 2) := by
  unfold dGr
  rw [D.dep]
  refine ⟨by omega, ?_⟩
  induction cells with
  | nil => simp [D.depR]
  | cons w ws ih => simp [D.depR, D.depL, fl_dep] at ih ⊢; exact ih
def dG (r c : Nat) (cells : List (List (Option Rat))) : D := .a [.c (.int .i64 r), .c (.int .i64 c), dGr cells]
theorem dG_fz (r c : Nat) (cells : List (List (Option Rat))) : (dG r c cells).fz = .agg [.int .i64 r, .int .i64 c, .sl (gv cells)] := by simp [dG, D.fz, D.fzL, dGr_fz]
theorem dG_dep (r c : Nat) (cells : List (List (Option Rat))) : (dG r c cells).dep 3 := by
  unfold dG; rw [D.dep]; exact ⟨by omega, by simp [D.depL, D.dep, dGr_dep]⟩
theorem own_int' {bl : Int → Option Blk} (n : Int) : OwnD bl (.c (.int .i64 n)) (.int .i64 n) [] := by rw [OwnD]; exact ⟨rfl, rfl, rfl⟩
theorem own_g {bl : Int → Option Blk} {r c : Nat} {cells : List (List (Option Rat))} {v : V} {gs : List Int} : OwnD bl (dG r c cells) v gs ↔ ∃ w, v = .agg [.int .i64 r, .int .i64 c, w] ∧ OwnD bl (dGr cells) w gs := by
  unfold dG
  rw [OwnD]
  constructor
  · rintro ⟨vs, rfl, h⟩
    rw [OwnL] at h
    obtain ⟨v1, vs1, g1, r1, rfl, rfl, _, h1, h⟩ := h
    rw [OwnD] at h1
    obtain ⟨rfl, _, rfl⟩ := h1
    rw [OwnL] at h
    obtain ⟨v2, vs2, g2, r2, rfl, rfl, _, h2, h⟩ := h
    rw [OwnD] at h2
    obtain ⟨rfl, _, rfl⟩ := h2
    obtain ⟨w, rfl⟩ : ∃ w, vs2 = [w] := by
      have := h.length
      match vs2, this with
      | [w], _ => exact ⟨w, rfl⟩
    exact ⟨w, rfl, by simpa using own_single.1 h⟩
  · rintro ⟨w, rfl, h⟩
    exact ⟨_, rfl, own_cons (g1 := []) (g2 := gs) (own_int' _) (own_cons (g1 := []) (g2 := gs) (own_int' _) (own_single.2 h) (fun x hx => by cases hx)) (fun x hx => by cases hx)⟩

def rowOf (c : Nat) (m : Nat → Nat → Option Rat) (i : Nat) : List (Option Rat) := (List.range c).map (m i)
def gridOf (r c : Nat) (m : Nat → Nat → Option Rat) : List (List (Option Rat)) := (List.range r).map (rowOf c m)
@[simp] theorem rowOf_length (c : Nat) (m : Nat → Nat → Option Rat) (i : Nat) : (rowOf c m i).length = c := by simp [rowOf]
@[simp] theorem rowOf_getE (c : Nat) (m : Nat → Nat → Option Rat) (i k : Nat) (h : k < (rowOf c m i).length) : (rowOf c m i)[k] = m i k := by simp [rowOf]
@[simp] theorem gridOf_length (r c : Nat) (m : Nat → Nat → Option Rat) : (gridOf r c m).length = r := by simp [gridOf]
@[simp] theorem gridOf_getE (r c : Nat) (m : Nat → Nat → Option Rat) (i : Nat) (h : i < (gridOf r c m).length) : (gridOf r c m)[i] = rowOf c m i := by simp [gridOf]

theorem sub_remS (b : Int → Option Blk) (g : Int) : Sub (rem b g) b := fun z y hz => by
  rw [rem_apply] at hz
  split at hz
  · cases hz
  · exact hz
theorem newGrid_nw (r c : Nat) (hr : r ≤ 1048576) (hc : c ≤ 1048576) (f : FuncId) (cap : List V) (m : Nat → Nat → Option Rat) (hf : ∀ i k, i < r → k < c → RO Try.prog f (.int .i64 i :: .int .i64 k :: cap) (fv (m i k))) :
    NW Try.prog 155 [.int .i64 r, .int .i64 c, .fn f cap] (dG r c (gridOf r c m)) := by
  refine nw_of Try.func155 rfl rfl (by rw [Try.ntmps155]; simp) fun bl => ?_
  rw [Try.ntmps155, Try.results155]
  refine AW_run ?_
  simp
  intro g6 hg6 hb6
  refine ⟨by omega, by unfold maxLen; omega, fun gc hgc hc6 hbc g7 hg7 => ?_⟩
  intros
  have h7c : ¬ g7 = gc := by assumption
  have h76 : ¬ g7 = g6 := by assumption
  have hb7 : bl g7 = none := by assumption
  try simp [hc6, Ne.symm hc6, h7c, Ne.symm h7c, h76, Ne.symm h76]
  refine AW_for (fun p : Grow => [(1, .int .i64 c), (2, .fn f cap), (6, .loc g6 3 0 0), (7, .loc g7 3 0 0), (16, .lsl gc 1 0 r), (17, .int .i64 r), (18, .int .i64 p.els.length)]) (fun p => p.b)
    (fun p => p.els.length ≤ r ∧ p.b g7 = some ⟨3, [[.int .i64 r, .int .i64 c, .lsl gc 1 0 r]]⟩ ∧ p.b g6 = some ⟨3, [[.int .i64 0, .int .i64 0, .nils]]⟩ ∧ p.b gc = some ⟨1, p.els ++ List.replicate (r - p.els.length) [.nils]⟩ ∧ OwnR p.b 1 (((gridOf r c m).map fun w => [fl 1 (fvs w)]).take p.els.length) p.els p.gs ∧ (gc ∉ p.gs ∧ g6 ∉ p.gs ∧ g7 ∉ p.gs) ∧ (∀ x, x ∈ p.gs → bl x = none) ∧ Sub bl p.b)
    (fun p => r - p.els.length) 50 ⟨[], [], upd (upd (upd bl g6 (some ⟨3, [[.int .i64 0, .int .i64 0, .nils]]⟩)) gc (some ⟨1, List.replicate r [.nils]⟩)) g7 (some ⟨3, [[.int .i64 r, .int .i64 c, .lsl gc 1 0 r]]⟩)⟩
    ⟨Nat.zero_le _, by simp, by simp [hc6, Ne.symm hc6, h76, Ne.symm h76], by simp [h7c, Ne.symm h7c], by simp [OwnR], by simp, by simp, by intro z b hz; simp only [upd_apply] at hz ⊢; grind⟩ ⟨rfl, by simp, by simp⟩ ?_
  rintro ⟨els, gs, b⟩ ⟨hi, hb7', hb6', hbc', ho, ⟨n1, n2, n3⟩, hfr, hs⟩
  simp only at hi hb7' hb6' hbc' ho n1 n2 n3 hfr hs
  refine AW_run ?_
  simp
  refine ⟨fun h => ?_, fun h => ?_⟩
  · refine AW_mixedB mixedO (rem b gc) (sub_remS b gc) [0, 1, 2, 3] 3 (by kernel_rfl) ?_
    simp [Ne.symm h7c, h7c, hb7']
    refine DAny_one (i := 4) (by kernel_rfl) rfl rfl ?_
    simp
    refine ⟨by omega, by unfold maxLen; omega, fun gi hgi hbi => ?_⟩
    have hic : gi ≠ gc := fun e => by rw [e, hbc'] at hbi; cases hbi
    have hi7 : gi ≠ g7 := fun e => by rw [e, hb7'] at hbi; cases hbi
    have hi6 : gi ≠ g6 := fun e => by rw [e, hb6'] at hbi; cases hbi
    have hbi0 : bl gi = none := fresh_of hs hbi
    have hin : gi ∉ gs := ho.not hbi
    have hsi : ∀ X, Sub (rem b gc) (upd b gi X) := fun X z y hz => by rw [rem_apply] at hz; rw [upd_apply]; grind
    have hsi2 : ∀ X Y, Sub (rem b gc) (upd (upd b gi X) gc Y) := fun X Y z y hz => by rw [rem_apply] at hz; rw [upd_apply, upd_apply]; grind
    refine ⟨hsi _, DAny_one (i := 5) (by kernel_rfl) rfl rfl ?_⟩
    simp [h]
    refine ⟨hsi _, DAny_one (i := 6) (by kernel_rfl) rfl rfl ?_⟩
    have gg := grow_set' els [.nils] [.lsl gi 1 0 c] r h
    simp [h, hic, Ne.symm hic, hbc', grow_get els [.nils] r h]
    refine ⟨hsi _, DAny_done (by kernel_rfl) ?_⟩
    rw [gg]
    have q7 : upd (upd b gi (some ⟨1, List.replicate c [.nilp]⟩)) gc (some ⟨1, els ++ [[.lsl gi 1 0 c]] ++ List.replicate (r - (els ++ [[V.lsl gi 1 0 c]]).length) [.nils]⟩) g7 = some ⟨3, [[.int .i64 r, .int .i64 c, .lsl gc 1 0 r]]⟩ := by simp [h7c, Ne.symm hi7, hb7']
    have q6 : upd (upd b gi (some ⟨1, List.replicate c [.nilp]⟩)) gc (some ⟨1, els ++ [[.lsl gi 1 0 c]] ++ List.replicate (r - (els ++ [[V.lsl gi 1 0 c]]).length) [.nils]⟩) g6 = some ⟨3, [[.int .i64 0, .int .i64 0, .nils]]⟩ := by simp [Ne.symm hc6, Ne.symm hi6, hb6']
    have qc : upd (upd b gi (some ⟨1, List.replicate c [.nilp]⟩)) gc (some ⟨1, els ++ [[.lsl gi 1 0 c]] ++ List.replicate (r - (els ++ [[V.lsl gi 1 0 c]]).length) [.nils]⟩) gc = some ⟨1, els ++ [[.lsl gi 1 0 c]] ++ List.replicate (r - (els ++ [[V.lsl gi 1 0 c]]).length) [.nils]⟩ := by simp
    have qi : upd (upd b gi (some ⟨1, List.replicate c [.nilp]⟩)) gc (some ⟨1, els ++ [[.lsl gi 1 0 c]] ++ List.replicate (r - (els ++ [[V.lsl gi 1 0 c]]).length) [.nils]⟩) gi = some ⟨1, List.replicate c [.nilp]⟩ := by simp [hic]
    have qo : ∀ x, x ≠ gi → x ≠ gc → upd (upd b gi (some ⟨1, List.replicate c [.nilp]⟩)) gc (some ⟨1, els ++ [[.lsl gi 1 0 c]] ++ List.replicate (r - (els ++ [[V.lsl gi 1 0 c]]).length) [.nils]⟩) x = b x := fun x e1 e2 => by simp [e1, e2]
    generalize upd (upd b gi (some ⟨1, List.replicate c [.nilp]⟩)) gc (some ⟨1, els ++ [[.lsl gi 1 0 c]] ++ List.replicate (r - (els ++ [[V.lsl gi 1 0 c]]).length) [.nils]⟩) = b1 at *
    have hrow : (els ++ [[V.lsl gi 1 0 c]] ++ List.replicate (r - (els ++ [[V.lsl gi 1 0 c]]).length) [V.nils])[els.length]? = some [.lsl gi 1 0 c] := by simp
    have hrl : els.length < (els ++ [[V.lsl gi 1 0 c]] ++ List.replicate (r - (els ++ [[V.lsl gi 1 0 c]]).length) [V.nils]).length := by simp
    have hre : (els ++ [[V.lsl gi 1 0 c]] ++ List.replicate (r - (els ++ [[V.lsl gi 1 0 c]]).length) [V.nils])[els.length] = [.lsl gi 1 0 c] := by
      rw [List.getElem?_eq_getElem hrl] at hrow; exact Option.some.inj hrow
    generalize hE1 : els ++ [[V.lsl gi 1 0 c]] ++ List.replicate (r - (els ++ [[V.lsl gi 1 0 c]]).length) [V.nils] = E1 at *
    simp [q7, qc, h, hrow, hrl, hre]
    refine AW_for (fun k : Nat => [(1, .int .i64 c), (2, .fn f cap), (6, .loc g6 3 0 0), (7, .loc g7 3 0 0), (8, .int .i64 els.length), (16, .lsl gc 1 0 r), (17, .int .i64 r), (18, .int .i64 els.length), (31, .lsl gi 1 0 c), (32, .int .i64 c), (33, .int .i64 k)]) (fun k => upd b1 gi (some ⟨1, part (fvs (rowOf c m els.length)) [.nilp] k⟩)) (fun k => k ≤ c) (fun k => c - k) 50 0 (Nat.zero_le _) ⟨rfl, by simp, sub_eq ?_⟩ ?_
    · funext x
      simp only [upd_apply]
      split
      · rename_i hx; subst hx; simp [qi]
      · rfl
    intro k hk
    refine AW_run ?_
    simp
    refine ⟨fun hkc => ?_, fun hkc => ?_⟩
    · have hf1 := hf els.length k h hkc
      have hsr : ∀ X, Sub (rem b1 gi) (upd b1 gi X) := fun X z y hz => by rw [rem_apply] at hz; rw [upd_apply]; grind
      refine AW_mixedB mixedO (rem b1 gi) (hsr _) [0, 1, 2, 3, 4, 5, 6, 7, 8, 9, 10] 1 (by kernel_rfl) ?_
      simp [Ne.symm hi7, Ne.symm hic, q7, qc, h, hrow, hrl, hre, callV, hkc]
      refine hcQ_ro hf1 ?_
      simp [hkc]
      have hi' : k < (fvs (rowOf c m els.length)).length := by simpa using hkc
      have hpl : k < (part (fvs (rowOf c m els.length)) [.nilp] k).length := by rw [part_length]; exact hi'
      have hpe : (part (fvs (rowOf c m els.length)) [.nilp] k)[k] = [.nilp] := by
        have := part_get (fvs (rowOf c m els.length)) [.nilp] k hi'
        rw [List.getElem?_eq_getElem hpl] at this; exact Option.some.inj this
      refine DAny_one (i := 11) (by kernel_rfl) rfl rfl ?_
      simp [hkc, hpl, hpe]
      refine ⟨sub_remS _ _, DAny_done (by kernel_rfl) ?_⟩
      simp (disch := omega) [i64_in, loopQ_normal]
      refine ⟨k + 1, by omega, by omega, rfl, by simp, sub_eq ?_⟩
      simp only [upd_idem]
      rw [part_set _ _ _ hi' _ (by simp)]
    · have hkc2 : k = c := by omega
      subst hkc2
      rw [part_all _ _ _ (by simp)]
      simp (disch := omega) [i64_in, loopQ_normal]
      have hgl : els.length < (gridOf r k m).length := by simpa using h
      refine ⟨⟨els ++ [[.lsl gi 1 0 k]], gs ++ [gi], upd b1 gi (some ⟨1, fvs (rowOf k m els.length)⟩)⟩, ⟨by simp; omega, ?_, ?_, ?_, ?_, ?_, ?_, ?_⟩, by simp; omega, rfl, by simp, Sub.refl _⟩
      · simp only [upd_apply]; rw [if_neg (Ne.symm hi7)]; exact q7
      · simp only [upd_apply]; rw [if_neg (Ne.symm hi6)]; exact q6
      · simp only [upd_apply]; rw [if_neg (Ne.symm hic), hE1]; exact qc
      · have ht : ((gridOf r k m).map fun w => [fl 1 (fvs w)]).take (els ++ [[V.lsl gi 1 0 k]]).length = ((gridOf r k m).map fun w => [fl 1 (fvs w)]).take els.length ++ [[fl 1 (fvs (rowOf k m els.length))]] := by
          rw [List.length_append, List.length_singleton, List.take_add_one, List.getElem?_map, List.getElem?_eq_getElem hgl]; simp
        simp only
        rw [ht]
        refine OwnR.snoc (own_single.2 (own_fvs.2 (.inr ⟨gi, by simp, rfl, by simp, by omega⟩))) rfl rfl (ho.keep fun x hx y hy => ?_) fun x hx hx2 => ?_
        · have e1 : x ≠ gi := fun e => hin (e ▸ hx)
          have e2 : x ≠ gc := fun e => n1 (e ▸ hx)
          rw [upd_apply, if_neg e1, qo x e1 e2]; exact hy
        · obtain rfl : x = gi := by simpa using hx2
          exact hin hx
      · simp only [List.mem_append, List.mem_singleton]
        exact ⟨fun h => h.elim n1 (Ne.symm hic), fun h => h.elim n2 (Ne.symm hi6), fun h => h.elim n3 (Ne.symm hi7)⟩
      · intro x hx
        rcases List.mem_append.1 hx with hx | hx
        · exact hfr x hx
        · obtain rfl : x = gi := by simpa using hx
          exact hbi0
      · intro x y hx
        have e1 : x ≠ gi := fun e => by rw [e, hbi0] at hx; cases hx
        have e2 : x ≠ gc := fun e => by rw [e, hbc] at hx; cases hx
        simp only [upd_apply]
        rw [if_neg e1, qo x e1 e2]; exact hs x y hx
  · have hl : els.length = r := by omega
    simp [hb7', hb6']
    refine retNW [.agg [.int .i64 r, .int .i64 c, .lsl gc 1 0 r]] (gc :: gs) (by simp) ?_ (fun x hx => ?_) (hs.upd hb6 _)
    · refine own_g.2 ⟨_, rfl, ?_⟩
      unfold dGr
      rw [OwnD]
      refine .inr ⟨gc, els, gs, by simp, rfl, n1, ?_, by omega, ?_⟩
      · simp only [upd_apply]; rw [if_neg hc6, hbc', hl]; simp
      · rw [hl] at ho
        rw [List.take_of_length_le (by simp)] at ho
        exact ho.frame fun x hx => by simp only [upd_apply]; rw [if_neg (fun e : x = g6 => n2 (e ▸ hx))]
    · rcases List.mem_cons.1 hx with rfl | hx
      · exact hbc
      · exact hfr x hx

end Go.Proofs.Ythhjmaianlmfpaa.Vm

namespace Go.Proofs.Ythhjmaianlmfpaa.Vm
open Go Go.Proofs
set_option linter.unusedSimpArgs false
set_option linter.unusedVariables false

/-! ### Copies that are the call's own -/

theorem jv_clen (ns : List J) : ∀ r, r ∈ jv ns → r.length = 4 := by
  intro r hr
  obtain ⟨n, _, rfl⟩ := List.mem_map.1 hr
  rfl
theorem mv_clen (ns : List Mb) : ∀ r, r ∈ mv ns → r.length = 3 := by
  intro r hr
  obtain ⟨n, _, rfl⟩ := List.mem_map.1 hr
  rfl
theorem jv_ow (ns : List J) : (jv ns).all (fun r => r.all V.ow) = true := by simp [jv, J.c, V.ow]
theorem mv_ow (ns : List Mb) : (mv ns).all (fun r => r.all V.ow) = true := by simp [mv, Mb.c, V.ow]
theorem own_jv {bl : Int → Option Blk} {ns : List J} {v : V} {gs : List Int} : OwnD bl (fl 4 (jv ns)) v gs ↔ (ns = [] ∧ v = .nils ∧ gs = []) ∨ ∃ g, v = .lsl g 4 0 ns.length ∧ gs = [g] ∧ bl g = some ⟨4, jv ns⟩ ∧ (g < 0 → ns = []) := by
  rw [own_fl (jv_cl ns) (jv_clen ns)]
  simp [jv]
theorem own_mv {bl : Int → Option Blk} {ns : List Mb} {v : V} {gs : List Int} : OwnD bl (fl 3 (mv ns)) v gs ↔ (ns = [] ∧ v = .nils ∧ gs = []) ∨ ∃ g, v = .lsl g 3 0 ns.length ∧ gs = [g] ∧ bl g = some ⟨3, mv ns⟩ ∧ (g < 0 → ns = []) := by
  rw [own_fl (mv_cl ns) (mv_clen ns)]
  simp [mv]

theorem toJointS_nw (a : List J) (ha : a.length ≤ 1048576) : NW Try.prog 89 [.sl (jv a)] (fl 4 (jv a)) := by
  refine nw_of Try.func89 rfl rfl (by rw [Try.ntmps89]; simp) fun bl => ?_
  rw [Try.ntmps89, Try.results89]
  refine AW_run ?_
  simp
  refine ⟨by omega, by unfold maxLen; omega, fun g hg0 hg => ?_⟩
  refine AW_for (fun i : Nat => [(0, .sl (jv a)), (3, .lsl g 4 0 a.length), (4, .int .i64 i)]) (fun i => upd bl g (some ⟨4, part (jv a) [.str { data := #[] }, .int .i64 0, .int .i64 0, .bool false] i⟩)) (fun i => i ≤ a.length) (fun i => a.length - i) _ 0 (Nat.zero_le _) ⟨rfl, by simp, sub_eq (by simp)⟩ ?_
  intro i hi
  refine AW_run ?_
  simp
  refine ⟨fun h => ?_, fun h => ?_⟩
  · have hi' : i < (jv a).length := by simpa using h
    simp [h]
    refine callP_ro (toJoint_ro a[i]) ?_
    simp (disch := omega) [h, part_get _ _ _ hi', i64_in, loopQ_normal, J.c]
    refine ⟨i + 1, by omega, by omega, rfl, by simp, sub_eq ?_⟩
    simp only [upd_idem]
    rw [part_set _ _ _ hi']
    simp [J.c]
  · refine retNW [.lsl g 4 0 a.length] [g] (by simp) ?_ (by simpa using hg) (by simp [hg])
    rw [part_all _ _ _ (by simpa using h)]
    exact own_jv.2 (.inr ⟨g, rfl, rfl, by simp, by omega⟩)

theorem toMemberS_nw (a : List Mb) (ha : a.length ≤ 1048576) : NW Try.prog 90 [.sl (mv a)] (fl 3 (mv a)) := by
  refine nw_of Try.func90 rfl rfl (by rw [Try.ntmps90]; simp) fun bl => ?_
  rw [Try.ntmps90, Try.results90]
  refine AW_run ?_
  simp
  refine ⟨by omega, by unfold maxLen; omega, fun g hg0 hg => ?_⟩
  refine AW_for (fun i : Nat => [(0, .sl (mv a)), (3, .lsl g 3 0 a.length), (4, .int .i64 i)]) (fun i => upd bl g (some ⟨3, part (mv a) [.int .i64 0, .int .i64 0, .int .i64 0] i⟩)) (fun i => i ≤ a.length) (fun i => a.length - i) _ 0 (Nat.zero_le _) ⟨rfl, by simp, sub_eq (by simp)⟩ ?_
  intro i hi
  refine AW_run ?_
  simp
  refine ⟨fun h => ?_, fun h => ?_⟩
  · have hi' : i < (mv a).length := by simpa using h
    simp [h]
    refine callP_ro (toMember_ro a[i]) ?_
    simp (disch := omega) [h, part_get _ _ _ hi', i64_in, loopQ_normal, Mb.c]
    refine ⟨i + 1, by omega, by omega, rfl, by simp, sub_eq ?_⟩
    simp only [upd_idem]
    rw [part_set _ _ _ hi']
    simp [Mb.c]
  · refine retNW [.lsl g 3 0 a.length] [g] (by simp) ?_ (by simpa using hg) (by simp [hg])
    rw [part_all _ _ _ (by simpa using h)]
    exact own_mv.2 (.inr ⟨g, rfl, rfl, by simp, by omega⟩)

/-- A structure of the call's own. -/
def dStr (s : Str) : List D := [fl 4 (jv s.js), fl 3 (mv s.ms)]

theorem toStructure_nw (s : Str) (hj : s.js.length ≤ 1048576) (hm : s.ms.length ≤ 1048576) : NW Try.prog 40 [.agg s.c] (.a (dStr s)) := by
  refine nw_of Try.func40 rfl rfl (by rw [Try.ntmps40]; simp) fun bl => ?_
  rw [Try.ntmps40, Try.results40]
  refine AW_run ?_
  simp [Str.c]
  intro g1 hg1 hb1 g2 hg2 h21 hb2
  intro g3 hg3 h32 h31 hb3
  simp [h21, h31, h32, Ne.symm h21, Ne.symm h31, Ne.symm h32]
  refine callP_new (toJointS_nw _ hj) fun v1 gs1 b1 o1 f1 fr1 => ?_
  obtain ⟨c1, c2⟩ := o1.one
  have e1 : ∀ g, g ∈ gs1 → g ≠ g1 ∧ g ≠ g2 ∧ g ≠ g3 ∧ bl g = none := fun g hg => by have := f1 g hg; simp [upd_apply] at this; grind
  have n1 : b1 g1 = _ := fr1 g1 fun h => (e1 g1 h).1 rfl
  have n2 : b1 g2 = _ := fr1 g2 fun h => (e1 g2 h).2.1 rfl
  have n3 : b1 g3 = _ := fr1 g3 fun h => (e1 g3 h).2.2.1 rfl
  simp [h21, h31, h32, Ne.symm h21, Ne.symm h31, Ne.symm h32] at n1 n2 n3
  simp [h21, h31, h32, Ne.symm h21, Ne.symm h31, Ne.symm h32, n1, n2, n3, c1, c2]
  refine callP_new (toMemberS_nw _ hm) fun v2 gs2 b2 o2 f2 fr2 => ?_
  obtain ⟨d1, d2⟩ := o2.one
  have e2 : ∀ g, g ∈ gs2 → g ≠ g3 ∧ b1 g = none := fun g hg => by have := f2 g hg; simp [upd_apply] at this; exact this
  have e3 : ∀ g, g ∈ gs2 → g ∉ gs1 := fun g hg hg1 => by
    obtain ⟨b, hb⟩ := o1.has g hg1
    rw [(e2 g hg).2] at hb; cases hb
  have e4 : ∀ g, g ∈ gs2 → g ≠ g2 := fun g hg h => by have := (e2 g hg).2; rw [h, n2] at this; cases this
  have m1 : b2 g1 = _ := fr2 g1 fun h => by have := (e2 g1 h).2; rw [n1] at this; cases this
  have m2 : b2 g2 = _ := fr2 g2 fun h => by have := (e2 g2 h).2; rw [n2] at this; cases this
  have m3 : b2 g3 = _ := fr2 g3 fun h => (e2 g3 h).1 rfl
  simp [h21, h31, h32, Ne.symm h21, Ne.symm h31, Ne.symm h32, n1, n2] at m1 m2 m3
  simp [h21, h31, h32, Ne.symm h21, Ne.symm h31, Ne.symm h32, m1, m2, m3, d1, d2, c1]
  have k1 : OwnD b2 (fl 4 (jv s.js)) v1 gs1 := o1.frame fun g hg => by
    rw [fr2 g (fun h => e3 g h hg)]
    simp [upd_apply, (e1 g hg).2.2.1]
  have hsub : Sub bl b2 := fun g b hb => by
    have z1 : g ≠ g1 := fun h => by rw [h, hb1] at hb; cases hb
    have z2 : g ≠ g2 := fun h => by rw [h, hb2] at hb; cases hb
    have z3 : g ≠ g3 := fun h => by rw [h, hb3] at hb; cases hb
    have hn1 : g ∉ gs1 := fun h => by rw [(e1 g h).2.2.2] at hb; cases hb
    have hb1 : b1 g = some b := by rw [fr1 g hn1]; simp [upd_apply, z1, z2, z3, hb]
    have hn2 : g ∉ gs2 := fun h => by rw [(e2 g h).2] at hb1; cases hb1
    rw [fr2 g hn2]
    simp [upd_apply, z3, hb1]
  refine retNW [.agg [v1, v2]] (gs1 ++ gs2) ?_ ?_ ?_ ?_
  · simp [h21, h31, h32, Ne.symm h21, Ne.symm h31, Ne.symm h32, m1, m2, m3]
  · show OwnD _ (.a (dStr s)) (.agg [v1, v2]) (gs1 ++ gs2)
    rw [OwnD]
    refine ⟨_, rfl, own_pair.2 ⟨v1, v2, gs1, gs2, rfl, rfl, fun g h1 h2 => e3 g h2 h1, ?_, ?_⟩⟩
    · exact k1.frame fun g hg => by simp [upd_apply, (e1 g hg).2.1, (e1 g hg).2.2.1]
    · exact o2.frame fun g hg => by simp [upd_apply, (e2 g hg).1, e4 g hg]
  · intro g hg
    rcases List.mem_append.1 hg with hg | hg
    · exact (e1 g hg).2.2.2
    · have h2 := (e2 g hg).2
      rw [fr1 g (e3 g hg)] at h2
      simp [upd_apply] at h2
      grind
  · simp [hb2, hb3]; exact hsub

/-- The names and sizes of a structure fit. -/
structure Str.sz (s : Str) : Prop where
  js : s.js.length ≤ 140737488351232
  ms : s.ms.length ≤ 140737488351232
  nm : ∀ j, j ∈ s.js → j.name.size ≤ 140737488351232
theorem frz_str {bl : Int → Option Blk} {s : Str} {vs : List V} {gs : List Int} (h : OwnL bl (dStr s) vs gs) (n : Nat) : frz bl (n + 2) (.agg vs) = some (.agg s.c) := by
  have h1 : OwnD bl (.a (dStr s)) (.agg vs) gs := by rw [OwnD]; exact ⟨vs, rfl, h⟩
  rw [h1.frz (n := n + 2) (by rw [D.dep]; refine ⟨by omega, ?_⟩; simp [dStr, D.depL, fl_dep])]
  simp [D.fz, dStr, D.fzL, Str.c]
theorem dStr_fz (s : Str) : (D.a (dStr s)).fz = .agg s.c := by simp [D.fz, dStr, D.fzL, Str.c]
theorem dStr_dep (s : Str) : (D.a (dStr s)).dep 2 := by
  rw [D.dep]; refine ⟨by omega, ?_⟩; simp [dStr, D.depL, fl_dep]
theorem dStr_sc (s : Str) : (D.a (dStr s)).sc = true := by
  simp [D.sc, dStr, D.scL, fl_sc (jv_ow _), fl_sc (mv_ow _)]
theorem own_agg {bl : Int → Option Blk} {s : Str} {v : V} {gs : List Int} (h : OwnD bl (.a (dStr s)) v gs) : ∃ v1 v2, v = .agg [v1, v2] ∧ OwnL bl (dStr s) [v1, v2] gs ∧ v1.one = true ∧ v1.cells = [v1] ∧ v2.one = true ∧ v2.cells = [v2] := by
  rw [OwnD] at h
  obtain ⟨vs, rfl, o⟩ := h
  obtain ⟨v1, v2, ga, gb, rfl, rfl, hd, o1, o2⟩ := own_pair.1 o
  exact ⟨v1, v2, rfl, o, o1.one.1, o1.one.2, o2.one.1, o2.one.2⟩

end Go.Proofs.Ythhjmaianlmfpaa.Vm

namespace Go.Proofs.Ythhjmaianlmfpaa.Vm
open Go Go.Proofs
set_option linter.unusedSimpArgs false
set_option linter.unusedVariables false

/-! ### Texts of marks -/
def digs (k : Nat) (out : ByteArray) : ByteArray := if h : k = 0 then out else digs (k / 10) (toBytes [IntKind.u8.wrap (IntKind.i64.wrap (48 + (k : Int).tmod 10))] ++ out)
termination_by k
decreasing_by omega
def mtext (k : Nat) : ByteArray := if k = 0 then { data := #[109, 48] } else ({ data := #[109] } : ByteArray) ++ digs k { data := #[] }
theorem digs_step {k : Nat} (h : k ≠ 0) (out : ByteArray) : digs k out = digs (k / 10) (toBytes [IntKind.u8.wrap (IntKind.i64.wrap (48 + (k : Int).tmod 10))] ++ out) := by
  rw [digs, dif_neg h]
theorem digs_zero (out : ByteArray) : digs 0 out = out := by rw [digs, dif_pos rfl]

theorem markText_ro (k : Nat) (hk : k ≤ 4611686018427387904) : RO Try.prog 158 [.int .i64 k] (.str (mtext k)) := by
  refine ro_of2 Try.func158 rfl rfl (by rw [Try.ntmps158]; simp) fun bl => ?_
  rw [Try.ntmps158, Try.results158]
  refine AW_run ?_
  simp
  refine ⟨fun h => ?_, fun h => ?_⟩
  · exact retRO0 (by simp [mtext, h]) rfl rfl
  refine AW_for (fun p : Nat × ByteArray => [(0, .int .i64 p.1), (3, .str p.2)]) (fun _ => bl) (fun p => p.1 + p.2.size ≤ k ∧ digs p.1 p.2 = digs k { data := #[] }) (fun p => p.1) _ (k, { data := #[] }) ⟨by simp [ByteArray.size], rfl⟩ ⟨rfl, by simp, Sub.refl _⟩ ?_
  rintro ⟨n, out⟩ ⟨hn, hd⟩
  simp only at hn hd
  refine AW_run ?_
  simp
  refine ⟨fun h1 => ?_, fun h1 => ?_⟩
  · intro g hg0 hg
    have hsz : ∀ x, (toBytes [x]).size = 1 := fun x => rfl
    simp [cvtV, cvtS, elsV, Int.not_lt.2 hg0, bytesOf]
    have h2 := hsz (IntKind.u8.wrap (IntKind.i64.wrap (48 + (n : Int).tmod 10)))
    refine ⟨by omega, ?_⟩
    simp [loopQ_normal]
    refine ⟨n / 10, toBytes [IntKind.u8.wrap (IntKind.i64.wrap (48 + (n : Int).tmod 10))] ++ out, ⟨?_, ?_⟩, by omega, rfl, ?_, ?_⟩
    · rw [ByteArray.size_append, h2]; omega
    · rw [← hd]; exact (digs_step (by omega) out).symm
    · simp
      exact i64_in (by omega) (by omega)
    · simp [hg]
  · have : n = 0 := by omega
    subst this
    rw [digs_zero] at hd
    subst hd
    have h2 : ({ data := #[109] } : ByteArray).size = 1 := rfl
    simp only [h2]
    refine ⟨by omega, ?_⟩
    exact retRO0 (by simp [mtext, h]) rfl rfl

/-! ### Joints and members -/
def mkJ (k n : Nat) : List J := (List.range n).map fun i => ⟨mtext (k + 4 * i), (k + 4 * i + 1 : Nat), (k + 4 * i + 2 : Nat), ((k + 4 * i + 3 : Nat) : Int).tmod 3 == 0⟩
@[simp] theorem mkJ_length (k n : Nat) : (mkJ k n).length = n := by simp [mkJ]
@[simp] theorem mkJ_getE (k n i : Nat) (h : i < (mkJ k n).length) : (mkJ k n)[i] = ⟨mtext (k + 4 * i), (k + 4 * i + 1 : Nat), (k + 4 * i + 2 : Nat), ((k + 4 * i + 3 : Nat) : Int).tmod 3 == 0⟩ := by simp [mkJ]
def mkM (k n : Nat) : List Mb := (List.range n).map fun i => ⟨(k + 3 * i : Nat), (k + 3 * i + 1 : Nat), (k + 3 * i + 2 : Nat)⟩
@[simp] theorem mkM_length (k n : Nat) : (mkM k n).length = n := by simp [mkM]
@[simp] theorem mkM_getE (k n i : Nat) (h : i < (mkM k n).length) : (mkM k n)[i] = ⟨(k + 3 * i : Nat), (k + 3 * i + 1 : Nat), (k + 3 * i + 2 : Nat)⟩ := by simp [mkM]

theorem upd_self {α β : Type} [DecidableEq α] (f : α → β) (a : α) (b : β) (h : f a = b) : upd f a b = f := by
  funext x
  simp only [upd_apply]
  split
  · rename_i hx; subst hx; exact h.symm
  · rfl

theorem markJointS_cp {bl : Int → Option Blk} {K : V → (Int → Option Blk) → Prop} (xs : List J) (k : Nat) (v : V) (gs : List Int) (h : OwnD bl (fl 4 (jv xs)) v gs) (hk : k + 4 * xs.length ≤ 4611686018427387000)
    (hK : ∀ bl', OwnD bl' (fl 4 (jv (mkJ k xs.length))) v gs → (∀ g, g ∉ gs → bl' g = bl g) → K (.int .i64 (k + 4 * xs.length : Nat)) bl') : CallP Try.prog 105 [v, .int .i64 k] bl K := by
  refine callP_of Try.func105 rfl rfl (by rw [Try.ntmps105]; simp) ?_
  rw [Try.ntmps105, Try.results105]
  refine AW_run ?_
  rcases own_jv.1 h with ⟨rfl, rfl, rfl⟩ | ⟨g, rfl, rfl, hb, hg0⟩
  · simp
    refine AW_for (fun _ : Unit => [(0, .nils), (1, .int .i64 k), (5, .int .i64 0)]) (fun _ => bl) (fun _ => True) (fun _ => 0) _ () trivial ⟨rfl, by simp, Sub.refl _⟩ ?_
    intro _ _
    refine AW_run ?_
    simp
    rw [retK_ret]
    refine ⟨[.int .i64 k], by simp, ?_⟩
    have := hK bl (own_jv.2 (.inl ⟨rfl, rfl, rfl⟩)) (fun _ _ => rfl)
    simpa using this
  · simp
    refine AW_for (fun i : Nat => [(0, .lsl g 4 0 xs.length), (1, .int .i64 (k + 4 * i : Nat)), (5, .int .i64 i)]) (fun i => upd bl g (some ⟨4, over (jv (mkJ k xs.length)) (jv xs) i⟩)) (fun i => i ≤ xs.length) (fun i => xs.length - i) _ 0 (Nat.zero_le _) ⟨rfl, by simp, sub_eq ?_⟩ ?_
    · exact (upd_self _ _ _ (by simpa using hb)).symm
    intro i hi
    refine AW_run ?_
    simp
    refine ⟨fun h1 => ?_, fun h1 => ?_⟩
    · have h2 : i < (jv xs).length := by simpa using h1
      have hge : 0 ≤ g := by
        rcases Int.lt_or_le g 0 with hlt | hge
        · have := hg0 hlt; subst this; simp at h1
        · exact hge
      have hgi := over_get (jv (mkJ k xs.length)) (jv xs) i (by simp) h2
      have hgE := over_getE (jv (mkJ k xs.length)) (jv xs) i (by simp) h2
      have hol : i < (over (jv (mkJ k xs.length)) (jv xs) i).length := by rw [over_length _ _ _ (by simp)]; exact h2
      have hm := markText_ro (k + 4 * i) (by omega)
      simp at hm
      simp [h1]
      refine callP_ro hm ?_
      simp (disch := omega) [h1, hgi, i64_in, J.c, hol, List.getElem?_set_self, List.set_set]
      simp only [loopQ_normal]
      refine ⟨i + 1, by omega, by omega, rfl, by simp; omega, sub_eq ?_⟩
      simp only [upd_idem]
      rw [over_set _ _ _ (by simp) (by simpa using h1) _ (by simp [hgE, J.c, Int.add_assoc])]
    · have hi' : i = xs.length := by omega
      subst hi'
      rw [retK_ret]
      refine ⟨[.int .i64 (k + 4 * xs.length : Nat)], by simp, ?_⟩
      refine hK _ (own_jv.2 (.inr ⟨g, by simp, rfl, ?_, fun h => by have := hg0 h; subst this; rfl⟩)) (fun g' hg' => ?_)
      · simp; rw [over_all _ _ _ (by simp) (by simp)]
      · simp at hg'; simp [hg']

theorem markMemberS_cp {bl : Int → Option Blk} {K : V → (Int → Option Blk) → Prop} (xs : List Mb) (k : Nat) (v : V) (gs : List Int) (h : OwnD bl (fl 3 (mv xs)) v gs) (hk : k + 3 * xs.length ≤ 4611686018427387000)
    (hK : ∀ bl', OwnD bl' (fl 3 (mv (mkM k xs.length))) v gs → (∀ g, g ∉ gs → bl' g = bl g) → K (.int .i64 (k + 3 * xs.length : Nat)) bl') : CallP Try.prog 106 [v, .int .i64 k] bl K := by
  refine callP_of Try.func106 rfl rfl (by rw [Try.ntmps106]; simp) ?_
  rw [Try.ntmps106, Try.results106]
  refine AW_run ?_
  rcases own_mv.1 h with ⟨rfl, rfl, rfl⟩ | ⟨g, rfl, rfl, hb, hg0⟩
  · simp
    refine AW_for (fun _ : Unit => [(0, .nils), (1, .int .i64 k), (5, .int .i64 0)]) (fun _ => bl) (fun _ => True) (fun _ => 0) _ () trivial ⟨rfl, by simp, Sub.refl _⟩ ?_
    intro _ _
    refine AW_run ?_
    simp
    rw [retK_ret]
    refine ⟨[.int .i64 k], by simp, ?_⟩
    have := hK bl (own_mv.2 (.inl ⟨rfl, rfl, rfl⟩)) (fun _ _ => rfl)
    simpa using this
  · simp
    refine AW_for (fun i : Nat => [(0, .lsl g 3 0 xs.length), (1, .int .i64 (k + 3 * i : Nat)), (5, .int .i64 i)]) (fun i => upd bl g (some ⟨3, over (mv (mkM k xs.length)) (mv xs) i⟩)) (fun i => i ≤ xs.length) (fun i => xs.length - i) _ 0 (Nat.zero_le _) ⟨rfl, by simp, sub_eq ?_⟩ ?_
    · exact (upd_self _ _ _ (by simpa using hb)).symm
    intro i hi
    refine AW_run ?_
    simp
    refine ⟨fun h1 => ?_, fun h1 => ?_⟩
    · have h2 : i < (mv xs).length := by simpa using h1
      have hge : 0 ≤ g := by
        rcases Int.lt_or_le g 0 with hlt | hge
        · have := hg0 hlt; subst this; simp at h1
        · exact hge
      have hgi := over_get (mv (mkM k xs.length)) (mv xs) i (by simp) h2
      have hgE := over_getE (mv (mkM k xs.length)) (mv xs) i (by simp) h2
      have hol : i < (over (mv (mkM k xs.length)) (mv xs) i).length := by rw [over_length _ _ _ (by simp)]; exact h2
      simp (disch := omega) [h1, hgi, i64_in, Mb.c, hol, List.getElem?_set_self, List.set_set]
      simp only [loopQ_normal]
      refine ⟨i + 1, by omega, by omega, rfl, by simp; omega, sub_eq ?_⟩
      simp only [upd_idem]
      rw [over_set _ _ _ (by simp) (by simpa using h1) _ (by simp [hgE, Mb.c, Int.add_assoc])]
    · have hi' : i = xs.length := by omega
      subst hi'
      rw [retK_ret]
      refine ⟨[.int .i64 (k + 3 * xs.length : Nat)], by simp, ?_⟩
      refine hK _ (own_mv.2 (.inr ⟨g, by simp, rfl, ?_, fun h => by have := hg0 h; subst this; rfl⟩)) (fun g' hg' => ?_)
      · simp; rw [over_all _ _ _ (by simp) (by simp)]
      · simp at hg'; simp [hg']

/-- The marks of a structure from k on. -/
def mkS (k : Nat) (s : Str) : Str := ⟨mkJ k s.js.length, mkM (k + 4 * s.js.length) s.ms.length⟩
def mkN (k : Nat) (s : Str) : Nat := k + 4 * s.js.length + 3 * s.ms.length

theorem markStructure_cp {bl : Int → Option Blk} {K : V → (Int → Option Blk) → Prop} (s : Str) (k : Nat) (vs : List V) (gs : List Int) (h : OwnL bl (dStr s) vs gs) (hk : mkN k s ≤ 4611686018427387000)
    (hK : ∀ bl', OwnL bl' (dStr (mkS k s)) vs gs → (∀ g, g ∉ gs → ∀ b, bl g = some b → bl' g = some b) → K (.int .i64 (mkN k s : Nat)) bl') : CallP Try.prog 54 [.agg vs, .int .i64 k] bl K := by
  obtain ⟨v, w, g1, g2, rfl, rfl, hd, o1, o2⟩ := own_pair.1 h
  obtain ⟨c1, c2⟩ := o1.one
  obtain ⟨d1, d2⟩ := o2.one
  unfold mkN at hk
  refine callP_of Try.func54 rfl rfl (by rw [Try.ntmps54]; simp) ?_
  rw [Try.ntmps54, Try.results54]
  refine AW_run ?_
  simp [c1, d1]
  intro g hg0 hg
  have f1 : ∀ x, x ∈ g1 → x ≠ g := fun x hx h => by obtain ⟨b, hb⟩ := o1.has x hx; rw [h, hg] at hb; cases hb
  have f2 : ∀ x, x ∈ g2 → x ≠ g := fun x hx h => by obtain ⟨b, hb⟩ := o2.has x hx; rw [h, hg] at hb; cases hb
  refine markJointS_cp s.js k v g1 (o1.frame fun x hx => by simp [f1 x hx]) (by omega) fun b1 p1 q1 => ?_
  have n1 : b1 g = some ⟨2, [[v, w]]⟩ := by rw [q1 g (fun h => f1 g h rfl)]; simp
  have p2 : OwnD b1 (fl 3 (mv s.ms)) w g2 := o2.frame fun x hx => by rw [q1 x (fun h => hd x h hx)]; simp [f2 x hx]
  simp [n1]
  have := markMemberS_cp (bl := b1) (K := K) s.ms (k + 4 * s.js.length) w g2 p2 (by omega)
  refine markMemberS_cp s.ms (k + 4 * s.js.length) w g2 p2 (by omega) fun b2 p3 q3 => ?_
  simp
  rw [retK_ret]
  refine ⟨[_], by simp; rfl, ?_⟩
  have := hK b2 (own_pair.2 ⟨v, w, g1, g2, rfl, rfl, hd, p1.frame fun x hx => q3 x (hd x hx), p3⟩) (fun x hx b hb => ?_)
  · simpa [mkN] using this
  · simp at hx
    rw [q3 x hx.2, q1 x hx.1]
    simp only [upd_apply]
    rw [if_neg (fun e => by subst e; rw [hg] at hb; cases hb)]; exact hb

end Go.Proofs.Ythhjmaianlmfpaa.Vm

namespace Go.Proofs.Ythhjmaianlmfpaa.Vm
open Go Go.Proofs
set_option linter.unusedSimpArgs false
set_option linter.unusedVariables false

end Go.Proofs.Ythhjmaianlmfpaa.Vm

namespace Go.Proofs.Ythhjmaianlmfpaa.Vm
open Go Go.Proofs
set_option linter.unusedSimpArgs false
set_option linter.unusedVariables false


def noLoad (s : Str) : List Int := if sOk s = true then List.replicate (2 * s.js.length) 0 else []

theorem impl_NoLoad_nw (s : Str) (h : s.sz) : NW Try.prog 16 [.agg s.c] (fl 1 (iv (noLoad s))) := by
  have hj := h.js
  refine nw_of Try.func16 rfl rfl (by rw [Try.ntmps16]; simp) fun bl => ?_
  rw [Try.ntmps16, Try.results16]
  refine AW_run ?_
  simp [Str.c]
  intro g hg0 hg
  refine callP_ro (impl_StructureOk_ro s h.js h.ms h.nm) ?_
  simp
  refine ⟨fun h => ?_, fun h => ?_⟩
  · refine retNW [.nils] [] rfl ?_ (by simp) (by simp [hg])
    exact own_iv.2 (.inl ⟨by simp [noLoad, h], rfl, rfl⟩)
  · have h6 := (sOk_of h).nj
    simp (disch := omega) [i64_in]
    refine ⟨2 * s.js.length, by simp, by simp, by omega, by unfold maxLen; omega, fun g1 hg1 hb1 => ?_⟩
    simp at hb1
    obtain ⟨h1g, hb1⟩ := hb1
    simp
    refine retNW [.lsl g1 1 0 (2 * s.js.length)] [g1] (by simp) ?_ (by simpa using hb1) (by simp [hg, hb1])
    refine own_iv.2 (.inr ⟨g1, by simp [noLoad, h], rfl, ?_, by omega⟩)
    simp [noLoad, h, iv]

theorem impl_NoLoad_ro (s : Str) (h : s.sz) : RO Try.prog 16 [.agg s.c] (.sl (iv (noLoad s))) := by
  have := ro_of_nw 1 (impl_NoLoad_nw s h) (fl_dep _ _ 0)
  simpa using this


theorem noLoad_le (s : Str) : (noLoad s).length ≤ 12 := by
  unfold noLoad
  split
  · rename_i h; have := (sOk_of h).nj; simp; omega
  · simp

end Go.Proofs.Ythhjmaianlmfpaa.Vm

namespace Go.Proofs.Ythhjmaianlmfpaa.Vm
open Go Go.Proofs
set_option linter.unusedSimpArgs false
set_option linter.unusedVariables false

def freeL (s : Str) : List Int := if sOk s = true then frees s.js else []
theorem freeL_le (s : Str) : (freeL s).length ≤ 12 := by
  unfold freeL
  split
  · rename_i h; have := (sOk_of h).nj; have := freesTo_le s.js s.js.length; unfold frees; omega
  · simp

theorem freeJoints_ro (s : Str) (hj : s.js.length ≤ 1048576) : RO Try.prog 189 [.ptr s.c] (.sl (iv (frees s.js))) := by
  have := ro_of_nw 1 (freeJoints_nw s hj) (fl_dep _ _ 0)
  simpa using this

theorem l12Free_nw (s : Str) (hj : s.js.length ≤ 1048576) : NW Try.prog 101 [.agg s.c] (fl 1 (iv (frees s.js))) := by
  refine nw_of Try.func101 rfl rfl (by rw [Try.ntmps101]; simp) fun bl => ?_
  rw [Try.ntmps101, Try.results101]
  refine AW_run ?_
  simp [Str.c]
  intro gs hgs0 hgs g00 hg00 hgs1 hb00
  simp [hgs1, Ne.symm hgs1]
  refine AW_for (fun p : Nat × Int => [(3, .lsl p.2 1 0 (freesTo s.js p.1).length), (8, .sl (jv s.js)), (9, .int .i64 s.js.length), (10, .int .i64 p.1)]) (fun p => upd bl p.2 (some ⟨1, iv (freesTo s.js p.1)⟩)) (fun p => p.1 ≤ s.js.length ∧ bl p.2 = none ∧ (p.2 < 0 → freesTo s.js p.1 = [])) (fun p => s.js.length - p.1) _ (0, g00) ⟨Nat.zero_le _, hb00, fun _ => rfl⟩ (by refine ⟨rfl, by simp [freesTo], ?_⟩; exact sub_put (by simp [freesTo, iv]) (by simp [hgs])) ?_
  rintro ⟨i, g⟩ ⟨hi, hg, h0⟩
  simp only at hi hg h0
  have hl := freesTo_le s.js i
  refine AW_run ?_
  simp
  refine ⟨fun h => ?_, fun h => ?_⟩
  · simp [h, J.c]
    intro g1 hg1 h1g hb1
    refine ⟨fun hf => ?_, fun hf => ?_⟩
    · intro g2 hg2 h21 h2g hb2
      simp [h1g, h21, h2g, Ne.symm h1g, Ne.symm h21, Ne.symm h2g, appV, elsV, Int.not_lt.2 hg2]
      refine ⟨by omega, fun g3 hg3 hb3 => ?_⟩
      have hb3' : bl g3 = none := by grind
      simp (disch := omega) [i64_in, loopQ_normal]
      have hjf : (s.js.getD i default).fixed = false := by simpa [h] using hf
      have hs1 : freesTo s.js (i + 1) = freesTo s.js i ++ [(i : Int)] := by rw [freesTo_succ, hjf]; rfl
      refine ⟨i + 1, g3, ⟨by omega, hb3', by omega⟩, by omega, rfl, by simp [hs1], ?_⟩
      rw [hs1, iv_append]
      exact sub_put (by rw [iv_takeall]; rfl) (by simp [hg, hb1, hb2, h1g, h21, h2g])
    · simp (disch := omega) [i64_in, loopQ_normal]
      have hjf : (s.js.getD i default).fixed = true := by simpa [h] using hf
      have hs1 : freesTo s.js (i + 1) = freesTo s.js i := by rw [freesTo_succ, hjf]; simp
      refine ⟨i + 1, g, ⟨by omega, hg, by rw [hs1]; exact h0⟩, by omega, rfl, by simp [hs1], ?_⟩
      rw [hs1]
      simp [hb1, h1g]
  · have hi : i = s.js.length := by omega
    subst hi
    refine retNW [.lsl g 1 0 (freesTo s.js s.js.length).length] [g] (by simp) ?_ (by simpa using hg) (by simp [hg])
    refine own_iv.2 (.inr ⟨g, rfl, rfl, by simp [frees], h0⟩)
theorem l12Free_ro (s : Str) (hj : s.js.length ≤ 1048576) : RO Try.prog 101 [.agg s.c] (.sl (iv (frees s.js))) := by
  have := ro_of_nw 1 (l12Free_nw s hj) (fl_dep _ _ 0)
  simpa using this

def degOf (s : Str) : Int := if sOk s = true then s.ms.length - 2 * (frees s.js).length else 0

end Go.Proofs.Ythhjmaianlmfpaa.Vm

namespace Go.Proofs.Ythhjmaianlmfpaa.Vm
open Go Go.Proofs
set_option linter.unusedSimpArgs false
set_option linter.unusedVariables false

theorem vecX_le (s : Str) (k : Int) : -100 ≤ vecX s k ∧ vecX s k ≤ 100 := by
  unfold vecX
  split
  · rename_i h
    simp at h
    have hs := sOk_of h.2
    obtain ⟨⟨a1, a2⟩, ⟨b1, b2⟩⟩ := hs.ix _ (mat_mem h.1.1 h.1.2)
    have ca := hs.at a1 a2
    have cb := hs.at b1 b2
    unfold vx
    omega
  · omega
theorem vecY_le (s : Str) (k : Int) : -100 ≤ vecY s k ∧ vecY s k ≤ 100 := by
  unfold vecY
  split
  · rename_i h
    simp at h
    have hs := sOk_of h.2
    obtain ⟨⟨a1, a2⟩, ⟨b1, b2⟩⟩ := hs.ix _ (mat_mem h.1.1 h.1.2)
    have ca := hs.at a1 a2
    have cb := hs.at b1 b2
    unfold vy
    omega
  · omega
def sqOf (s : Str) (k : Int) : Int := IntKind.i64.wrap (IntKind.i64.wrap (vecX s k * vecX s k) + IntKind.i64.wrap (vecY s k * vecY s k))
end Go.Proofs.Ythhjmaianlmfpaa.Vm

namespace Go.Proofs.Ythhjmaianlmfpaa.Vm
open Go Go.Proofs
set_option linter.unusedSimpArgs false
set_option linter.unusedVariables false

/-- A number of a load. -/
def lat (l : List Int) (i : Nat) : Int := l.getD i 0
theorem iv_at {l : List Int} {i : Nat} (h : i < l.length) : (iv l)[i]? = some [.int .i64 (lat l i)] := by simp [lat, h]
structure LOk (s : Str) (l : List Int) : Prop where
  sok : SOk s
  n : l.length = 2 * s.js.length
  f : ∀ i, i < l.length → -100 ≤ lat l i ∧ lat l i ≤ 100
theorem fitsL_of {js : List J} {l : List Int} (h : fitsL js l = true) : l.length = 2 * js.length ∧ ∀ i, i < l.length → -100 ≤ lat l i ∧ lat l i ≤ 100 := by
  unfold fitsL at h
  simp only [Bool.and_eq_true, decide_eq_true_eq] at h
  refine ⟨h.1, fun i hi => ?_⟩
  have := List.all_eq_true.1 h.2 l[i] (List.getElem_mem hi)
  simp [forceOk] at this
  simpa [lat, hi] using this
theorem lOk_of {s : Str} {l : List Int} (h : lOk s l = true) : LOk s l := by
  unfold lOk at h
  simp only [Bool.and_eq_true] at h
  obtain ⟨h1, h2⟩ := fitsL_of h.2
  exact ⟨sOk_of h.1, h1, h2⟩

def sumX (l : List Int) : Nat → Int
  | 0 => 0
  | n + 1 => sumX l n + lat l (2 * n)
def sumY (l : List Int) : Nat → Int
  | 0 => 0
  | n + 1 => sumY l n + lat l (2 * n + 1)
theorem sumX_le {s : Str} {l : List Int} (h : LOk s l) : ∀ n, n ≤ s.js.length → -(100 * n : Int) ≤ sumX l n ∧ sumX l n ≤ 100 * n
  | 0, _ => by simp [sumX]
  | n + 1, hn => by
    have := sumX_le h n (by omega)
    have := h.f (2 * n) (by have := h.n; omega)
    simp only [sumX]; omega
theorem sumY_le {s : Str} {l : List Int} (h : LOk s l) : ∀ n, n ≤ s.js.length → -(100 * n : Int) ≤ sumY l n ∧ sumY l n ≤ 100 * n
  | 0, _ => by simp [sumY]
  | n + 1, hn => by
    have := sumY_le h n (by omega)
    have := h.f (2 * n + 1) (by have := h.n; omega)
    simp only [sumY]; omega
def totX (s : Str) (l : List Int) : Int := if lOk s l = true then sumX l s.js.length else 0
def totY (s : Str) (l : List Int) : Int := if lOk s l = true then sumY l s.js.length else 0

theorem impl_TotalOf_ro (s : Str) (l : List Int) (hs : s.sz) (hl : l.length ≤ 140737488351232) : RO Try.prog 17 [.agg s.c, .sl (iv l)] (.tup [.int .i64 (totX s l), .int .i64 (totY s l)]) := by
  refine ro_of2 Try.func17 rfl rfl (by rw [Try.ntmps17]; simp) fun bl => ?_
  rw [Try.ntmps17, Try.results17]
  refine AW_run ?_
  simp [Str.c]
  intro g hg0 hg
  refine callP_ro (impl_LoadOk_ro s l hs.js hs.ms hs.nm hl) ?_
  simp
  refine ⟨fun h => ?_, fun h => ?_⟩
  · exact retRO [_, _] 1 rfl (by simp [frz, V.cl, totX, totY, h]) (by simp [hg])
  have h0 := lOk_of h
  have h6 := h0.sok.nj
  have hn := h0.n
  refine AW_for (fun i : Nat => [(1, .sl (iv l)), (6, .int .i64 (sumX l i)), (7, .int .i64 (sumY l i)), (14, .sl (jv s.js)), (15, .int .i64 s.js.length), (16, .int .i64 i)]) (fun _ => bl) (fun i => i ≤ s.js.length) (fun i => s.js.length - i) _ 0 (Nat.zero_le _) ⟨rfl, by simp [sumX, sumY], by simp [hg]⟩ ?_
  intro i hi
  have bx := sumX_le h0 i hi
  have by' := sumY_le h0 i hi
  refine AW_run ?_
  simp
  refine ⟨fun h1 => ?_, fun h1 => ?_⟩
  · have f1 := h0.f (2 * i) (by omega)
    have f2 := h0.f (2 * i + 1) (by omega)
    have e1 : (2 * (i : Int)).toNat = 2 * i := by omega
    have e2 : (2 * (i : Int) + 1).toNat = 2 * i + 1 := by omega
    have e3 : (0 : Int) ≤ 2 * (i : Int) := by omega
    have e4 : (0 : Int) ≤ 2 * (i : Int) + 1 := by omega
    simp (disch := omega) [-iv_get, h1, i64_in, e1, e2, e3, e4, iv_at]
    simp only [loopQ_normal]
    exact ⟨i + 1, by omega, by omega, rfl, by simp [sumX, sumY], by simp⟩
  · have : i = s.js.length := by omega
    subst this
    exact retRO [_, _] 1 rfl (by simp [frz, V.cl, totX, totY, h]) (Sub.refl _)

def momTo (s : Str) (l : List Int) (x y : Int) : Nat → Int
  | 0 => 0
  | n + 1 => momTo s l x y n + ((jat s.js n).x - x) * lat l (2 * n + 1) - ((jat s.js n).y - y) * lat l (2 * n)
theorem mul_le {a b p q : Int} (ha : -p ≤ a ∧ a ≤ p) (hb : -q ≤ b ∧ b ≤ q) : -(p * q) ≤ a * b ∧ a * b ≤ p * q := by
  have hp : 0 ≤ p := by omega
  have hq : 0 ≤ q := by omega
  have h1 : a.natAbs ≤ p.natAbs := by omega
  have h2 : b.natAbs ≤ q.natAbs := by omega
  have h3 : (a * b).natAbs ≤ (p * q).natAbs := by rw [Int.natAbs_mul, Int.natAbs_mul]; exact Nat.mul_le_mul h1 h2
  have h4 : 0 ≤ p * q := Int.mul_nonneg hp hq
  omega
theorem mom_step {s : Str} {l : List Int} {x y : Int} (h : LOk s l) (hx : -1000 ≤ x ∧ x ≤ 1000) (hy : -1000 ≤ y ∧ y ≤ 1000) {n : Nat} (hn : n < s.js.length) :
    (-1050 ≤ (jat s.js n).x - x ∧ (jat s.js n).x - x ≤ 1050) ∧ (-1050 ≤ (jat s.js n).y - y ∧ (jat s.js n).y - y ≤ 1050) ∧
    (-105000 ≤ ((jat s.js n).x - x) * lat l (2 * n + 1) ∧ ((jat s.js n).x - x) * lat l (2 * n + 1) ≤ 105000) ∧ (-105000 ≤ ((jat s.js n).y - y) * lat l (2 * n) ∧ ((jat s.js n).y - y) * lat l (2 * n) ≤ 105000) := by
  have c := h.sok.at (n := n) (by omega) (by omega)
  have f1 := h.f (2 * n) (by have := h.n; omega)
  have f2 := h.f (2 * n + 1) (by have := h.n; omega)
  have a1 : -1050 ≤ (jat s.js n).x - x ∧ (jat s.js n).x - x ≤ 1050 := by omega
  have a2 : -1050 ≤ (jat s.js n).y - y ∧ (jat s.js n).y - y ≤ 1050 := by omega
  have m1 := mul_le a1 f2
  have m2 := mul_le a2 f1
  refine ⟨a1, a2, ?_, ?_⟩ <;> omega
theorem mom_le {s : Str} {l : List Int} {x y : Int} (h : LOk s l) (hx : -1000 ≤ x ∧ x ≤ 1000) (hy : -1000 ≤ y ∧ y ≤ 1000) : ∀ n, n ≤ s.js.length → -(210000 * n : Int) ≤ momTo s l x y n ∧ momTo s l x y n ≤ 210000 * n
  | 0, _ => by simp [momTo]
  | n + 1, hn => by
    have := mom_le h hx hy n (by omega)
    have := mom_step h hx hy (n := n) (by omega)
    simp only [momTo]; omega
def momOk (s : Str) (l : List Int) (x y : Int) : Bool := lOk s l && (decide (-1000 ≤ x) && decide (x ≤ 1000)) && (decide (-1000 ≤ y) && decide (y ≤ 1000))
def momOf (s : Str) (l : List Int) (x y : Int) : Int := if momOk s l x y = true then momTo s l x y s.js.length else 0
theorem jat_nat {js : List J} {i : Nat} (h : i < js.length) : jat js i = js[i] := by simp [jat, h]

theorem impl_MomentOf_ro (s : Str) (l : List Int) (x y : Int) (hs : s.sz) (hl : l.length ≤ 140737488351232) : RO Try.prog 19 [.agg s.c, .sl (iv l), .int .i64 x, .int .i64 y] (.int .i64 (momOf s l x y)) := by
  refine ro_of2 Try.func19 rfl rfl (by rw [Try.ntmps19]; simp) fun bl => ?_
  rw [Try.ntmps19, Try.results19]
  refine AW_run ?_
  simp [Str.c]
  intro g hg0 hg
  refine AW_way0 [(1, .sl (iv l)), (2, .int .i64 x), (3, .int .i64 y), (4, .loc g 2 0 0)] _ _ 31 (.bool (!momOk s l x y)) ⟨rfl, by simp, Sub.refl _⟩ rfl ?_ ?_
  · simp
    refine callP_ro (impl_LoadOk_ro s l hs.js hs.ms hs.nm hl) ?_
    simp [momOk]
    refine ⟨fun h => by simp [h], fun h => ?_⟩
    simp [h]
    grind
  simp
  refine ⟨fun h => ?_, fun h => ?_⟩
  · exact retRO [_] 0 rfl (by simp [frz, momOf, h]) (by simp [hg])
  have hh := h
  unfold momOk at hh
  simp only [Bool.and_eq_true, decide_eq_true_eq] at hh
  obtain ⟨⟨hlo, hx⟩, hy⟩ := hh
  have h0 := lOk_of hlo
  have h6 := h0.sok.nj
  have hn := h0.n
  refine AW_for (fun i : Nat => [(1, .sl (iv l)), (2, .int .i64 x), (3, .int .i64 y), (9, .int .i64 (momTo s l x y i)), (33, .sl (jv s.js)), (34, .int .i64 s.js.length), (35, .int .i64 i)]) (fun _ => bl) (fun i => i ≤ s.js.length) (fun i => s.js.length - i) _ 0 (Nat.zero_le _) ⟨rfl, by simp [momTo], by simp [hg]⟩ ?_
  intro i hi
  have bm := mom_le h0 hx hy i hi
  refine AW_run ?_
  simp
  refine ⟨fun h1 => ?_, fun h1 => ?_⟩
  · have st := mom_step h0 hx hy h1
    rw [jat_nat h1] at st
    have e1 : (2 * (i : Int)).toNat = 2 * i := by omega
    have e2 : (2 * (i : Int) + 1).toNat = 2 * i + 1 := by omega
    have e3 : (0 : Int) ≤ 2 * (i : Int) := by omega
    have e4 : (0 : Int) ≤ 2 * (i : Int) + 1 := by omega
    simp [h1, J.c]
    intro g1 hg1 hb1
    refine AW_quiet mixedO (by kernel_rfl) ?_
    have w1 : IntKind.i64.wrap (2 * (i : Int)) = 2 * i := i64_in (by omega) (by omega)
    have w2 : IntKind.i64.wrap (2 * (i : Int) + 1) = 2 * i + 1 := i64_in (by omega) (by omega)
    have q1 := iv_at (l := l) (i := 2 * i) (by omega)
    have q2 := iv_at (l := l) (i := 2 * i + 1) (by omega)
    simp [-iv_get, h1, w1, w2, q1, q2, e1, e2, e3, e4]
    simp (disch := omega) [i64_in]
    simp only [loopQ_normal]
    refine ⟨i + 1, by omega, by omega, rfl, ?_, by simp [hb1]⟩
    simp [momTo, jat_nat h1]
    omega
  · have : i = s.js.length := by omega
    subst this
    exact retRO [_] 0 rfl (by simp [frz, momOf, h]) (Sub.refl _)

end Go.Proofs.Ythhjmaianlmfpaa.Vm

namespace Go.Proofs.Ythhjmaianlmfpaa.Vm
open Go Go.Proofs
set_option linter.unusedSimpArgs false
set_option linter.unusedVariables false

theorem any_eq (l : List Int) (k : Int) : (l.any fun x => decide (k = x)) = decide (k ∈ l) := by
  rw [Bool.eq_iff_iff]; simp

end Go.Proofs.Ythhjmaianlmfpaa.Vm

namespace Go.Proofs.Ythhjmaianlmfpaa.Vm
open Go Go.Proofs
set_option linter.unusedSimpArgs false
set_option linter.unusedVariables false

/-- The members before n whose numbers are not in a list. -/
def keptTo (ms : List Mb) (l : List Int) (n : Nat) : List Mb := ((List.range n).filter fun (i : Nat) => !decide ((i : Int) ∈ l)).map fun (i : Nat) => ms.getD i default
theorem keptTo_succ (ms : List Mb) (l : List Int) (n : Nat) : keptTo ms l (n + 1) = keptTo ms l n ++ if (n : Int) ∈ l then [] else [ms.getD n default] := by
  unfold keptTo
  rw [List.range_succ, List.filter_append, List.map_append]
  congr 1
  by_cases h : (n : Int) ∈ l <;> simp only [List.filter_cons, List.filter_nil, h] <;> simp
theorem keptTo_le (ms : List Mb) (l : List Int) (n : Nat) : (keptTo ms l n).length ≤ n := by
  unfold keptTo
  rw [List.length_map]
  exact Nat.le_trans (List.length_filter_le _ _) (by simp)
theorem mv_append (a b : List Mb) : mv (a ++ b) = mv a ++ mv b := by simp [mv]
theorem mv_takeall (ns : List Mb) : (mv ns).take ns.length = mv ns := by rw [← mv_length ns, List.take_length]
def without (s : Str) (l : List Int) : Str := ⟨s.js, keptTo s.ms l s.ms.length⟩

end Go.Proofs.Ythhjmaianlmfpaa.Vm

namespace Go.Proofs.Ythhjmaianlmfpaa.Vm
open Go Go.Proofs
set_option linter.unusedSimpArgs false
set_option linter.unusedVariables false

end Go.Proofs.Ythhjmaianlmfpaa.Vm

namespace Go.Proofs.Ythhjmaianlmfpaa.Vm
open Go Go.Proofs
set_option linter.unusedSimpArgs false
set_option linter.unusedVariables false





/-! ### Lists of lists of numbers -/
def ivv (ws : List (List Int)) : List (List V) := ws.map fun w => [.sl (iv w)]
def dII (ws : List (List Int)) : D := .s 1 (ws.map fun w => [fl 1 (iv w)])
@[simp] theorem ivv_length (ws : List (List Int)) : (ivv ws).length = ws.length := by simp [ivv]
@[simp] theorem ivv_getE (ws : List (List Int)) (i : Nat) (h : i < (ivv ws).length) : (ivv ws)[i] = [.sl (iv (ws[i]'(by simpa using h)))] := by simp [ivv]
theorem dII_fz (ws : List (List Int)) : (dII ws).fz = .sl (ivv ws) := by
  unfold dII ivv
  rw [D.fz, fzR_map, List.map_map]
  congr 1
  exact List.map_congr_left fun w _ => by simp
theorem dII_dep (ws : List (List Int)) : (dII ws).dep 2 := by
  unfold dII
  rw [D.dep]
  refine ⟨by omega, ?_⟩
  induction ws with
  | nil => simp [D.depR]
  | cons w ws ih => simp [D.depR, D.depL, fl_dep] at ih ⊢; exact ih
theorem frz_ivv {bl : Int → Option Blk} {ws : List (List Int)} {v : V} {gs : List Int} (h : OwnD bl (dII ws) v gs) (n : Nat) : frz bl (n + 2) v = some (.sl (ivv ws)) := by
  have hd : (dII ws).dep (n + 2) := by
    unfold dII
    rw [D.dep]
    refine ⟨by omega, ?_⟩
    clear h
    induction ws with
    | nil => simp [D.depR]
    | cons w ws ih => simp [D.depR, D.depL, fl_dep] at ih ⊢; exact ih
  rw [h.frz hd, dII_fz]


end Go.Proofs.Ythhjmaianlmfpaa.Vm

namespace Go.Proofs.Ythhjmaianlmfpaa.Vm
open Go Go.Proofs
set_option linter.unusedSimpArgs false
set_option linter.unusedVariables false

def rowX (s : Str) (j : Int) : List Int := s.ms.map (eqX s j)
def rowY (s : Str) (j : Int) : List Int := s.ms.map (eqY s j)
def eqRows (s : Str) : List (List Int) := (frees s.js).flatMap fun j => [rowX s j, rowY s j]
def eqTo (s : Str) (n : Nat) : List (List Int) := ((frees s.js).take n).flatMap fun j => [rowX s j, rowY s j]
theorem eqTo_succ (s : Str) (n : Nat) (h : n < (frees s.js).length) : eqTo s (n + 1) = eqTo s n ++ [rowX s (frees s.js)[n], rowY s (frees s.js)[n]] := by
  unfold eqTo
  rw [List.take_add_one, List.getElem?_eq_getElem h, List.flatMap_append]
  simp
theorem eqTo_length (s : Str) : ∀ n, n ≤ (frees s.js).length → (eqTo s n).length = 2 * n
  | 0, _ => by simp [eqTo]
  | n + 1, h => by
    rw [eqTo_succ s n (by omega), List.length_append, eqTo_length s n (by omega)]
    simp; omega
@[simp] theorem rowX_length (s : Str) (j : Int) : (rowX s j).length = s.ms.length := by simp [rowX]
@[simp] theorem rowY_length (s : Str) (j : Int) : (rowY s j).length = s.ms.length := by simp [rowY]
theorem mat_nat {s : Str} {k : Nat} (h : k < s.ms.length) : mat s k = s.ms[k] := by simp [mat, h]
theorem v_le {s : Str} (hs : SOk s) {m : Mb} (hm : m ∈ s.ms) : (-100 ≤ vx s m ∧ vx s m ≤ 100) ∧ (-100 ≤ vy s m ∧ vy s m ≤ 100) := by
  obtain ⟨⟨a1, a2⟩, ⟨b1, b2⟩⟩ := hs.ix _ hm
  have ca := hs.at a1 a2
  have cb := hs.at b1 b2
  unfold vx vy
  omega

structure GrowG where
  i : Nat
  g : Int
  els : List (List V)
  gs : List Int
  b : Int → Option Blk

theorem part_next (xs : List (List V)) (z : List V) (i : Nat) (h : i < xs.length) (hz : xs[i] = z) : part xs z i = part xs z (i + 1) := by
  rw [← part_set xs z i h z hz.symm]
  have := part_get xs z i h
  apply List.ext_getElem?
  intro j
  rw [List.getElem?_set]
  split
  · rename_i e; subst e; rw [if_pos (by rw [part_length]; exact h)]; exact this
  · rfl

def eqInv (bl : Int → Option Blk) (s : Str) (p : GrowG) : Prop :=
  p.i ≤ (frees s.js).length ∧ p.b p.g = some ⟨1, p.els⟩ ∧ p.els.length = 2 * p.i ∧ OwnR p.b 1 ((eqTo s p.i).map fun w => [fl 1 (iv w)]) p.els p.gs ∧ p.g ∉ p.gs ∧ bl p.g = none ∧ (∀ x, x ∈ p.gs → bl x = none) ∧ Sub bl p.b ∧ (p.g < 0 → p.els = [])

theorem eqInv_next {bl : Int → Option Blk} {s : Str} {i : Nat} {g : Int} {els : List (List V)} {gs : List Int} {b : Int → Option Blk} (H : eqInv bl s ⟨i, g, els, gs, b⟩) (h : i < (frees s.js).length)
    {ga gb gp gn : Int} (hga : 0 ≤ ga) (hba : b ga = none) (hgb : 0 ≤ gb) (hab : ¬gb = ga) (hbb : b gb = none) (hpa : ¬gp = ga) (hpb : ¬gp = gb) (hbp : b gp = none) (hgn : 0 ≤ gn)
    (hbn : ¬gn = g → ¬gn = gp ∧ ¬gn = gb ∧ ¬gn = ga ∧ b gn = none) :
    eqInv bl s ⟨i + 1, gn, els ++ [[.lsl ga 1 0 s.ms.length]] ++ [[.lsl gb 1 0 s.ms.length]], gs ++ [ga] ++ [gb],
      upd (rem (upd (upd (upd b ga (some ⟨1, iv (rowX s (frees s.js)[i])⟩)) gb (some ⟨1, iv (rowY s (frees s.js)[i])⟩)) gp (some ⟨1, [[.lsl ga 1 0 s.ms.length], [.lsl gb 1 0 s.ms.length]]⟩)) g) gn
        (some ⟨1, els.take (2 * i) ++ [[.lsl ga 1 0 s.ms.length], [.lsl gb 1 0 s.ms.length]]⟩)⟩ := by
  obtain ⟨hi, hb, hel, ho, hn, hg, hf, hsb, hneg⟩ := H
  simp only at hi hb hel ho hn hg hf hsb hneg
  have nga : ga ≠ g := fun e => by rw [e, hb] at hba; cases hba
  have ngb : gb ≠ g := fun e => by rw [e, hb] at hbb; cases hbb
  have ngp : gp ≠ g := fun e => by rw [e, hb] at hbp; cases hbp
  have fa := fresh_of hsb hba
  have fb := fresh_of hsb hbb
  have fp := fresh_of hsb hbp
  have na : gn ≠ ga := fun e => by
    by_cases c : gn = g
    · exact nga (e.symm.trans c)
    · exact (hbn c).2.2.1 e
  have nb : gn ≠ gb := fun e => by
    by_cases c : gn = g
    · exact ngb (e.symm.trans c)
    · exact (hbn c).2.1 e
  have fn : bl gn = none := by
    by_cases c : gn = g
    · rw [c]; exact hg
    · exact fresh_of hsb (hbn c).2.2.2
  have nn : gn ∉ gs := by
    by_cases c : gn = g
    · rw [c]; exact hn
    · exact ho.not (hbn c).2.2.2
  have key : ∀ (B : Int → Option Blk) (u v w z : Option Blk), B = upd (rem (upd (upd (upd b ga u) gb v) gp w) g) gn z → ∀ x y, x ≠ g → x ≠ gn → b x = some y → B x = some y := by
    intro B u v w z hB x y c1 c2 hx
    have c3 : x ≠ ga := fun e => by rw [e, hba] at hx; cases hx
    have c4 : x ≠ gb := fun e => by rw [e, hbb] at hx; cases hx
    have c5 : x ≠ gp := fun e => by rw [e, hbp] at hx; cases hx
    rw [hB]; simp [c1, c2, c3, c4, c5, hx]
  have vx1 : ∀ xs : List Int, (iv xs).all (fun r => r.all V.cl) = true := fun xs => by simp [iv, V.cl]
  have vx2 : ∀ (xs : List Int) r, r ∈ iv xs → r.length = 1 := fun xs r hr => by
    simp [iv] at hr
    obtain ⟨_, _, rfl⟩ := hr; rfl
  have et : els.take (2 * i) = els := List.take_of_length_le (by omega)
  refine ⟨by simp only; omega, by simp [et], by simp [hel]; omega, ?_, ?_, fn, ?_, ?_, fun e => by simp only at e; omega⟩
  · simp only
    rw [eqTo_succ s i h, List.map_append, show (∀ (A : List (List D)) (x y : List Int), A ++ [x, y].map (fun w => [fl 1 (iv w)]) = A ++ [[fl 1 (iv x)]] ++ [[fl 1 (iv y)]]) from fun A x y => by simp]
    generalize hB : upd (rem (upd (upd (upd b ga (some ⟨1, iv (rowX s (frees s.js)[i])⟩)) gb (some ⟨1, iv (rowY s (frees s.js)[i])⟩)) gp (some ⟨1, [[.lsl ga 1 0 s.ms.length], [.lsl gb 1 0 s.ms.length]]⟩)) g) gn
        (some ⟨1, els.take (2 * i) ++ [[.lsl ga 1 0 s.ms.length], [.lsl gb 1 0 s.ms.length]]⟩) = B
    have o0 := ho.keep fun x hx y hy => key _ _ _ _ _ hB.symm x y (fun e => hn (e ▸ hx)) (fun e => nn (e ▸ hx)) hy
    have oa : OwnD B (fl 1 (iv (rowX s (frees s.js)[i]))) (.lsl ga 1 0 s.ms.length) [ga] := (own_fl (vx1 _) (vx2 _)).2 (.inr ⟨ga, by simp, rfl, by rw [← hB]; simp [Ne.symm na, Ne.symm hpa, Ne.symm hab, nga], by omega⟩)
    have ob : OwnD B (fl 1 (iv (rowY s (frees s.js)[i]))) (.lsl gb 1 0 s.ms.length) [gb] := (own_fl (vx1 _) (vx2 _)).2 (.inr ⟨gb, by simp, rfl, by rw [← hB]; simp [Ne.symm nb, Ne.symm hpb, ngb], by omega⟩)
    refine OwnR.snoc (own_single.2 ob) rfl (by simp) (OwnR.snoc (own_single.2 oa) rfl (by simp) o0 ?_) ?_
    · intro x hx hx2
      rw [List.mem_singleton] at hx2
      exact ho.not hba (hx2 ▸ hx)
    · intro x hx hx2
      rw [List.mem_singleton] at hx2
      subst hx2
      rcases List.mem_append.1 hx with hx | hx
      · exact ho.not hbb hx
      · rw [List.mem_singleton] at hx; exact hab hx
  · simp [nn, na, nb]
  · intro x hx
    simp at hx
    rcases hx with hx | hx | hx
    · exact hf x hx
    · rw [hx]; exact fa
    · rw [hx]; exact fb
  · intro x y hx
    exact key _ _ _ _ _ rfl x y (fun e => by rw [e, hg] at hx; cases hx) (fun e => by rw [e, fn] at hx; cases hx) (hsb x y hx)

set_option maxHeartbeats 2000000 in
theorem equilibrium_nw (s : Str) (hs : SOk s) : NW Try.prog 154 [.ptr s.c] (dII (eqRows s)) := by
  have h6 := hs.nj
  have h8 := hs.nm
  have hfr := freesTo_le s.js s.js.length
  change (frees s.js).length ≤ s.js.length at hfr
  refine nw_of Try.func154 rfl rfl (by rw [Try.ntmps154]; simp) fun bl => ?_
  rw [Try.ntmps154, Try.results154]
  refine AW_run ?_
  simp
  refine callP_ro (freeJoints_ro s (by omega)) ?_
  simp
  refine AW_ghost 3 1 (by simp) fun g00 hg00 => ?_
  simp at hg00
  refine AW_for (fun p : GrowG => [(0, .ptr s.c), (3, .lsl p.g 1 0 (2 * p.i)), (13, .sl (iv (frees s.js))), (14, .int .i64 (frees s.js).length), (15, .int .i64 p.i)]) (fun p => p.b)
    (eqInv bl s)
    (fun p => (frees s.js).length - p.i) 82 ⟨0, g00, [], [], upd bl g00 (some ⟨1, []⟩)⟩ ⟨Nat.zero_le _, by simp, rfl, by simp [eqTo, OwnR], by simp, hg00, by simp, by simp [hg00], fun _ => rfl⟩ ⟨rfl, by simp, by simp⟩ ?_
  rintro ⟨i, g, els, gs, b⟩ ⟨hi, hb, hel, ho, hn, hg, hf, hsb, hneg⟩
  simp only at hi hb hel ho hn hg hf hsb hneg
  refine AW_run ?_
  simp
  refine ⟨fun h => ?_, fun h => ?_⟩
  · have q := iv_get (frees s.js) i h
    simp [h]
    obtain ⟨j, hj⟩ : ∃ j, (frees s.js)[i] = j := ⟨_, rfl⟩
    rw [hj]
    refine AW_mixed mixedO [0, 1, 2, 3, 4, 6, 7, 8, 9, 10] 4 (by kernel_rfl) ?_
    simp [Str.c]
    refine DAny_two (i := 5) (j := 11) (by kernel_rfl) rfl rfl rfl rfl ?_ ?_
    · simp
      refine ⟨by omega, by unfold maxLen; omega, fun ga hga hba => ⟨by simp [hba], ?_⟩⟩
      refine DAny_two (i := 11) (j := 12) (by kernel_rfl) rfl rfl rfl rfl ?_ ?_
      · simp
        refine ⟨by omega, by unfold maxLen; omega, fun gb hgb hab hbb => ⟨by simp [hba, hbb, hab], ?_⟩⟩
        refine DAny_one (i := 12) (by kernel_rfl) rfl rfl ?_
        simp
        refine ⟨by simp [hba, hbb, hab], DAny_one (i := 13) (by kernel_rfl) rfl rfl ?_⟩
        simp
        refine ⟨by simp [hba, hbb, hab], DAny_done (by kernel_rfl) ?_⟩
        simp [Str.c]
        -- the state behind the region
        have nga : ga ≠ g := fun e => by rw [e, hb] at hba; cases hba
        have ngb : gb ≠ g := fun e => by rw [e, hb] at hbb; cases hbb
        have fa := fresh_of hsb hba
        have fb := fresh_of hsb hbb
        have er : List.replicate s.ms.length [V.int IntKind.i64 0] = part (iv (rowX s j)) [.int .i64 0] 0 := by simp
        have er' : List.replicate s.ms.length [V.int IntKind.i64 0] = part (iv (rowY s j)) [.int .i64 0] 0 := by simp
        refine AW_for (fun k : Nat => [(0, .ptr s.c), (3, .lsl g 1 0 (2 * i)), (5, .int .i64 j), (6, .lsl ga 1 0 s.ms.length), (7, .lsl gb 1 0 s.ms.length), (13, .sl (iv (frees s.js))), (14, .int .i64 (frees s.js).length), (15, .int .i64 i), (34, .sl (mv s.ms)), (35, .int .i64 s.ms.length), (36, .int .i64 k)])
          (fun k => upd (upd b ga (some ⟨1, part (iv (rowX s j)) [.int .i64 0] k⟩)) gb (some ⟨1, part (iv (rowY s j)) [.int .i64 0] k⟩)) (fun k => k ≤ s.ms.length) (fun k => s.ms.length - k) 82 0 (Nat.zero_le _) ⟨rfl, by simp [Str.c], ?_⟩ ?_
        · intro x y hx
          simp only [upd_apply, part_zero, iv_length, rowX_length, rowY_length] at hx ⊢
          grind
        intro k hk
        refine AW_run ?_
        simp
        refine ⟨fun hkl => ?_, fun hkl => ?_⟩
        · have hv := v_le hs (List.getElem_mem hkl)
          have hm : mat s (k : Int) = s.ms[k] := mat_nat hkl
          have hvec := vector_ro s k hs (by omega) (by omega)
          rw [hm] at hvec
          have hx : k < (iv (rowX s j)).length := by simpa using hkl
          have hy : k < (iv (rowY s j)).length := by simpa using hkl
          have w1 : IntKind.i64.wrap ((k : Int) + 1) = k + 1 := i64_in (by omega) (by omega)
          have nx : IntKind.i64.wrap (-vx s s.ms[k]) = -vx s s.ms[k] := i64_in (by omega) (by omega)
          have ny : IntKind.i64.wrap (-vy s s.ms[k]) = -vy s s.ms[k] := i64_in (by omega) (by omega)
          have px := part_get (iv (rowX s j)) [.int .i64 0] k hx
          have py := part_get (iv (rowY s j)) [.int .i64 0] k hy
          simp [hkl, Mb.c]
          intro g9 hg9 h9b h9a hb9
          refine callP_ro hvec ?_
          simp
          refine ⟨fun e1 => ?_, fun e1 => ?_⟩
          · simp [hab, Ne.symm hab, h9a, h9b, Ne.symm h9a, Ne.symm h9b, hkl, px, py, w1, loopQ_normal]
            have sx := part_set (iv (rowX s j)) [.int .i64 0] k hx [.int .i64 (vx s s.ms[k])] (by simp [rowX, eqX, e1])
            have sy := part_set (iv (rowY s j)) [.int .i64 0] k hy [.int .i64 (vy s s.ms[k])] (by simp [rowY, eqY, e1])
            refine ⟨k + 1, by omega, by omega, rfl, by simp, ?_⟩
            intro x y hx'
            rw [← sx, ← sy] at hx'
            simp only [upd_apply] at hx' ⊢
            grind
          · simp [hab, Ne.symm hab, h9a, h9b, Ne.symm h9a, Ne.symm h9b, hkl, px, py, w1, nx, ny, loopQ_normal]
            refine ⟨fun e2 => ?_, fun e2 => ?_⟩
            · have fx : eqX s j s.ms[k] = -vx s s.ms[k] := by rw [eqX, if_neg e1, if_pos e2]
              have fy : eqY s j s.ms[k] = -vy s s.ms[k] := by rw [eqY, if_neg e1, if_pos e2]
              have sx := part_set (iv (rowX s j)) [.int .i64 0] k hx [.int .i64 (-vx s s.ms[k])] (by simp [rowX, fx])
              have sy := part_set (iv (rowY s j)) [.int .i64 0] k hy [.int .i64 (-vy s s.ms[k])] (by simp [rowY, fy])
              refine ⟨k + 1, by omega, by omega, rfl, by simp, ?_⟩
              intro x y hx'
              rw [← sx, ← sy] at hx'
              simp only [upd_apply] at hx' ⊢
              grind
            · have sx := part_next (iv (rowX s j)) [.int .i64 0] k hx (by simp [rowX, eqX, e1, e2])
              have sy := part_next (iv (rowY s j)) [.int .i64 0] k hy (by simp [rowY, eqY, e1, e2])
              refine ⟨k + 1, by omega, by omega, rfl, by simp, ?_⟩
              intro x y hx'
              rw [← sx, ← sy] at hx'
              simp only [upd_apply] at hx' ⊢
              grind
        · have : k = s.ms.length := by omega
          subst this
          rw [part_all _ _ _ (by simp), part_all _ _ _ (by simp)]
          intro gp hgp hpb hpa hbp
          have npg : gp ≠ g := fun e => by rw [e, hb] at hbp; cases hbp
          have er2 : List.range 2 = [0, 1] := rfl
          simp [er2, appV, elsV, Int.not_lt.2 hgp, hpb, hpa, Ne.symm hpb, Ne.symm hpa, nga, ngb, Ne.symm nga, Ne.symm ngb, npg, Ne.symm npg, hb, hel]
          refine ⟨by omega, fun gn hgn hbn => ?_⟩
          have w9 : IntKind.i64.wrap ((i : Int) + 1) = i + 1 := i64_in (by omega) (by omega)
          rw [loopQ_normal]
          subst hj
          have nx := eqInv_next ⟨hi, hb, hel, ho, hn, hg, hf, hsb, hneg⟩ h hga hba hgb hab hbb hpa hpb hbp hgn hbn
          refine ⟨_, nx, by simp only; omega, rfl, ?_, sub_eq rfl⟩
          simp [w9]; exact ⟨rfl, by omega⟩
      · simp
        refine ⟨by simp [hba], DAny_one (i := 11) (by kernel_rfl) rfl rfl ?_⟩
        simp
        refine ⟨by omega, by unfold maxLen; omega, fun gb hgb hab hbb => ⟨by simp [hba, hbb, hab], ?_⟩⟩
        refine DAny_one (i := 13) (by kernel_rfl) rfl rfl ?_
        simp
        refine ⟨by simp [hba, hbb, hab], DAny_done (by kernel_rfl) ?_⟩
        simp [Str.c]
        -- the state behind the region
        have nga : ga ≠ g := fun e => by rw [e, hb] at hba; cases hba
        have ngb : gb ≠ g := fun e => by rw [e, hb] at hbb; cases hbb
        have fa := fresh_of hsb hba
        have fb := fresh_of hsb hbb
        have er : List.replicate s.ms.length [V.int IntKind.i64 0] = part (iv (rowX s j)) [.int .i64 0] 0 := by simp
        have er' : List.replicate s.ms.length [V.int IntKind.i64 0] = part (iv (rowY s j)) [.int .i64 0] 0 := by simp
        refine AW_for (fun k : Nat => [(0, .ptr s.c), (3, .lsl g 1 0 (2 * i)), (5, .int .i64 j), (6, .lsl ga 1 0 s.ms.length), (7, .lsl gb 1 0 s.ms.length), (13, .sl (iv (frees s.js))), (14, .int .i64 (frees s.js).length), (15, .int .i64 i), (34, .sl (mv s.ms)), (35, .int .i64 s.ms.length), (36, .int .i64 k)])
          (fun k => upd (upd b ga (some ⟨1, part (iv (rowX s j)) [.int .i64 0] k⟩)) gb (some ⟨1, part (iv (rowY s j)) [.int .i64 0] k⟩)) (fun k => k ≤ s.ms.length) (fun k => s.ms.length - k) 82 0 (Nat.zero_le _) ⟨rfl, by simp [Str.c], ?_⟩ ?_
        · intro x y hx
          simp only [upd_apply, part_zero, iv_length, rowX_length, rowY_length] at hx ⊢
          grind
        intro k hk
        refine AW_run ?_
        simp
        refine ⟨fun hkl => ?_, fun hkl => ?_⟩
        · have hv := v_le hs (List.getElem_mem hkl)
          have hm : mat s (k : Int) = s.ms[k] := mat_nat hkl
          have hvec := vector_ro s k hs (by omega) (by omega)
          rw [hm] at hvec
          have hx : k < (iv (rowX s j)).length := by simpa using hkl
          have hy : k < (iv (rowY s j)).length := by simpa using hkl
          have w1 : IntKind.i64.wrap ((k : Int) + 1) = k + 1 := i64_in (by omega) (by omega)
          have nx : IntKind.i64.wrap (-vx s s.ms[k]) = -vx s s.ms[k] := i64_in (by omega) (by omega)
          have ny : IntKind.i64.wrap (-vy s s.ms[k]) = -vy s s.ms[k] := i64_in (by omega) (by omega)
          have px := part_get (iv (rowX s j)) [.int .i64 0] k hx
          have py := part_get (iv (rowY s j)) [.int .i64 0] k hy
          simp [hkl, Mb.c]
          intro g9 hg9 h9b h9a hb9
          refine callP_ro hvec ?_
          simp
          refine ⟨fun e1 => ?_, fun e1 => ?_⟩
          · simp [hab, Ne.symm hab, h9a, h9b, Ne.symm h9a, Ne.symm h9b, hkl, px, py, w1, loopQ_normal]
            have sx := part_set (iv (rowX s j)) [.int .i64 0] k hx [.int .i64 (vx s s.ms[k])] (by simp [rowX, eqX, e1])
            have sy := part_set (iv (rowY s j)) [.int .i64 0] k hy [.int .i64 (vy s s.ms[k])] (by simp [rowY, eqY, e1])
            refine ⟨k + 1, by omega, by omega, rfl, by simp, ?_⟩
            intro x y hx'
            rw [← sx, ← sy] at hx'
            simp only [upd_apply] at hx' ⊢
            grind
          · simp [hab, Ne.symm hab, h9a, h9b, Ne.symm h9a, Ne.symm h9b, hkl, px, py, w1, nx, ny, loopQ_normal]
            refine ⟨fun e2 => ?_, fun e2 => ?_⟩
            · have fx : eqX s j s.ms[k] = -vx s s.ms[k] := by rw [eqX, if_neg e1, if_pos e2]
              have fy : eqY s j s.ms[k] = -vy s s.ms[k] := by rw [eqY, if_neg e1, if_pos e2]
              have sx := part_set (iv (rowX s j)) [.int .i64 0] k hx [.int .i64 (-vx s s.ms[k])] (by simp [rowX, fx])
              have sy := part_set (iv (rowY s j)) [.int .i64 0] k hy [.int .i64 (-vy s s.ms[k])] (by simp [rowY, fy])
              refine ⟨k + 1, by omega, by omega, rfl, by simp, ?_⟩
              intro x y hx'
              rw [← sx, ← sy] at hx'
              simp only [upd_apply] at hx' ⊢
              grind
            · have sx := part_next (iv (rowX s j)) [.int .i64 0] k hx (by simp [rowX, eqX, e1, e2])
              have sy := part_next (iv (rowY s j)) [.int .i64 0] k hy (by simp [rowY, eqY, e1, e2])
              refine ⟨k + 1, by omega, by omega, rfl, by simp, ?_⟩
              intro x y hx'
              rw [← sx, ← sy] at hx'
              simp only [upd_apply] at hx' ⊢
              grind
        · have : k = s.ms.length := by omega
          subst this
          rw [part_all _ _ _ (by simp), part_all _ _ _ (by simp)]
          intro gp hgp hpb hpa hbp
          have npg : gp ≠ g := fun e => by rw [e, hb] at hbp; cases hbp
          have er2 : List.range 2 = [0, 1] := rfl
          simp [er2, appV, elsV, Int.not_lt.2 hgp, hpb, hpa, Ne.symm hpb, Ne.symm hpa, nga, ngb, Ne.symm nga, Ne.symm ngb, npg, Ne.symm npg, hb, hel]
          refine ⟨by omega, fun gn hgn hbn => ?_⟩
          have w9 : IntKind.i64.wrap ((i : Int) + 1) = i + 1 := i64_in (by omega) (by omega)
          rw [loopQ_normal]
          subst hj
          have nx := eqInv_next ⟨hi, hb, hel, ho, hn, hg, hf, hsb, hneg⟩ h hga hba hgb hab hbb hpa hpb hbp hgn hbn
          refine ⟨_, nx, by simp only; omega, rfl, ?_, sub_eq rfl⟩
          simp [w9]; exact ⟨rfl, by omega⟩
    · simp
      refine ⟨by omega, by unfold maxLen; omega, fun gb hgb hbb => ⟨by simp [hbb], ?_⟩⟩
      refine DAny_one (i := 5) (by kernel_rfl) rfl rfl ?_
      simp
      refine ⟨by omega, by unfold maxLen; omega, fun ga hga hab hba => ⟨by simp [hba, hbb, hab], ?_⟩⟩
      refine DAny_one (i := 12) (by kernel_rfl) rfl rfl ?_
      simp
      refine ⟨by simp [hba, hbb, hab], DAny_one (i := 13) (by kernel_rfl) rfl rfl ?_⟩
      simp
      refine ⟨by simp [hba, hbb, hab], DAny_done (by kernel_rfl) ?_⟩
      simp [Str.c]
      -- the state behind the region
      have nga : ga ≠ g := fun e => by rw [e, hb] at hba; cases hba
      have ngb : gb ≠ g := fun e => by rw [e, hb] at hbb; cases hbb
      have fa := fresh_of hsb hba
      have fb := fresh_of hsb hbb
      have er : List.replicate s.ms.length [V.int IntKind.i64 0] = part (iv (rowX s j)) [.int .i64 0] 0 := by simp
      have er' : List.replicate s.ms.length [V.int IntKind.i64 0] = part (iv (rowY s j)) [.int .i64 0] 0 := by simp
      refine AW_for (fun k : Nat => [(0, .ptr s.c), (3, .lsl g 1 0 (2 * i)), (5, .int .i64 j), (6, .lsl ga 1 0 s.ms.length), (7, .lsl gb 1 0 s.ms.length), (13, .sl (iv (frees s.js))), (14, .int .i64 (frees s.js).length), (15, .int .i64 i), (34, .sl (mv s.ms)), (35, .int .i64 s.ms.length), (36, .int .i64 k)])
        (fun k => upd (upd b ga (some ⟨1, part (iv (rowX s j)) [.int .i64 0] k⟩)) gb (some ⟨1, part (iv (rowY s j)) [.int .i64 0] k⟩)) (fun k => k ≤ s.ms.length) (fun k => s.ms.length - k) 82 0 (Nat.zero_le _) ⟨rfl, by simp [Str.c], ?_⟩ ?_
      · intro x y hx
        simp only [upd_apply, part_zero, iv_length, rowX_length, rowY_length] at hx ⊢
        grind
      intro k hk
      refine AW_run ?_
      simp
      refine ⟨fun hkl => ?_, fun hkl => ?_⟩
      · have hv := v_le hs (List.getElem_mem hkl)
        have hm : mat s (k : Int) = s.ms[k] := mat_nat hkl
        have hvec := vector_ro s k hs (by omega) (by omega)
        rw [hm] at hvec
        have hx : k < (iv (rowX s j)).length := by simpa using hkl
        have hy : k < (iv (rowY s j)).length := by simpa using hkl
        have w1 : IntKind.i64.wrap ((k : Int) + 1) = k + 1 := i64_in (by omega) (by omega)
        have nx : IntKind.i64.wrap (-vx s s.ms[k]) = -vx s s.ms[k] := i64_in (by omega) (by omega)
        have ny : IntKind.i64.wrap (-vy s s.ms[k]) = -vy s s.ms[k] := i64_in (by omega) (by omega)
        have px := part_get (iv (rowX s j)) [.int .i64 0] k hx
        have py := part_get (iv (rowY s j)) [.int .i64 0] k hy
        simp [hkl, Mb.c]
        intro g9 hg9 h9b h9a hb9
        refine callP_ro hvec ?_
        simp
        refine ⟨fun e1 => ?_, fun e1 => ?_⟩
        · simp [hab, Ne.symm hab, h9a, h9b, Ne.symm h9a, Ne.symm h9b, hkl, px, py, w1, loopQ_normal]
          have sx := part_set (iv (rowX s j)) [.int .i64 0] k hx [.int .i64 (vx s s.ms[k])] (by simp [rowX, eqX, e1])
          have sy := part_set (iv (rowY s j)) [.int .i64 0] k hy [.int .i64 (vy s s.ms[k])] (by simp [rowY, eqY, e1])
          refine ⟨k + 1, by omega, by omega, rfl, by simp, ?_⟩
          intro x y hx'
          rw [← sx, ← sy] at hx'
          simp only [upd_apply] at hx' ⊢
          grind
        · simp [hab, Ne.symm hab, h9a, h9b, Ne.symm h9a, Ne.symm h9b, hkl, px, py, w1, nx, ny, loopQ_normal]
          refine ⟨fun e2 => ?_, fun e2 => ?_⟩
          · have fx : eqX s j s.ms[k] = -vx s s.ms[k] := by rw [eqX, if_neg e1, if_pos e2]
            have fy : eqY s j s.ms[k] = -vy s s.ms[k] := by rw [eqY, if_neg e1, if_pos e2]
            have sx := part_set (iv (rowX s j)) [.int .i64 0] k hx [.int .i64 (-vx s s.ms[k])] (by simp [rowX, fx])
            have sy := part_set (iv (rowY s j)) [.int .i64 0] k hy [.int .i64 (-vy s s.ms[k])] (by simp [rowY, fy])
            refine ⟨k + 1, by omega, by omega, rfl, by simp, ?_⟩
            intro x y hx'
            rw [← sx, ← sy] at hx'
            simp only [upd_apply] at hx' ⊢
            grind
          · have sx := part_next (iv (rowX s j)) [.int .i64 0] k hx (by simp [rowX, eqX, e1, e2])
            have sy := part_next (iv (rowY s j)) [.int .i64 0] k hy (by simp [rowY, eqY, e1, e2])
            refine ⟨k + 1, by omega, by omega, rfl, by simp, ?_⟩
            intro x y hx'
            rw [← sx, ← sy] at hx'
            simp only [upd_apply] at hx' ⊢
            grind
      · have : k = s.ms.length := by omega
        subst this
        rw [part_all _ _ _ (by simp), part_all _ _ _ (by simp)]
        intro gp hgp hpb hpa hbp
        have npg : gp ≠ g := fun e => by rw [e, hb] at hbp; cases hbp
        have er2 : List.range 2 = [0, 1] := rfl
        simp [er2, appV, elsV, Int.not_lt.2 hgp, hpb, hpa, Ne.symm hpb, Ne.symm hpa, nga, ngb, Ne.symm nga, Ne.symm ngb, npg, Ne.symm npg, hb, hel]
        refine ⟨by omega, fun gn hgn hbn => ?_⟩
        have w9 : IntKind.i64.wrap ((i : Int) + 1) = i + 1 := i64_in (by omega) (by omega)
        rw [loopQ_normal]
        subst hj
        have nx := eqInv_next ⟨hi, hb, hel, ho, hn, hg, hf, hsb, hneg⟩ h hga hba hgb (Ne.symm hab) hbb hpa hpb hbp hgn hbn
        refine ⟨_, nx, by simp only; omega, rfl, ?_, sub_eq rfl⟩
        simp [w9]; exact ⟨rfl, by omega⟩
  · have : i = (frees s.js).length := by omega
    subst this
    refine retNW [.lsl g 1 0 (2 * (frees s.js).length)] (g :: gs) (by simp) ?_ ?_ hsb
    · unfold dII
      rw [OwnD]
      have e : eqRows s = eqTo s (frees s.js).length := by simp [eqTo, eqRows]
      refine .inr ⟨g, els, gs, by rw [e, List.length_map, eqTo_length s _ (Nat.le_refl _)]; rfl, rfl, hn, hb, hneg, ?_⟩
      rw [e]; exact ho
    · intro x hx
      rcases List.mem_cons.1 hx with rfl | hx
      · exact hg
      · exact hf x hx

end Go.Proofs.Ythhjmaianlmfpaa.Vm

namespace Go.Proofs.Ythhjmaianlmfpaa.Vm
open Go Go.Proofs
set_option linter.unusedSimpArgs false
set_option linter.unusedVariables false

theorem u64_in2 {n : Int} (h0 : 0 ≤ n) (h1 : n ≤ 18446744073709551615) : IntKind.u64.wrap n = n := IntWalk.u64_in _ ⟨by omega, by omega⟩
theorem integer_ro (n : Int) (hn : -9223372036854775808 ≤ n ∧ n ≤ 9223372036854775807) : RO Try.prog 191 [.int .i64 n] (.agg (biC n)) := by
  refine ro_of2 Try.func191 rfl rfl (by rw [Try.ntmps191]; simp) fun bl => ?_
  rw [Try.ntmps191, Try.results191]
  refine AW_run ?_
  simp
  intro g hg0 hg
  refine ⟨fun h => ?_, fun h => ?_⟩
  · have e : IntKind.u64.wrap (IntKind.u64.wrap (IntKind.i64.wrap (-IntKind.i64.wrap (n + 1))) + 1) = (n.natAbs : Int) := by
      have w1 : IntKind.i64.wrap (n + 1) = n + 1 := i64_in (by omega) (by omega)
      have w2 : IntKind.i64.wrap (-(n + 1)) = -(n + 1) := i64_in (by omega) (by omega)
      have w3 : IntKind.u64.wrap (-(n + 1)) = -(n + 1) := u64_in2 (by omega) (by omega)
      have w4 : IntKind.u64.wrap (-(n + 1) + 1) = -(n + 1) + 1 := u64_in2 (by omega) (by omega)
      rw [w1, w2, w3, w4]
      omega
    rw [e]
    refine callP_ro (limbsOf_ro n.natAbs (by omega)) ?_
    simp
    refine callP_ro (signed_ro true n.natAbs) ?_
    have e2 : sg true n.natAbs = n := by unfold sg; simp; omega
    rw [e2, biC_def]
    simp
    exact retRO [.agg (biC n)] 1 (by simp [biC_def]) (by simp [frz, biC_def, V.cl]) (by simp [hg])
  · have e : IntKind.u64.wrap n = (n.natAbs : Int) := by rw [u64_in2 (by omega) (by omega)]; omega
    rw [e]
    refine callP_ro (limbsOf_ro n.natAbs (by omega)) ?_
    simp
    refine callP_ro (signed_ro false n.natAbs) ?_
    have e2 : sg false n.natAbs = n := by unfold sg; simp; omega
    rw [e2, biC_def]
    simp
    exact retRO [.agg (biC n)] 1 (by simp [biC_def]) (by simp [frz, biC_def, V.cl]) (by simp [hg])
theorem BigIntOf_ro (n : Int) (hn : -9223372036854775808 < n ∧ n ≤ 9223372036854775807) : RO Try.prog 188 [.int .i64 n] (.agg (biC n)) := by
  have hl : (lim n.natAbs).length ≤ 60 := lim_length_le.2 (Nat.lt_of_le_of_lt (show n.natAbs ≤ 9223372036854775808 by omega) (by decide +kernel))
  refine ro_of2 Try.func188 rfl rfl (by rw [Try.ntmps188]; simp) fun bl => ?_
  rw [Try.ntmps188, Try.results188]
  refine AW_run ?_
  simp
  intro g hg0 hg
  have h0 : ¬ n = -9223372036854775808 := by omega
  simp [h0]
  refine ⟨fun h => ?_, fun h => ?_⟩
  · have e : IntKind.i64.wrap (-n) = (n.natAbs : Int) := by rw [i64_in (by omega) (by omega)]; omega
    try rw [e]
    refine callP_ro (spec_NatOf_ro n.natAbs (by omega)) ?_
    simp
    refine callP_ro (l03Make_ro true n.natAbs hl) ?_
    have e2 : sg true n.natAbs = n := by unfold sg; simp; omega
    rw [e2, biC_def]
    simp
    exact retRO [.agg (biC n)] 1 (by simp [biC_def]) (by simp [frz, biC_def, V.cl]) (by simp [hg])
  · have e : n = (n.natAbs : Int) := by omega
    have hN := spec_NatOf_ro n.natAbs (by omega)
    rw [← e] at hN
    refine callP_ro hN ?_
    simp
    refine callP_ro (l03Make_ro false n.natAbs hl) ?_
    have e2 : sg false n.natAbs = n := by unfold sg; simp; omega
    rw [e2, biC_def]
    simp
    exact retRO [.agg (biC n)] 1 (by simp [biC_def]) (by simp [frz, biC_def, V.cl]) (by simp [hg])

theorem rq_int (n : Int) : (rq (n : Rat)).c = [.bool (decide (n < 0)), .sl (iv (lim n.natAbs)), .sl [[.int .i64 1]]] := by
  rw [rqc_def]
  show [V.bool (decide (n < 0)), V.sl (iv (lim n.natAbs)), V.sl (iv (lim 1))] = _
  rw [lim1]; rfl
theorem okQ_int {n : Int} (hn : -9223372036854775808 ≤ n ∧ n ≤ 9223372036854775807) : okQ (some (n : Rat)) := fun q h => by
  cases h; exact fits_int (by omega)
theorem RatFromInt_ro (n : Int) (hn : -9223372036854775808 < n ∧ n ≤ 9223372036854775807) : RO Try.prog 152 [.int .i64 n] (.agg (ro (some (n : Rat))).c) := by
  refine ro_of2 Try.func152 rfl rfl (by rw [Try.ntmps152]; simp) fun bl => ?_
  rw [Try.ntmps152, Try.results152]
  refine AW_run ?_
  rw [show (ro (some (n : Rat))).c = _ from rq_int n]
  simp
  intro g hg0 hg
  refine callP_ro (BigIntOf_ro n hn) ?_
  simp [biC_def]
  intro g1 hg1 h1g hb1
  simp [h1g, Ne.symm h1g]
  refine retRO [.agg [.bool (decide (n < 0)), .sl (iv (lim n.natAbs)), .lsl g1 1 0 1]] 2 (by simp [h1g, Ne.symm h1g]) ?_ (by simp [hg, hb1])
  exact frz_rat (ns := [1]) (.inl hg1) hb1 (by simp [h1g, iv])
theorem whole_ro (n : Int) (hn : -9223372036854775808 ≤ n ∧ n ≤ 9223372036854775807) : RO Try.prog 157 [.int .i64 n] (fv (some (n : Rat))) := by
  refine ro_of2 Try.func157 rfl rfl (by rw [Try.ntmps157]; simp) fun bl => ?_
  rw [Try.ntmps157, Try.results157]
  refine AW_run ?_
  rw [show fv (some (n : Rat)) = .ptr (rq (n : Rat)).c from rfl, rq_int n]
  simp
  refine callP_ro (integer_ro n hn) ?_
  simp [biC_def]
  intro g1 hg1 hb1 g2 hg2 h21 hb2
  refine retRO [.loc g2 3 0 0] 2 (by simp [h21, Ne.symm h21]) ?_ (by simp [hb1, hb2])
  have h1 := frz_rat (bl0 := bl) (ms := lim n.natAbs) (b := decide (n < 0)) (ns := [1]) (g := g1) (.inl hg1) hb1 (bl := upd (upd bl g1 (some ⟨1, iv [1]⟩)) g2 (some ⟨3, [[.bool (decide (n < 0)), .sl (iv (lim n.natAbs)), .lsl g1 1 0 1]]⟩)) (by simp [h21, Ne.symm h21])
  rw [frz_agg] at h1
  show frz _ 2 (.loc g2 3 0 0) = _
  rw [frz_loc0 (e := [.bool (decide (n < 0)), .sl (iv (lim n.natAbs)), .lsl g1 1 0 1]) (by simp [dropB, hb2])]
  obtain ⟨e', he, h2⟩ := Option.map_eq_some_iff.1 h1
  cases h2
  exact (congrArg (Option.map V.ptr) he).trans rfl

end Go.Proofs.Ythhjmaianlmfpaa.Vm
