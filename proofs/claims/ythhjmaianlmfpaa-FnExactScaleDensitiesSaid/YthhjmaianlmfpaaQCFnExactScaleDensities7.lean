/- FnExactScaleDensities: for every fraction and list of fractions the program's ScaleDensities returns what the reference's returns; no condition. -/


import Derived.Test.YthhjmaianlmfpaaQCFnExactScaleDensities6

namespace Go.Proofs.Ythhjmaianlmfpaa.Vm
open Go Go.Proofs
set_option linter.unusedSimpArgs false
set_option linter.unusedVariables false

theorem l03Add_ro (x y : Int) (hx : (lim x.natAbs).length ≤ 59) (hy : (lim y.natAbs).length ≤ 59) : RO Try.prog 179 [.agg (biC x), .agg (biC y)] (.agg (biC (x + y))) := by
  have hb := len_add hx hy
  refine ro_of2 Try.func179 rfl rfl (by rw [Try.ntmps179]; simp) fun bl => ?_
  rw [Try.ntmps179, Try.results179]
  refine AW_runA ?_
  rw [biC_def x, biC_def y]
  simp
  intro g hg0 hg g2 hg2 h2g hb2 g3 hg3 h32 h3g hb3
  refine AW_run ?_
  simp [h2g, Ne.symm h2g, h32, Ne.symm h32, h3g, Ne.symm h3g]
  refine ⟨fun hs => ?_, fun hs => ?_⟩
  · refine AW_mixedB mixedO (upd (upd bl g (some ⟨2, [[.bool (decide (x < 0)), .sl (iv (lim x.natAbs))]]⟩)) g2 (some ⟨2, [[.bool (decide (y < 0)), .sl (iv (lim y.natAbs))]]⟩)) (by simp [h32, h3g, hb3]) [0, 1, 2, 3, 4, 5, 6, 7] 1 (by kernel_rfl) ?_
    simp [h2g, Ne.symm h2g, h32, Ne.symm h32, h3g, Ne.symm h3g]
    refine hcQ_ro (l02Add_ro _ _ (by omega) (by omega)) ?_
    simp [h2g, Ne.symm h2g, h32, Ne.symm h32, h3g, Ne.symm h3g]
    refine hcQ_ro (l03Make_ro _ _ (by omega)) ?_
    simp [h2g, Ne.symm h2g, h32, Ne.symm h32, h3g, Ne.symm h3g]
    refine DAny_one (i := 8) (by kernel_rfl) rfl rfl ?_
    simp [h2g, Ne.symm h2g, h32, Ne.symm h32, h3g, Ne.symm h3g]
    refine ⟨by simp [h32, h3g, hb3], DAny_done (by kernel_rfl) ?_⟩
    rw [sg_add_same hs]
    simp [h2g, Ne.symm h2g, h32, Ne.symm h32, h3g, Ne.symm h3g]
    exact retRO [.agg (biC (x + y))] 1 (by simp [biC, h2g, Ne.symm h2g, h32, Ne.symm h32, h3g, Ne.symm h3g]) retAgg (by simp [hg, hb2, hb3])

  refine callP_ro (l02Cmp_ro _ _ (by omega) (by omega)) ?_
  simp [h2g, Ne.symm h2g, h32, Ne.symm h32, h3g, Ne.symm h3g, cmpN_ge]
  refine ⟨fun hle => ?_, fun hle => ?_⟩
  · refine AW_mixedB mixedO (upd (upd bl g (some ⟨2, [[.bool (decide (x < 0)), .sl (iv (lim x.natAbs))]]⟩)) g2 (some ⟨2, [[.bool (decide (y < 0)), .sl (iv (lim y.natAbs))]]⟩)) (by simp [h32, h3g, hb3]) [0, 1, 2, 3, 4, 5, 6, 7] 1 (by kernel_rfl) ?_
    simp [h2g, Ne.symm h2g, h32, Ne.symm h32, h3g, Ne.symm h3g]
    refine hcQ_ro (l02Sub_ro _ _ hle (by omega)) ?_
    simp [h2g, Ne.symm h2g, h32, Ne.symm h32, h3g, Ne.symm h3g]
    refine hcQ_ro (l03Make_ro _ _ (len_mono (Nat.sub_le _ _) (by omega))) ?_
    simp [h2g, Ne.symm h2g, h32, Ne.symm h32, h3g, Ne.symm h3g]
    refine DAny_one (i := 8) (by kernel_rfl) rfl rfl ?_
    simp [h2g, Ne.symm h2g, h32, Ne.symm h32, h3g, Ne.symm h3g]
    refine ⟨by simp [h32, h3g, hb3], DAny_done (by kernel_rfl) ?_⟩
    rw [sg_add_left hs hle]
    simp [h2g, Ne.symm h2g, h32, Ne.symm h32, h3g, Ne.symm h3g]
    exact retRO [.agg (biC (x + y))] 1 (by simp [biC, h2g, Ne.symm h2g, h32, Ne.symm h32, h3g, Ne.symm h3g]) retAgg (by simp [hg, hb2, hb3])

  · refine AW_mixedB mixedO (upd (upd bl g (some ⟨2, [[.bool (decide (x < 0)), .sl (iv (lim x.natAbs))]]⟩)) g2 (some ⟨2, [[.bool (decide (y < 0)), .sl (iv (lim y.natAbs))]]⟩)) (by simp [h32, h3g, hb3]) [0, 1, 2, 3, 4, 5, 6, 7] 1 (by kernel_rfl) ?_
    simp [h2g, Ne.symm h2g, h32, Ne.symm h32, h3g, Ne.symm h3g]
    refine hcQ_ro (l02Sub_ro _ _ (by omega) (by omega)) ?_
    simp [h2g, Ne.symm h2g, h32, Ne.symm h32, h3g, Ne.symm h3g]
    refine hcQ_ro (l03Make_ro _ _ (len_mono (Nat.sub_le _ _) (by omega))) ?_
    simp [h2g, Ne.symm h2g, h32, Ne.symm h32, h3g, Ne.symm h3g]
    refine DAny_one (i := 8) (by kernel_rfl) rfl rfl ?_
    simp [h2g, Ne.symm h2g, h32, Ne.symm h32, h3g, Ne.symm h3g]
    refine ⟨by simp [h32, h3g, hb3], DAny_done (by kernel_rfl) ?_⟩
    rw [sg_add_left (x := y) (y := x) (fun hh => hs ⟨hh.2, hh.1⟩) (by omega), Int.add_comm y x]
    simp [h2g, Ne.symm h2g, h32, Ne.symm h32, h3g, Ne.symm h3g]
    exact retRO [.agg (biC (x + y))] 1 (by simp [biC, h2g, Ne.symm h2g, h32, Ne.symm h32, h3g, Ne.symm h3g]) retAgg (by simp [hg, hb2, hb3])

/-- What the reference makes of a sign, a numerator and a denominator. -/
def lowQ (neg : Bool) (a b : Nat) : Option Rat := if b = 0 then none else fit (mkRat (sg neg a) b)
theorem lowQ_ok (neg : Bool) (a b : Nat) : okQ (lowQ neg a b) := by
  unfold lowQ; split
  · intro q h; cases h
  · exact okQ_fit _
theorem frz_rat {bl bl0 : Int → Option Blk} {g : Int} {ns ms : List Int} {b : Bool} (h0 : 0 ≤ g ∨ ns = []) (hg : bl0 g = none) (hb : bl g = some ⟨1, iv ns⟩) : frz (dropB bl bl0) 2 (.agg [.bool b, .sl (iv ms), .lsl g 1 0 ns.length]) = some (.agg [.bool b, .sl (iv ms), .sl (iv ns)]) := by
  have h1 := frz_any h0 hg hb
  have h2 : frz (dropB bl bl0) 1 (.bool b) = some (.bool b) := by simp [frz]
  have h3 : frz (dropB bl bl0) 1 (.sl (iv ms)) = some (.sl (iv ms)) := by simp [frz]
  rw [frz_agg]
  simp only [List.mapM_cons, List.mapM_nil, h1, h2, h3]
  rfl
theorem rq_low (neg : Bool) (a b : Nat) (hb : b ≠ 0) : (rq (mkRat (sg neg a) b)).c = biC (sg neg (a / Nat.gcd a b)) ++ [.sl (iv (lim (b / Nat.gcd a b)))] := by
  have hg : 0 < Nat.gcd a b := Nat.gcd_pos_of_pos_right _ (by omega)
  rw [rq_mk _ hb, RT.c, sg_abs, biC_def, sg_abs]
  simp only [List.cons_append, List.nil_append]
  rw [sg_neg, sg_neg]
  have : (0 < a / Nat.gcd a b) ↔ 0 < a := by
    constructor
    · intro h; rcases Nat.eq_zero_or_pos a with h0 | h0
      · rw [h0] at h; simp at h
      · exact h0
    · intro h; exact Nat.div_pos (Nat.gcd_le_left _ h) hg
  rw [decide_eq_decide.2 this]
theorem l04Low_ro (neg : Bool) (a b : Nat) (ha : (lim a).length ≤ 60) (hb : (lim b).length ≤ 60) : RO Try.prog 180 [.bool neg, .sl (iv (lim a)), .sl (iv (lim b))] (.agg (ro (lowQ neg a b)).c) := by
  have hall : ∀ m, ((iv (lim m)).all fun c => c.length == 1 && c.all V.one) = true := fun m => by simp [iv]
  refine ro_of2 Try.func180 rfl rfl (by rw [Try.ntmps180]; simp) fun bl => ?_
  rw [Try.ntmps180, Try.results180]
  refine AW_runA ?_
  simp
  intro g hg0 hg
  refine AW_runA ?_
  simp
  refine callP_ro (l02Trim_ro (lim a) (lim_dig a) (by omega)) ?_
  rw [val_lim]
  simp
  refine AW_runA ?_
  simp
  refine callP_ro (l02Trim_ro (lim b) (lim_dig b) (by omega)) ?_
  rw [val_lim]
  simp
  refine AW_runA ?_
  simp
  refine ⟨fun h => ?_, fun h => ?_⟩
  · have hb0 : b = 0 := by simpa [lim_nil] using h
    exact retRO [.agg [.bool false, .nils, .nils]] 1 (by simp) (by simp [frz, lowQ, hb0, ro, rz, RT.c, V.cl, iv]) (by simp [hg])
  have hb0 : b ≠ 0 := fun e => h (by rw [e, lim_zero])
  have hg1 := Nat.gcd_pos_of_pos_right a (show 0 < b by omega)
  refine AW_mid (fun _ : Unit => [(0, .bool neg), (6, .loc g 3 0 0), (7, .sl (iv (lim (a / Nat.gcd a b)))), (8, .sl (iv (lim (b / Nat.gcd a b))))]) (fun _ => upd bl g (some ⟨3, [[.bool false, .nils, .nils]]⟩)) (fun _ => True) 55 ?_ ?_
  · refine AW_run ?_
    simp
    refine callP_ro (l04One_ro _) ?_
    simp
    refine ⟨fun h1 => ?_, fun h1 => ?_⟩
    · refine callP_ro (l02Gcd_ro _ _ (by omega) (by omega)) ?_
      simp
      refine callP_ro (l04One_ro _) ?_
      simp
      refine ⟨fun h2 => ?_, fun h2 => ?_⟩
      · have hgl := gcd_len ha hb
        refine callP_ro (l02Div_ro a (Nat.gcd a b) hg1 (by omega) (by omega)) ?_
        simp
        refine callP_ro (l02Div_ro b (Nat.gcd a b) hg1 (by omega) (by omega)) ?_
        simp [midQ_normal]
        exact ⟨rfl, by simp, Sub.refl _⟩
      · simp [midQ_normal]
        exact ⟨rfl, by simp [h2], Sub.refl _⟩
    · have h2 : Nat.gcd a b = 1 := by rw [h1]; exact Nat.gcd_one_right a
      simp [midQ_normal]
      exact ⟨rfl, by simp [h2], Sub.refl _⟩
  intro _ _
  have e2 := rq_low neg a b hb0
  have hx : (lim (a / Nat.gcd a b)).length ≤ 60 := len_mono (Nat.div_le_self _ _) ha
  have hy : (lim (b / Nat.gcd a b)).length ≤ 60 := len_mono (Nat.div_le_self _ _) hb
  have hr : ro (lowQ neg a b) = if (lim (a / Nat.gcd a b)).length ≤ 24 ∧ (lim (b / Nat.gcd a b)).length ≤ 24 then rq (mkRat (sg neg a) b) else rz := by
    have e3 := rq_mk (sg neg a) hb0
    have e4 : fits (mkRat (sg neg a) b) ↔ (lim (a / Nat.gcd a b)).length ≤ 24 ∧ (lim (b / Nat.gcd a b)).length ≤ 24 := by
      have e5 := congrArg RT.m e3
      have e6 := congrArg RT.d e3
      simp only [rq, sg_abs] at e5 e6
      unfold fits
      rw [e5, e6]
    unfold lowQ fit
    rw [if_neg hb0]
    by_cases hf : fits (mkRat (sg neg a) b)
    · rw [if_pos hf, if_pos (e4.1 hf)]; rfl
    · rw [if_neg hf, if_neg (fun h => hf (e4.2 h))]; rfl
  obtain ⟨x, ex⟩ : ∃ x, a / Nat.gcd a b = x := ⟨_, rfl⟩
  obtain ⟨y, ey⟩ : ∃ y, b / Nat.gcd a b = y := ⟨_, rfl⟩
  rw [ex, ey] at hr e2
  rw [ex] at hx
  rw [ey] at hy
  rw [ex, ey, hr]
  refine AW_run ?_
  simp
  refine AW_way [(0, .bool neg), (6, .loc g 3 0 0), (7, .sl (iv (lim x))), (8, .sl (iv (lim y)))] _ _ 46 (.bool (!decide ((lim x).length ≤ 24 ∧ (lim y).length ≤ 24))) (upd bl g (some ⟨3, [[.bool false, .nils, .nils]]⟩)) ⟨rfl, by simp, Sub.refl _⟩ rfl ?_ ?_
  · simp
    refine ⟨fun h => ?_, fun h => ?_⟩
    · omega
    · rw [Bool.eq_iff_iff]
      simp
      omega
  by_cases hc : (lim x).length ≤ 24 ∧ (lim y).length ≤ 24
  · simp only [hc, and_self, decide_true, Bool.not_true, if_true]
    simp
    refine callP_ro (l03Make_ro neg x (by omega)) ?_
    simp
    intro g1 hg1 h1g hb1
    simp [h1g, Ne.symm h1g, appV, elsV, Int.not_lt.2 hg1, hall]
    refine ⟨by omega, fun g2 hg2 hb2 => ?_⟩
    have h2g : g2 ≠ g := by grind
    have hb2' : bl g2 = none := by grind
    have hnn : 0 ≤ g2 ∨ lim y = [] := hg2.imp id (fun h => by simpa [iv] using h)
    simp [h1g, Ne.symm h1g, h2g, Ne.symm h2g, biC_def, sg_abs]
    refine retRO [.agg [.bool (decide (sg neg x < 0)), .sl (iv (lim x)), .lsl g2 1 0 (lim y).length]] 2 (by simp [h1g, Ne.symm h1g, h2g, Ne.symm h2g]) ?_ (by simp [hg, hb1, hb2', h1g, h2g])
    rw [e2, biC_def, sg_abs]
    exact frz_rat hnn hb2' (by simp [h2g])
  · simp only [hc, decide_false, Bool.not_false, if_false]
    simp
    exact retRO [.agg [.bool false, .nils, .nils]] 1 (by simp) (by simp [frz, rz, RT.c, V.cl, iv]) (by simp [hg])

/-! ### Numerators and denominators of what may be none -/
def nm (x : Option Rat) : Int := match x with | some q => q.num | none => 0
def dn (x : Option Rat) : Nat := match x with | some q => q.den | none => 0
theorem ro_c (x : Option Rat) : (ro x).c = [.bool (decide (nm x < 0)), .sl (iv (lim (nm x).natAbs)), .sl (iv (lim (dn x)))] := by
  cases x
  · show rz.c = _
    rw [show nm none = 0 from rfl, show dn none = 0 from rfl, Int.natAbs_zero, lim_zero]; rfl
  · rfl
theorem okQ_len {x : Option Rat} (h : okQ x) : (lim (nm x).natAbs).length ≤ 24 ∧ (lim (dn x)).length ≤ 24 := by
  cases x with
  | none => rw [show nm none = 0 from rfl, show dn none = 0 from rfl, Int.natAbs_zero, lim_zero]; simp
  | some q => exact h q rfl
theorem okQ_neg {x : Option Rat} (h : okQ x) : okQ (x.map (- ·)) := by
  intro q hq
  cases x with
  | none => cases hq
  | some a =>
    cases hq
    have := h a rfl
    unfold fits at this ⊢
    rw [show (-a).num = -a.num from rfl, show (-a).den = a.den from rfl, Int.natAbs_neg]; exact this
theorem nm_neg (x : Option Rat) : nm (x.map (- ·)) = - nm x := by cases x with | none => rfl | some q => rfl
theorem dn_neg (x : Option Rat) : dn (x.map (- ·)) = dn x := by cases x with | none => rfl | some q => rfl

theorem l04Neg_ro (x : Option Rat) (hx : okQ x) : RO Try.prog 128 [.agg (ro x).c] (.agg (ro (x.map (- ·))).c) := by
  obtain ⟨hm, hd⟩ := okQ_len hx
  have hall : ∀ m, ((iv (lim m)).all fun c => c.length == 1 && c.all V.one) = true := fun m => by simp [iv]
  refine ro_of2 Try.func128 rfl rfl (by rw [Try.ntmps128]; simp) fun bl => ?_
  rw [Try.ntmps128, Try.results128]
  refine AW_runA ?_
  rw [ro_c x]
  simp
  intro g hg0 hg g2 hg2 h2g hb2
  refine AW_run ?_
  simp
  refine AW_mixedB mixedO (upd bl g (some ⟨3, [[.bool (decide (nm x < 0)), .sl (iv (lim (nm x).natAbs)), .sl (iv (lim (dn x)))]]⟩)) (by simp [h2g, hb2]) [0, 1, 2, 3, 4, 5, 6, 7, 9, 10] 4 (by kernel_rfl) ?_
  simp [h2g, Ne.symm h2g]
  refine hcQ_ro (l03Make_ro _ _ (by omega)) ?_
  rw [sg_opp]
  simp [h2g, Ne.symm h2g]
  refine DAny_one (i := 8) (by kernel_rfl) rfl rfl ?_
  simp [h2g, Ne.symm h2g]
  intro g3 hg3 h32 h3g hb3
  refine ⟨by simp [h2g, Ne.symm h2g, hb2, h3g, h32, hb3], DAny_one (i := 11) (by kernel_rfl) rfl rfl ?_⟩
  simp [h2g, Ne.symm h2g, h3g, Ne.symm h3g, h32, Ne.symm h32, appV, elsV, Int.not_lt.2 hg3, hall]
  refine ⟨by omega, fun g4 hg4 hb4 => ?_⟩
  have h4g : g4 ≠ g := by grind
  have h42 : g4 ≠ g2 := by grind
  have hb4' : bl g4 = none := by grind
  have hnn : 0 ≤ g4 ∨ lim (dn x) = [] := hg4.imp id (fun h => by simpa [iv] using h)
  refine ⟨by simp [h2g, Ne.symm h2g, hb2, h3g, h32, hb3, h4g, h42, hb4'], DAny_one (i := 12) (by kernel_rfl) rfl rfl ?_⟩
  simp [h2g, Ne.symm h2g, h3g, Ne.symm h3g, h32, Ne.symm h32, h4g, Ne.symm h4g, h42, Ne.symm h42, biC_def]
  refine ⟨by simp [h2g, Ne.symm h2g, hb2, h3g, h32, hb3, h4g, h42, hb4'], DAny_one (i := 13) (by kernel_rfl) rfl rfl ?_⟩
  simp [h2g, Ne.symm h2g, h3g, Ne.symm h3g, h32, Ne.symm h32, h4g, Ne.symm h4g, h42, Ne.symm h42]
  refine ⟨by simp [h2g, Ne.symm h2g, hb2, h3g, h32, hb3, h4g, h42, hb4'], DAny_done (by kernel_rfl) ?_⟩
  simp
  refine retRO [.agg [.bool (decide (-nm x < 0)), .sl (iv (lim (nm x).natAbs)), .lsl g4 1 0 (lim (dn x)).length]] 2 (by simp [h2g, Ne.symm h2g, h4g, Ne.symm h4g, h42, Ne.symm h42]) ?_ (by simp [hg, hb2, hb3, hb4', h2g, h4g, h42])
  rw [ro_c, nm_neg, dn_neg, Int.natAbs_neg]
  exact frz_rat hnn hb4' (by simp [h4g, h42])

theorem l04Mul_ro (x y : Option Rat) (hx : okQ x) (hy : okQ y) : RO Try.prog 146 [.agg (ro x).c, .agg (ro y).c] (.agg (ro (op2 (· * ·) x y)).c) := by
  obtain ⟨hm, hd⟩ := okQ_len hx
  obtain ⟨hm2, hd2⟩ := okQ_len hy
  have n1 := len_mul hm hm2
  have n2 := len_mul hd hd2
  have e : lowQ (decide (nm x < 0) != decide (nm y < 0)) ((nm x).natAbs * (nm y).natAbs) (dn x * dn y) = op2 (· * ·) x y := by
    unfold lowQ op2
    rw [sg_mul]
    cases x with
    | none => simp [dn]
    | some a =>
      cases y with
      | none => simp [dn]
      | some b =>
        rw [if_neg (show ¬ dn (some a) * dn (some b) = 0 from Nat.mul_ne_zero a.den_nz b.den_nz)]
        simp only [nm, dn]
        rw [← Rat.mul_def']
  refine ro_of2 Try.func146 rfl rfl (by rw [Try.ntmps146]; simp) fun bl => ?_
  rw [Try.ntmps146, Try.results146]
  refine AW_runA ?_
  rw [ro_c x, ro_c y]
  simp
  intro g hg0 hg g2 hg2 h2g hb2 g3 hg3 h32 h3g hb3
  refine AW_run ?_
  simp
  refine AW_mixedB mixedO (upd (upd bl g (some ⟨3, [[.bool (decide (nm x < 0)), .sl (iv (lim (nm x).natAbs)), .sl (iv (lim (dn x)))]]⟩)) g2 (some ⟨3, [[.bool (decide (nm y < 0)), .sl (iv (lim (nm y).natAbs)), .sl (iv (lim (dn y)))]]⟩)) (by simp [h32, h3g, hb3]) [0, 1, 2, 3, 4, 5, 6, 7, 8, 9, 10, 11, 12, 13, 14, 15, 16, 17, 18, 19] 1 (by kernel_rfl) ?_
  simp [h2g, Ne.symm h2g, h32, Ne.symm h32, h3g, Ne.symm h3g]
  refine hcQ_ro (l02Mul_ro _ _ (by omega) (by omega)) ?_
  simp [h2g, Ne.symm h2g, h32, Ne.symm h32, h3g, Ne.symm h3g]
  refine hcQ_ro (l02Mul_ro _ _ (by omega) (by omega)) ?_
  simp [h2g, Ne.symm h2g, h32, Ne.symm h32, h3g, Ne.symm h3g]
  refine hcQ_ro (l04Low_ro _ _ _ (by omega) (by omega)) ?_
  rw [e]
  simp [h2g, Ne.symm h2g, h32, Ne.symm h32, h3g, Ne.symm h3g]
  refine DAny_one (i := 20) (by kernel_rfl) rfl rfl ?_
  rw [ro_c (op2 _ x y)]
  simp [h2g, Ne.symm h2g, h32, Ne.symm h32, h3g, Ne.symm h3g]
  refine ⟨by simp [h32, h3g, hb3], DAny_done (by kernel_rfl) ?_⟩
  simp [h2g, Ne.symm h2g, h32, Ne.symm h32, h3g, Ne.symm h3g]
  exact retRO [.agg (ro (op2 (· * ·) x y)).c] 1 (by rw [ro_c (op2 _ x y)]; simp [h2g, Ne.symm h2g, h32, Ne.symm h32, h3g, Ne.symm h3g]) (by rw [ro_c (op2 _ x y)]; simp [frz, V.cl]) (by simp [hg, hb2, hb3])

theorem l04Add_ro (x y : Option Rat) (hx : okQ x) (hy : okQ y) : RO Try.prog 127 [.agg (ro x).c, .agg (ro y).c] (.agg (ro (op2 (· + ·) x y)).c) := by
  obtain ⟨hm, hd⟩ := okQ_len hx
  obtain ⟨hm2, hd2⟩ := okQ_len hy
  have n1 := len_mul hm hd2
  have n2 := len_mul hm2 hd
  have n3 := len_mul hd hd2
  have e0 : ∀ (a : Int) (b : Nat), sg (decide (a < 0)) (a.natAbs * b) = a * b := fun a b => by
    have := sg_mul a b
    have h0 : decide (((b : Nat) : Int) < 0) = false := decide_eq_false (by omega)
    rw [h0, Bool.bne_false, Int.natAbs_natCast] at this
    exact this
  have e : ∀ n : Int, n = nm x * dn y + nm y * dn x → lowQ (decide (n < 0)) n.natAbs (dn x * dn y) = op2 (· + ·) x y := fun n hn => by
    unfold lowQ op2
    rw [sg_self, hn]
    cases x with
    | none => simp [dn]
    | some a =>
      cases y with
      | none => simp [dn]
      | some b =>
        rw [if_neg (show ¬ dn (some a) * dn (some b) = 0 from Nat.mul_ne_zero a.den_nz b.den_nz)]
        simp only [nm, dn]
        rw [← Rat.add_def']
  have o1 := l04One_ro (dn x)
  have o2 := l04One_ro (dn y)
  refine ro_of2 Try.func127 rfl rfl (by rw [Try.ntmps127]; simp) fun bl => ?_
  rw [Try.ntmps127, Try.results127]
  refine AW_runA ?_
  rw [ro_c x, ro_c y]
  simp
  intro g hg0 hg g2 hg2 h2g hb2 g3 hg3 h32 h3g hb3
  refine AW_run ?_
  simp
  refine AW_way [(2, .loc g 3 0 0), (3, .loc g2 3 0 0), (4, .loc g3 3 0 0)] _ _ 16 (.bool (decide (dn x = 1) && decide (dn y = 1))) (upd (upd (upd bl g (some ⟨3, [[.bool (decide (nm x < 0)), .sl (iv (lim (nm x).natAbs)), .sl (iv (lim (dn x)))]]⟩)) g2 (some ⟨3, [[.bool (decide (nm y < 0)), .sl (iv (lim (nm y).natAbs)), .sl (iv (lim (dn y)))]]⟩)) g3 (some ⟨3, [[.bool false, .nils, .nils]]⟩)) ⟨rfl, by simp, Sub.refl _⟩ rfl ?_ ?_
  · simp [h2g, Ne.symm h2g, h32, Ne.symm h32, h3g, Ne.symm h3g]
    refine callP_ro o1 ?_
    simp [h2g, Ne.symm h2g, h32, Ne.symm h32, h3g, Ne.symm h3g]
    refine ⟨fun h => ?_, fun h => ?_⟩
    · refine callP_ro o2 ?_
      simp [h]
    · simp [h]
  have w : ro (op2 (· + ·) x y) = ro (op2 (· + ·) x y) := rfl
  by_cases hone : dn x = 1 ∧ dn y = 1
  · have e1 := e (nm x + nm y) (by rw [hone.1, hone.2]; simp)
    rw [hone.1, hone.2] at e1
    have l1 : (lim (nm x + nm y).natAbs).length ≤ 25 := len_mono (Int.natAbs_add_le _ _) (len_add hm hm2)
    simp [hone.1, hone.2, h2g, Ne.symm h2g, h32, Ne.symm h32, h3g, Ne.symm h3g]
    refine callP_ro (l03Add_ro (nm x) (nm y) (by omega) (by omega)) ?_
    simp [h2g, Ne.symm h2g, h32, Ne.symm h32, h3g, Ne.symm h3g]
    intro g4 hg4
    intros
    have h4g : ¬ g4 = g := by assumption
    have h42 : ¬ g4 = g2 := by assumption
    have h43 : ¬ g4 = g3 := by assumption
    have hb4 : bl g4 = none := by assumption
    simp [h2g, Ne.symm h2g, h32, Ne.symm h32, h3g, Ne.symm h3g, h4g, Ne.symm h4g, h42, Ne.symm h42, h43, Ne.symm h43, biC_def]
    intro g5 hg5
    intros
    have h5g : ¬ g5 = g := by assumption
    have h52 : ¬ g5 = g2 := by assumption
    have h53 : ¬ g5 = g3 := by assumption
    have h54 : ¬ g5 = g4 := by assumption
    have hb5 : bl g5 = none := by assumption
    refine callP_gro 1 (upd (upd (upd (upd bl g (some ⟨3, [[.bool (decide (nm x < 0)), .sl (iv (lim (nm x).natAbs)), .sl (iv (lim 1))]]⟩)) g2 (some ⟨3, [[.bool (decide (nm y < 0)), .sl (iv (lim (nm y).natAbs)), .sl (iv (lim 1))]]⟩)) g3 (some ⟨3, [[.bool false, .nils, .nils]]⟩)) g4 (some ⟨2, [[.bool (decide (nm x + nm y < 0)), .sl (iv (lim (nm x + nm y).natAbs))]]⟩)) [.bool (decide (nm x + nm y < 0)), .sl (iv (lim (nm x + nm y).natAbs)), .sl (iv (lim 1))] (by simp [h2g, Ne.symm h2g, h32, Ne.symm h32, h3g, Ne.symm h3g, h4g, Ne.symm h4g, h42, Ne.symm h42, h43, Ne.symm h43, h5g, Ne.symm h5g, h52, Ne.symm h52, h53, Ne.symm h53, h54, Ne.symm h54, hb5]) (by simp [frz, dropB, V.cl, lim1, iv, Int.not_lt.2 hg5, h2g, Ne.symm h2g, h32, Ne.symm h32, h3g, Ne.symm h3g, h4g, Ne.symm h4g, h42, Ne.symm h42, h43, Ne.symm h43, h5g, Ne.symm h5g, h52, Ne.symm h52, h53, Ne.symm h53, h54, Ne.symm h54, hb5]) (l04Low_ro _ _ 1 (by omega) (by rw [lim1]; simp)) ?_
    rw [show lowQ (decide (nm x + nm y < 0)) (nm x + nm y).natAbs 1 = op2 (· + ·) x y from e1, ro_c (op2 _ x y)]
    simp [h2g, Ne.symm h2g, h32, Ne.symm h32, h3g, Ne.symm h3g, h4g, Ne.symm h4g, h42, Ne.symm h42, h43, Ne.symm h43, h5g, Ne.symm h5g, h52, Ne.symm h52, h53, Ne.symm h53, h54, Ne.symm h54]
    exact retRO [.agg (ro (op2 (· + ·) x y)).c] 1 (by rw [ro_c (op2 _ x y)]; simp [h2g, Ne.symm h2g, h32, Ne.symm h32, h3g, Ne.symm h3g, h4g, Ne.symm h4g, h42, Ne.symm h42, h43, Ne.symm h43, h5g, Ne.symm h5g, h52, Ne.symm h52, h53, Ne.symm h53, h54, Ne.symm h54]) (by rw [ro_c (op2 _ x y)]; simp [frz, V.cl]) (by simp [hg, hb2, hb3, hb4, hb5])
  · have hone2 : (decide (dn x = 1) && decide (dn y = 1)) = false := by
      rw [Bool.eq_false_iff]; simpa using hone
    rw [hone2]
    simp
    refine AW_mixedB mixedO (upd (upd (upd bl g (some ⟨3, [[.bool (decide (nm x < 0)), .sl (iv (lim (nm x).natAbs)), .sl (iv (lim (dn x)))]]⟩)) g2 (some ⟨3, [[.bool (decide (nm y < 0)), .sl (iv (lim (nm y).natAbs)), .sl (iv (lim (dn y)))]]⟩)) g3 (some ⟨3, [[.bool false, .nils, .nils]]⟩)) (Sub.refl _) [0, 1, 2, 3, 4, 5, 6, 7, 8, 9] 2 (by kernel_rfl) ?_
    simp [h2g, Ne.symm h2g, h32, Ne.symm h32, h3g, Ne.symm h3g]
    refine hcQ_ro (l02Mul_ro _ _ (by omega) (by omega)) ?_
    simp [h2g, Ne.symm h2g, h32, Ne.symm h32, h3g, Ne.symm h3g]
    refine hcQ_ro (l03Make_ro _ _ (by omega)) ?_
    rw [e0]
    simp [h2g, Ne.symm h2g, h32, Ne.symm h32, h3g, Ne.symm h3g]
    refine DAny_one (i := 10) (by kernel_rfl) rfl rfl ?_
    simp [h2g, Ne.symm h2g, h32, Ne.symm h32, h3g, Ne.symm h3g]
    intro g4 hg4
    intros
    have h4g : ¬ g4 = g := by assumption
    have h42 : ¬ g4 = g2 := by assumption
    have h43 : ¬ g4 = g3 := by assumption
    have hb4 : bl g4 = none := by assumption
    refine ⟨by simp [h2g, Ne.symm h2g, h32, Ne.symm h32, h3g, Ne.symm h3g, h4g, Ne.symm h4g, h42, Ne.symm h42, h43, Ne.symm h43, hb2, hb3, hb4], DAny_one (i := 11) (by kernel_rfl) rfl rfl ?_⟩
    simp [h2g, Ne.symm h2g, h32, Ne.symm h32, h3g, Ne.symm h3g, h4g, Ne.symm h4g, h42, Ne.symm h42, h43, Ne.symm h43, biC_def]
    refine ⟨by simp [h2g, Ne.symm h2g, h32, Ne.symm h32, h3g, Ne.symm h3g, h4g, Ne.symm h4g, h42, Ne.symm h42, h43, Ne.symm h43, hb2, hb3, hb4], DAny_done (by kernel_rfl) ?_⟩
    simp [h2g, Ne.symm h2g, h32, Ne.symm h32, h3g, Ne.symm h3g, h4g, Ne.symm h4g, h42, Ne.symm h42, h43, Ne.symm h43]
    refine AW_run ?_
    refine AW_mixedB mixedO (upd (upd (upd (upd bl g (some ⟨3, [[.bool (decide (nm x < 0)), .sl (iv (lim (nm x).natAbs)), .sl (iv (lim (dn x)))]]⟩)) g2 (some ⟨3, [[.bool (decide (nm y < 0)), .sl (iv (lim (nm y).natAbs)), .sl (iv (lim (dn y)))]]⟩)) g3 (some ⟨3, [[.bool false, .nils, .nils]]⟩)) g4 (some ⟨2, [[.bool (decide (nm x * dn y < 0)), .sl (iv (lim (nm x * dn y).natAbs))]]⟩)) (Sub.refl _) [0, 1, 2, 3, 4, 5, 6, 7, 8, 9] 2 (by kernel_rfl) ?_
    simp [h2g, Ne.symm h2g, h32, Ne.symm h32, h3g, Ne.symm h3g, h4g, Ne.symm h4g, h42, Ne.symm h42, h43, Ne.symm h43]
    refine hcQ_ro (l02Mul_ro _ _ (by omega) (by omega)) ?_
    simp [h2g, Ne.symm h2g, h32, Ne.symm h32, h3g, Ne.symm h3g, h4g, Ne.symm h4g, h42, Ne.symm h42, h43, Ne.symm h43]
    refine hcQ_ro (l03Make_ro _ _ (by omega)) ?_
    rw [e0]
    simp [h2g, Ne.symm h2g, h32, Ne.symm h32, h3g, Ne.symm h3g, h4g, Ne.symm h4g, h42, Ne.symm h42, h43, Ne.symm h43]
    refine DAny_one (i := 10) (by kernel_rfl) rfl rfl ?_
    simp [h2g, Ne.symm h2g, h32, Ne.symm h32, h3g, Ne.symm h3g, h4g, Ne.symm h4g, h42, Ne.symm h42, h43, Ne.symm h43]
    intro g5 hg5
    intros
    have h5g : ¬ g5 = g := by assumption
    have h52 : ¬ g5 = g2 := by assumption
    have h53 : ¬ g5 = g3 := by assumption
    have h54 : ¬ g5 = g4 := by assumption
    have hb5 : bl g5 = none := by assumption
    refine ⟨by simp [h2g, Ne.symm h2g, h32, Ne.symm h32, h3g, Ne.symm h3g, h4g, Ne.symm h4g, h42, Ne.symm h42, h43, Ne.symm h43, h5g, Ne.symm h5g, h52, Ne.symm h52, h53, Ne.symm h53, h54, Ne.symm h54, hb2, hb3, hb4, hb5], DAny_one (i := 11) (by kernel_rfl) rfl rfl ?_⟩
    simp [h2g, Ne.symm h2g, h32, Ne.symm h32, h3g, Ne.symm h3g, h4g, Ne.symm h4g, h42, Ne.symm h42, h43, Ne.symm h43, h5g, Ne.symm h5g, h52, Ne.symm h52, h53, Ne.symm h53, h54, Ne.symm h54, biC_def]
    refine ⟨by simp [h2g, Ne.symm h2g, h32, Ne.symm h32, h3g, Ne.symm h3g, h4g, Ne.symm h4g, h42, Ne.symm h42, h43, Ne.symm h43, h5g, Ne.symm h5g, h52, Ne.symm h52, h53, Ne.symm h53, h54, Ne.symm h54, hb2, hb3, hb4, hb5], DAny_done (by kernel_rfl) ?_⟩
    simp [h2g, Ne.symm h2g, h32, Ne.symm h32, h3g, Ne.symm h3g, h4g, Ne.symm h4g, h42, Ne.symm h42, h43, Ne.symm h43, h5g, Ne.symm h5g, h52, Ne.symm h52, h53, Ne.symm h53, h54, Ne.symm h54]
    refine callP_ro (l03Add_ro (nm x * dn y) (nm y * dn x) (by rw [Int.natAbs_mul, Int.natAbs_natCast]; omega) (by rw [Int.natAbs_mul, Int.natAbs_natCast]; omega)) ?_
    simp [h2g, Ne.symm h2g, h32, Ne.symm h32, h3g, Ne.symm h3g, h4g, Ne.symm h4g, h42, Ne.symm h42, h43, Ne.symm h43, h5g, Ne.symm h5g, h52, Ne.symm h52, h53, Ne.symm h53, h54, Ne.symm h54, biC_def]
    intro g6 hg6
    intros
    have h6g : ¬ g6 = g := by assumption
    have h62 : ¬ g6 = g2 := by assumption
    have h63 : ¬ g6 = g3 := by assumption
    have h64 : ¬ g6 = g4 := by assumption
    have h65 : ¬ g6 = g5 := by assumption
    have hb6 : bl g6 = none := by assumption
    try simp [h2g, Ne.symm h2g, h32, Ne.symm h32, h3g, Ne.symm h3g, h4g, Ne.symm h4g, h42, Ne.symm h42, h43, Ne.symm h43, h5g, Ne.symm h5g, h52, Ne.symm h52, h53, Ne.symm h53, h54, Ne.symm h54, h6g, Ne.symm h6g, h62, Ne.symm h62, h63, Ne.symm h63, h64, Ne.symm h64, h65, Ne.symm h65]
    refine AW_run ?_
    refine AW_mixedB mixedO (upd (upd (upd (upd (upd bl g (some ⟨3, [[.bool (decide (nm x < 0)), .sl (iv (lim (nm x).natAbs)), .sl (iv (lim (dn x)))]]⟩)) g2 (some ⟨3, [[.bool (decide (nm y < 0)), .sl (iv (lim (nm y).natAbs)), .sl (iv (lim (dn y)))]]⟩)) g4 (some ⟨2, [[.bool (decide (nm x * dn y < 0)), .sl (iv (lim (nm x * dn y).natAbs))]]⟩)) g5 (some ⟨2, [[.bool (decide (nm y * dn x < 0)), .sl (iv (lim (nm y * dn x).natAbs))]]⟩)) g6 (some ⟨2, [[.bool (decide (nm x * dn y + nm y * dn x < 0)), .sl (iv (lim (nm x * dn y + nm y * dn x).natAbs))]]⟩)) (by intro z b hz; simp only [upd_apply] at hz ⊢; grind) [0, 1, 2, 3, 4, 5, 6, 7, 8, 9] 1 (by kernel_rfl) ?_
    simp [h2g, Ne.symm h2g, h32, Ne.symm h32, h3g, Ne.symm h3g, h4g, Ne.symm h4g, h42, Ne.symm h42, h43, Ne.symm h43, h5g, Ne.symm h5g, h52, Ne.symm h52, h53, Ne.symm h53, h54, Ne.symm h54, h6g, Ne.symm h6g, h62, Ne.symm h62, h63, Ne.symm h63, h64, Ne.symm h64, h65, Ne.symm h65]
    refine hcQ_ro (l02Mul_ro _ _ (by omega) (by omega)) ?_
    simp [h2g, Ne.symm h2g, h32, Ne.symm h32, h3g, Ne.symm h3g, h4g, Ne.symm h4g, h42, Ne.symm h42, h43, Ne.symm h43, h5g, Ne.symm h5g, h52, Ne.symm h52, h53, Ne.symm h53, h54, Ne.symm h54, h6g, Ne.symm h6g, h62, Ne.symm h62, h63, Ne.symm h63, h64, Ne.symm h64, h65, Ne.symm h65]
    refine hcQ_ro (l04Low_ro _ _ _ ?_ (by omega)) ?_
    · exact len_mono (Int.natAbs_add_le _ _) (by rw [Int.natAbs_mul, Int.natAbs_mul, Int.natAbs_natCast, Int.natAbs_natCast]; have := len_add n1 n2; omega)
    rw [e _ rfl, ro_c (op2 _ x y)]
    simp [h2g, Ne.symm h2g, h32, Ne.symm h32, h3g, Ne.symm h3g, h4g, Ne.symm h4g, h42, Ne.symm h42, h43, Ne.symm h43, h5g, Ne.symm h5g, h52, Ne.symm h52, h53, Ne.symm h53, h54, Ne.symm h54, h6g, Ne.symm h6g, h62, Ne.symm h62, h63, Ne.symm h63, h64, Ne.symm h64, h65, Ne.symm h65]
    refine DAny_one (i := 10) (by kernel_rfl) rfl rfl ?_
    simp [h2g, Ne.symm h2g, h32, Ne.symm h32, h3g, Ne.symm h3g, h4g, Ne.symm h4g, h42, Ne.symm h42, h43, Ne.symm h43, h5g, Ne.symm h5g, h52, Ne.symm h52, h53, Ne.symm h53, h54, Ne.symm h54, h6g, Ne.symm h6g, h62, Ne.symm h62, h63, Ne.symm h63, h64, Ne.symm h64, h65, Ne.symm h65]
    refine ⟨by intro z b hz; simp only [upd_apply] at hz ⊢; grind, DAny_done (by kernel_rfl) ?_⟩
    simp [h2g, Ne.symm h2g, h32, Ne.symm h32, h3g, Ne.symm h3g, h4g, Ne.symm h4g, h42, Ne.symm h42, h43, Ne.symm h43, h5g, Ne.symm h5g, h52, Ne.symm h52, h53, Ne.symm h53, h54, Ne.symm h54, h6g, Ne.symm h6g, h62, Ne.symm h62, h63, Ne.symm h63, h64, Ne.symm h64, h65, Ne.symm h65]
    exact retRO [.agg (ro (op2 (· + ·) x y)).c] 1 (by rw [ro_c (op2 _ x y)]; simp [h2g, Ne.symm h2g, h32, Ne.symm h32, h3g, Ne.symm h3g, h4g, Ne.symm h4g, h42, Ne.symm h42, h43, Ne.symm h43, h5g, Ne.symm h5g, h52, Ne.symm h52, h53, Ne.symm h53, h54, Ne.symm h54, h6g, Ne.symm h6g, h62, Ne.symm h62, h63, Ne.symm h63, h64, Ne.symm h64, h65, Ne.symm h65]) (by rw [ro_c (op2 _ x y)]; simp [frz, V.cl]) (by simp [hg, hb2, hb3, hb4, hb5, hb6])

/-! ### For all forms, valid or not -/
theorem rd_ro {x : Option Rat} (h : okQ x) : rd (ro x) = x := by
  cases x with
  | none => exact rd_rz
  | some q => exact rd_rq (h q rfl)
theorem RatSub_ro (r s : RT) (hr : r.le 1048576) (hs : s.le 1048576) : RO Try.prog 79 [.agg r.c, .agg s.c] (.agg (ro (op2 (· - ·) (rd r) (rd s))).c) := by
  have k1 := spec_RatOk_ro r (by have := hr.1; omega) (by have := hr.2; omega)
  have k2 := spec_RatOk_ro s (by have := hs.1; omega) (by have := hs.2; omega)
  refine ro_of2 Try.func79 rfl rfl (by rw [Try.ntmps79]; simp) fun bl => ?_
  rw [Try.ntmps79, Try.results79]
  refine AW_runA ?_
  rw [ro_c (op2 _ _ _)]
  simp [RT.c]
  intro g hg0 hg g2 hg2 h2g hb2 g3 hg3 h32 h3g hb3
  refine AW_run ?_
  simp
  refine AW_way [(2, .loc g 3 0 0), (3, .loc g2 3 0 0), (4, .loc g3 3 0 0)] _ (upd (upd (upd bl g (some ⟨3, [r.c]⟩)) g2 (some ⟨3, [s.c]⟩)) g3 (some ⟨3, [[.bool false, .nils, .nils]]⟩)) 12 (.bool (!decide r.ok || !decide s.ok)) (upd (upd (upd bl g (some ⟨3, [r.c]⟩)) g2 (some ⟨3, [s.c]⟩)) g3 (some ⟨3, [[.bool false, .nils, .nils]]⟩)) ⟨rfl, by simp, sub_eq (by simp [RT.c])⟩ rfl ?_ ?_
  · simp [RT.c, h2g, Ne.symm h2g, h32, Ne.symm h32, h3g, Ne.symm h3g]
    refine callP_ro k1 ?_
    simp [h2g, Ne.symm h2g, h32, Ne.symm h32, h3g, Ne.symm h3g]
    refine ⟨fun h => ?_, fun h => ?_⟩
    · simp [h]
    · simp [h, h2g, Ne.symm h2g, h32, Ne.symm h32, h3g, Ne.symm h3g]
      refine callP_ro k2 ?_
      simp [h]
  by_cases h1 : r.ok
  · by_cases h2 : s.ok
    · obtain ⟨a, ea⟩ : ∃ q, rd r = some q := ⟨_, by unfold rd; rw [if_pos h1]⟩
      obtain ⟨b, eb⟩ : ∃ q, rd s = some q := ⟨_, by unfold rd; rw [if_pos h2]⟩
      obtain ⟨ra, fa⟩ := rd_some ea
      obtain ⟨sb, fb⟩ := rd_some eb
      have oa : okQ (some a) := fun q h => by cases h; exact fa
      have ob : okQ (some b) := fun q h => by cases h; exact fb
      have c1 := l04Neg_ro (some b) ob
      have c2 := l04Add_ro (some a) (some (-b)) oa (okQ_neg ob)
      have er : op2 (· + ·) (some a) (some (-b)) = op2 (· - ·) (rd r) (rd s) := by
        rw [ea, eb]; unfold op2; simp only; rw [Rat.sub_eq_add_neg]
      rw [er] at c2
      clear er
      generalize op2 (· - ·) (rd r) (rd s) = z at c2 ⊢
      rw [ro_c z] at c2
      rw [show (ro (some b)) = s from sb.symm] at c1
      rw [show (ro (some a)) = r from ra.symm] at c2
      simp [h1, h2]
      refine AW_mixedB mixedO (upd (upd bl g (some ⟨3, [r.c]⟩)) g2 (some ⟨3, [s.c]⟩)) (by simp [RT.c, h2g, Ne.symm h2g, h32, Ne.symm h32, h3g, Ne.symm h3g, hb3]) [0, 1, 2, 3] 1 (by kernel_rfl) ?_
      simp [h2g, Ne.symm h2g, h32, Ne.symm h32, h3g, Ne.symm h3g, RT.c]
      refine hcQ_ro c1 ?_
      simp [h2g, Ne.symm h2g, h32, Ne.symm h32, h3g, Ne.symm h3g]
      refine hcQ_ro c2 ?_
      simp [h2g, Ne.symm h2g, h32, Ne.symm h32, h3g, Ne.symm h3g]
      refine DAny_one (i := 4) (by kernel_rfl) rfl rfl ?_
      simp [h2g, Ne.symm h2g, h32, Ne.symm h32, h3g, Ne.symm h3g]
      refine ⟨by simp [h32, h3g, hb3], DAny_done (by kernel_rfl) ?_⟩
      simp [h2g, Ne.symm h2g, h32, Ne.symm h32, h3g, Ne.symm h3g]
      exact retRO [.agg [.bool (decide (nm z < 0)), .sl (iv (lim (nm z).natAbs)), .sl (iv (lim (dn z)))]] 1 (by simp [h2g, Ne.symm h2g, h32, Ne.symm h32, h3g, Ne.symm h3g]) (by simp [frz, V.cl]) (by simp [hg, hb2, hb3])
    · have eb : rd s = none := by unfold rd; rw [if_neg h2]
      have er : op2 (· - ·) (rd r) (rd s) = none := by rw [eb]; cases rd r <;> rfl
      rw [er]
      simp [h1, h2]
      exact retRO [.agg [.bool false, .nils, .nils]] 1 (by simp [h2g, Ne.symm h2g, h32, Ne.symm h32, h3g, Ne.symm h3g]) (by simp [frz, nm, dn, V.cl, iv, lim_zero]) (by simp [hg, hb2, hb3])
  · have eb : rd r = none := by unfold rd; rw [if_neg h1]
    have er : op2 (· - ·) (rd r) (rd s) = none := by rw [eb]; rfl
    rw [er]
    simp [h1]
    exact retRO [.agg [.bool false, .nils, .nils]] 1 (by simp [h2g, Ne.symm h2g, h32, Ne.symm h32, h3g, Ne.symm h3g]) (by simp [frz, nm, dn, V.cl, iv, lim_zero]) (by simp [hg, hb2, hb3])

end Go.Proofs.Ythhjmaianlmfpaa.Vm

namespace Go.Proofs.Ythhjmaianlmfpaa.Vm
open Go Go.Proofs
set_option linter.unusedSimpArgs false
set_option linter.unusedVariables false

theorem fewer_nw (n : Int) (hn : (lim n.natAbs).length ≤ 60) : NW Try.prog 181 [.agg (biC n)] (.a (dB (decide (n < 0)) (lim n.natAbs))) := by
  refine nw_of Try.func181 rfl rfl (by rw [Try.ntmps181]; simp) fun bl => ?_
  rw [Try.ntmps181, Try.results181]
  refine AW_run ?_
  rw [biC_def]
  simp
  intro g1 hg1 hb1 g2 hg2 h21 hb2
  try simp [h21, Ne.symm h21]
  refine ⟨fun h => by omega, fun h => ?_⟩
  try simp [h21, Ne.symm h21]
  refine AW_mixedB mixedO (upd bl g1 (some ⟨2, [[.bool (decide (n < 0)), .sl (iv (lim n.natAbs))]]⟩)) (by simp [h21, hb2]) [0, 1, 2, 3] 3 (by kernel_rfl) ?_
  simp [h21, Ne.symm h21]
  refine DAny_one (i := 4) (by kernel_rfl) rfl rfl ?_
  simp [h21, Ne.symm h21]
  refine callP_new (Clone_ints_nw (lim n.natAbs) (by omega)) fun v gs b o f fr => ?_
  obtain ⟨c1, c2⟩ := o.one
  have e1 : ∀ x, x ∈ gs → x ≠ g1 ∧ x ≠ g2 ∧ bl x = none := fun x hx => by have := f x hx; simp [upd_apply] at this; grind
  have n1 : b g1 = _ := fr g1 fun h => (e1 g1 h).1 rfl
  have n2 : b g2 = _ := fr g2 fun h => (e1 g2 h).2.1 rfl
  simp [h21, Ne.symm h21] at n1 n2
  have hs : Sub bl b := fun x y hy => by
    have z1 : x ≠ g1 := fun h => by rw [h, hb1] at hy; cases hy
    have z2 : x ≠ g2 := fun h => by rw [h, hb2] at hy; cases hy
    exact new_keep f fr (by simp [upd_apply, z1, z2, hy])
  have hs1 : Sub (upd bl g1 (some ⟨2, [[.bool (decide (n < 0)), .sl (iv (lim n.natAbs))]]⟩)) b := fun x y hy => by
    rw [upd_apply] at hy
    split at hy
    · rename_i h; subst h; rw [n1]; exact hy
    · exact hs x y hy
  refine ⟨hs1, DAny_one (i := 5) (by kernel_rfl) rfl rfl ?_⟩
  simp [h21, Ne.symm h21, n1, n2, c1, c2]
  refine ⟨hs1, DAny_one (i := 6) (by kernel_rfl) rfl rfl ?_⟩
  simp [h21, Ne.symm h21, n1, n2, c1, c2]
  refine ⟨hs1.upd (by simp [h21, hb2]) _, DAny_done (by kernel_rfl) ?_⟩
  simp [h21, Ne.symm h21, n1, n2, c1, c2]
  refine retNW [.agg [.bool (decide (n < 0)), v]] gs (by simp [c1, n1, n2]) ?_ (fun x hx => (e1 x hx).2.2) (hs.upd hb2 _)
  exact own_bi.2 ⟨v, rfl, o.frame fun x hx => by simp [upd_apply, (e1 x hx).2.1]⟩

theorem store_nw (x : Option Rat) (hx : okQ x) : NW Try.prog 129 [fv x] (.a (dR (ro x))) := by
  cases x with
  | none =>
    refine nw_of Try.func129 rfl rfl (by rw [Try.ntmps129]; simp) fun bl => ?_
    rw [Try.ntmps129, Try.results129]
    refine AW_run ?_
    simp [fv]
    intro g2 hg2 hb2
    refine retNW [.agg [.bool false, .nils, .nils]] [] (by simp) ?_ (by simp) (by simp [hb2])
    exact own_rt.2 ⟨.nils, .nils, [], [], rfl, rfl, by simp, own_iv.2 (.inl ⟨rfl, rfl, rfl⟩), own_iv.2 (.inl ⟨rfl, rfl, rfl⟩)⟩
  | some q =>
    have hf := hx q rfl
    have hl := hf.1
    have hl2 := hf.2
    refine nw_of Try.func129 rfl rfl (by rw [Try.ntmps129]; simp) fun bl => ?_
    rw [Try.ntmps129, Try.results129]
    refine AW_run ?_
    rw [show fv (some q) = .ptr (rq q).c from rfl, rqc_def]
    simp
    intro g2 hg2 hb2
    refine AW_mixedB mixedO bl (by simp [hb2]) [0, 1, 2, 3, 5, 6, 7, 8] 4 (by kernel_rfl) ?_
    simp
    refine DAny_one (i := 4) (by kernel_rfl) rfl rfl ?_
    simp
    have hfw := fewer_nw q.num (by omega)
    rw [biC_def] at hfw
    refine callP_new hfw fun v gs b o f fr => ?_
    obtain ⟨vm, rfl, om⟩ := own_bi.1 o
    obtain ⟨c1, c2⟩ := om.one
    have e1 : ∀ x, x ∈ gs → x ≠ g2 ∧ bl x = none := fun x hx => by have := f x hx; simp [upd_apply] at this; exact this
    have n2 : b g2 = _ := fr g2 fun h => (e1 g2 h).1 rfl
    simp at n2
    have hs : Sub bl b := fun x y hy => by
      have z2 : x ≠ g2 := fun h => by rw [h, hb2] at hy; cases hy
      exact new_keep f fr (by simp [upd_apply, z2, hy])
    refine ⟨hs, DAny_one (i := 9) (by kernel_rfl) rfl rfl ?_⟩
    simp
    refine callP_new (Clone_ints_nw (lim q.den) (by omega)) fun w gw b2 ow f2 fr2 => ?_
    obtain ⟨d1, d2⟩ := ow.one
    have m2 : b2 g2 = _ := new_keep f2 fr2 n2
    have hs2 : Sub bl b2 := fun x y hy => new_keep f2 fr2 (hs x y hy)
    have e3 : ∀ x, x ∈ gw → x ≠ g2 := fun x hx h => by have := f2 x hx; rw [h, n2] at this; cases this
    have e4 : ∀ x, x ∈ gs → x ∉ gw := fun x hx h => by
      obtain ⟨y, hy⟩ := om.has x hx
      rw [f2 x h] at hy; cases hy
    refine ⟨hs2, DAny_one (i := 10) (by kernel_rfl) rfl rfl ?_⟩
    simp [m2, c1, c2, d1, d2]
    refine ⟨hs2, DAny_one (i := 11) (by kernel_rfl) rfl rfl ?_⟩
    simp [m2, c1, c2, d1, d2]
    refine ⟨hs2.upd hb2 _, DAny_done (by kernel_rfl) ?_⟩
    simp [m2, c1, c2, d1, d2]
    refine retNW [.agg [.bool (decide (q.num < 0)), vm, w]] (gs ++ gw) (by simp [c1, d1, m2]) ?_ (fun x hx => ?_) (hs2.upd hb2 _)
    · refine own_rt.2 ⟨vm, w, gs, gw, rfl, rfl, e4, om.frame fun x hx => ?_, ow.frame fun x hx => ?_⟩
      · simp only [upd_apply]; rw [if_neg (e1 x hx).1]; exact fr2 x (e4 x hx)
      · simp only [upd_apply]; rw [if_neg (e3 x hx)]
    · rcases List.mem_append.1 hx with hx | hx
      · exact (e1 x hx).2
      · exact fresh_of hs (f2 x hx)

def dT (r : RT) (b : Bool) : D := .t [.a (dR r), .c (.bool b)]
theorem own_dT {bl : Int → Option Blk} {r : RT} {b : Bool} {v : V} {gs : List Int} : OwnD bl (dT r b) v gs ↔ ∃ vs, v = .tup [.agg vs, .bool b] ∧ OwnL bl (dR r) vs gs := by
  unfold dT
  rw [OwnD]
  constructor
  · rintro ⟨vs, rfl, h⟩
    obtain ⟨v, w, g1, g2, rfl, rfl, hd, h1, h2⟩ := own_pair.1 h
    rw [OwnD] at h2
    obtain ⟨rfl, _, rfl⟩ := h2
    rw [OwnD] at h1
    obtain ⟨vs, rfl, h1⟩ := h1
    exact ⟨vs, rfl, by simpa using h1⟩
  · rintro ⟨vs, rfl, h⟩
    refine ⟨_, rfl, own_pair.2 ⟨.agg vs, .bool b, gs, [], rfl, by simp, fun x hx h => (by cases h), by rw [OwnD]; exact ⟨vs, rfl, h⟩, own_bool b⟩⟩
theorem told_nw (x : Option Rat) (hx : okQ x) : NW Try.prog 80 [fv x] (dT (ro x) x.isSome) := by
  cases x with
  | none =>
    refine nw_of Try.func80 rfl rfl (by rw [Try.ntmps80]; simp) fun bl => ?_
    rw [Try.ntmps80, Try.results80]
    refine AW_run ?_
    simp [fv]
    intro g2 hg2 hb2
    refine retNW [.agg [.bool false, .nils, .nils], .bool false] [] (by simp) ?_ (by simp) (by simp [hb2])
    exact own_dT.2 ⟨_, rfl, own_rtL.2 ⟨.nils, .nils, [], [], rfl, rfl, by simp, own_iv.2 (.inl ⟨rfl, rfl, rfl⟩), own_iv.2 (.inl ⟨rfl, rfl, rfl⟩)⟩⟩
  | some q =>
    refine nw_of Try.func80 rfl rfl (by rw [Try.ntmps80]; simp) fun bl => ?_
    rw [Try.ntmps80, Try.results80]
    refine AW_run ?_
    simp [fv]
    intro g2 hg2 hb2
    refine callP_new (store_nw (some q) hx) fun v gs b o f fr => ?_
    obtain ⟨vm, vd, ga, gb, rfl, rfl, hd, om, od⟩ := own_rt.1 o
    obtain ⟨c1, c2⟩ := om.one
    obtain ⟨d1, d2⟩ := od.one
    have e1 : ∀ x, x ∈ ga ++ gb → x ≠ g2 ∧ bl x = none := fun x hx => by have := f x hx; simp only [upd_apply] at this; split at this <;> simp_all
    have n2 : b g2 = some ⟨3, [[.bool false, .nils, .nils]]⟩ := new_keep f fr (by simp)
    have hs : Sub bl b := fun x y hy => by
      have z2 : x ≠ g2 := fun h => by rw [h, hb2] at hy; cases hy
      exact new_keep f fr (by simp [upd_apply, z2, hy])
    simp [n2, c1, d1]
    refine retNW [.agg [.bool (ro (some q)).neg, vm, vd], .bool true] (ga ++ gb) (by simp [c1, d1]) ?_ (fun x hx => (e1 x hx).2) (hs.upd hb2 _)
    refine own_dT.2 ⟨_, rfl, (own_rtL.2 ⟨vm, vd, ga, gb, rfl, rfl, hd, om, od⟩).frame fun x hx => by simp [upd_apply, (e1 x hx).1]⟩


/-- The width of a span, if it has one. -/
def widQ (s : SP) : Option Rat := if spOk s && !s.nl && !s.nh then op2 (· - ·) (rd s.hi) (rd s.lo) else none
theorem okQ_wid (s : SP) : okQ (widQ s) := by
  unfold widQ; split
  · exact okQ_op2 _ _ _
  · intro q h; cases h
theorem ok_ro {x : Option Rat} (h : okQ x) : decide (ro x).ok = x.isSome := by
  have := rd_ok (r := ro x)
  rw [rd_ro h] at this
  rw [Bool.eq_iff_iff, decide_eq_true_iff, this]
theorem ro_le {x : Option Rat} (h : okQ x) : (ro x).m.length ≤ 24 ∧ (ro x).d.length ≤ 24 := by
  cases x with
  | none => simp [ro, rz]
  | some q => exact h q rfl
theorem spec_WidthOf_ro (s : SP) (hs : s.le 1048576) : RO Try.prog 32 [.agg s.c] (.tup [.agg (ro (widQ s)).c, .bool (widQ s).isSome]) := by
  refine ro_of2 Try.func32 rfl rfl (by rw [Try.ntmps32]; simp) fun bl => ?_
  rw [Try.ntmps32, Try.results32]
  refine AW_runA ?_
  rw [ro_c (widQ s)]
  simp [SP.c]
  intro g hg0 hg g2 hg2 h2g hb2
  refine AW_run ?_
  simp [h2g, Ne.symm h2g]
  refine AW_way [(1, .loc g 8 0 0), (2, .loc g2 3 0 0), (3, .bool false)] _ (upd (upd bl g (some ⟨8, [s.c]⟩)) g2 (some ⟨3, [[.bool false, .nils, .nils]]⟩)) 15 (.bool (!(spOk s && !s.nl && !s.nh))) (upd (upd bl g (some ⟨8, [s.c]⟩)) g2 (some ⟨3, [[.bool false, .nils, .nils]]⟩)) ⟨rfl, by simp, sub_eq (by simp [SP.c])⟩ rfl ?_ ?_
  · simp [SP.c, h2g, Ne.symm h2g]
    refine callP_ro (spec_SpanOk_ro s hs) ?_
    cases spOk s <;> cases hnl : s.nl <;> cases hnh : s.nh <;> simp [SP.c, hnl, hnh, h2g, Ne.symm h2g]
  cases hw : (spOk s && !s.nl && !s.nh)
  · have hz : widQ s = none := by unfold widQ; rw [hw]; rfl
    rw [hz]
    simp
    exact retRO [.agg [.bool false, .nils, .nils], .bool false] 2 (by simp [h2g, Ne.symm h2g]) (by simp [frz, nm, dn, V.cl, iv, lim_zero]) (by simp [hg, hb2])
  · have hz : widQ s = op2 (· - ·) (rd s.hi) (rd s.lo) := by unfold widQ; rw [hw]; rfl
    have hc := RatSub_ro s.hi s.lo hs.2 hs.1
    have ho := okQ_wid s
    rw [← hz] at hc
    have hk := spec_RatOk_ro (ro (widQ s)) (by have := (ro_le ho).1; omega) (by have := (ro_le ho).2; omega)
    rw [ok_ro ho] at hk
    rw [ro_c (widQ s)] at hc hk
    simp [SP.c, h2g, Ne.symm h2g]
    refine callP_ro hc ?_
    simp [h2g, Ne.symm h2g]
    intro g3 hg3 h32 h3g hb3
    refine AW_mixedB mixedO (upd bl g3 (some ⟨3, [[.bool (decide (nm (widQ s) < 0)), .sl (iv (lim (nm (widQ s)).natAbs)), .sl (iv (lim (dn (widQ s))))]]⟩)) (by intro z b hz; simp only [upd_apply] at hz ⊢; grind) [0, 1, 2] 2 (by kernel_rfl) ?_
    simp [h2g, Ne.symm h2g, h32, Ne.symm h32, h3g, Ne.symm h3g]
    refine hcQ_ro hk ?_
    simp [h2g, Ne.symm h2g, h32, Ne.symm h32, h3g, Ne.symm h3g]
    refine DAny_one (i := 3) (by kernel_rfl) rfl rfl ?_
    simp [h2g, Ne.symm h2g, h32, Ne.symm h32, h3g, Ne.symm h3g]
    refine ⟨(by intro z b hz; simp only [upd_apply] at hz ⊢; grind), DAny_one (i := 4) (by kernel_rfl) rfl rfl ?_⟩
    simp [h2g, Ne.symm h2g, h32, Ne.symm h32, h3g, Ne.symm h3g]
    refine ⟨(by intro z b hz; simp only [upd_apply] at hz ⊢; grind), DAny_done (by kernel_rfl) ?_⟩
    simp [h2g, Ne.symm h2g, h32, Ne.symm h32, h3g, Ne.symm h3g]
    exact retRO [.agg [.bool (decide (nm (widQ s) < 0)), .sl (iv (lim (nm (widQ s)).natAbs)), .sl (iv (lim (dn (widQ s))))], .bool (widQ s).isSome] 2 (by simp [h2g, Ne.symm h2g, h32, Ne.symm h32, h3g, Ne.symm h3g]) (by simp [frz, V.cl]) (by simp [hg, hb2, hb3])
theorem impl_WidthOf_nw (s : SP) (hs : s.le 1048576) : NW Try.prog 33 [.agg s.c] (dT (ro (widQ s)) (widQ s).isSome) := by
  refine nw_of Try.func33 rfl rfl (by rw [Try.ntmps33]; simp) fun bl => ?_
  rw [Try.ntmps33, Try.results33]
  refine AW_run ?_
  simp [SP.c]
  intro g hg0 hg g2 hg2 h2g hb2
  simp [h2g, Ne.symm h2g]
  refine callP_ro (ends_ro s hs) ?_
  simp [h2g, Ne.symm h2g]
  refine AW_way [(1, .loc g 8 0 0), (2, .loc g2 3 0 0), (3, .bool false), (4, fv (if spBad s then none else rd s.lo)), (5, fv (if spBad s then none else rd s.hi)), (6, .bool (spOk s))] _ (upd (upd bl g (some ⟨8, [s.c]⟩)) g2 (some ⟨3, [[.bool false, .nils, .nils]]⟩)) 22 (.bool (!(spOk s && !s.nl && !s.nh))) (upd (upd bl g (some ⟨8, [s.c]⟩)) g2 (some ⟨3, [[.bool false, .nils, .nils]]⟩)) ⟨rfl, by simp, sub_eq (by simp [SP.c])⟩ rfl ?_ ?_
  · simp [SP.c, h2g, Ne.symm h2g]
    cases spOk s <;> cases hnl : s.nl <;> cases hnh : s.nh <;> simp [SP.c, hnl, hnh, h2g, Ne.symm h2g]
  cases hw : (spOk s && !s.nl && !s.nh)
  · have hz : widQ s = none := by unfold widQ; rw [hw]; rfl
    rw [hz]
    simp
    refine retNW [.agg [.bool false, .nils, .nils], .bool false] [] (by simp [h2g, Ne.symm h2g]) ?_ (by simp) (by simp [hg, hb2])
    exact own_dT.2 ⟨_, rfl, own_rtL.2 ⟨.nils, .nils, [], [], rfl, rfl, by simp, own_iv.2 (.inl ⟨rfl, rfl, rfl⟩), own_iv.2 (.inl ⟨rfl, rfl, rfl⟩)⟩⟩
  · have hz : widQ s = op2 (· - ·) (rd s.hi) (rd s.lo) := by unfold widQ; rw [hw]; rfl
    have hk : spOk s = true := by cases h : spOk s <;> simp [h] at hw ⊢
    obtain ⟨hb, a, b, ea, eb⟩ := spOk_some hk
    have ho := okQ_wid s
    rw [hb]
    have hc := sub_ro (rd s.hi) (rd s.lo) (okQ_rd _) (okQ_rd _)
    rw [← hz] at hc
    simp
    refine callP_ro hc ?_
    simp
    refine callP_new (told_nw (widQ s) ho) fun v gs b' o f fr => ?_
    obtain ⟨vs, rfl, ol⟩ := own_dT.1 o
    obtain ⟨vm, vd, ga, gb, rfl, rfl, hd, om, od⟩ := own_rtL.1 ol
    obtain ⟨c1, c2⟩ := om.one
    obtain ⟨d1, d2⟩ := od.one
    have e1 : ∀ x, x ∈ ga ++ gb → x ≠ g2 ∧ bl x = none := fun x hx => by have := f x hx; simp only [upd_apply] at this; split at this <;> simp_all
    have n2 : b' g2 = some ⟨3, [[.bool false, .nils, .nils]]⟩ := new_keep f fr (by simp)
    have hs : Sub bl b' := fun x y hy => by
      have z1 : x ≠ g := fun h => by rw [h, hg] at hy; cases hy
      have z2 : x ≠ g2 := fun h => by rw [h, hb2] at hy; cases hy
      exact new_keep f fr (by simp [upd_apply, z1, z2, hy])
    simp [n2, c1, d1]
    refine retNW [.agg [.bool (ro (widQ s)).neg, vm, vd], .bool (widQ s).isSome] (ga ++ gb) (by simp [c1, d1]) ?_ (fun x hx => (e1 x hx).2) (hs.upd hb2 _)
    refine own_dT.2 ⟨_, rfl, (own_rtL.2 ⟨vm, vd, ga, gb, rfl, rfl, hd, om, od⟩).frame fun x hx => by simp [upd_apply, (e1 x hx).1]⟩
theorem frz_rtL {bl : Int → Option Blk} {r : RT} {vs : List V} {gs : List Int} (h : OwnL bl (dR r) vs gs) (n : Nat) : frz bl (n + 2) (.agg vs) = some (.agg r.c) :=
  frz_rt (by rw [OwnD]; exact ⟨vs, rfl, h⟩) n
theorem own_sp1 {bl : Int → Option Blk} {s : SP} {vs : List V} {gs : List Int} (h : OwnL bl (dS s) vs gs) : ∃ vm vd wm wd, vs = [.bool s.lo.neg, vm, vd, .bool s.hi.neg, wm, wd, .bool s.nl, .bool s.nh] ∧ vm.one = true ∧ vd.one = true ∧ wm.one = true ∧ wd.one = true := by
  obtain ⟨v1, v2, ga, gb, rfl, rfl, hd, o1, o2⟩ := own_spL.1 h
  obtain ⟨vm, vd, _, _, rfl, rfl, _, om, od⟩ := own_rtL.1 o1
  obtain ⟨wm, wd, _, _, rfl, rfl, _, om2, od2⟩ := own_rtL.1 o2
  exact ⟨vm, vd, wm, wd, rfl, om.one.1, od.one.1, om2.one.1, od2.one.1⟩
theorem own_rt1 {bl : Int → Option Blk} {r : RT} {vs : List V} {gs : List Int} (h : OwnL bl (dR r) vs gs) : ∃ vm vd, vs = [.bool r.neg, vm, vd] ∧ vm.one = true ∧ vd.one = true := by
  obtain ⟨vm, vd, _, _, rfl, rfl, _, om, od⟩ := own_rtL.1 h
  exact ⟨vm, vd, rfl, om.one.1, od.one.1⟩

end Go.Proofs.Ythhjmaianlmfpaa.Vm

namespace Go.Proofs.Ythhjmaianlmfpaa.Vm
open Go Go.Proofs
set_option linter.unusedSimpArgs false
set_option linter.unusedVariables false

/-! ### Lists of fractions that may be none -/
def fvs (xs : List (Option Rat)) : List (List V) := xs.map fun x => [fv x]
@[simp] theorem fvs_length (xs : List (Option Rat)) : (fvs xs).length = xs.length := by simp [fvs]
@[simp] theorem fvs_getE (xs : List (Option Rat)) (i : Nat) (h : i < (fvs xs).length) : (fvs xs)[i] = [fv (xs[i]'(by simpa using h))] := by simp [fvs]
@[simp] theorem fv_cl (x : Option Rat) : (fv x).cl = true := by cases x <;> rfl
@[simp] theorem fv_one (x : Option Rat) : (fv x).one = true := by cases x <;> rfl
@[simp] theorem fv_cells (x : Option Rat) : (fv x).cells = [fv x] := by cases x <;> rfl
theorem fvs_cl (xs : List (Option Rat)) : (fvs xs).all (fun r => r.all V.cl) = true := by simp [fvs]
theorem fvs_clen (xs : List (Option Rat)) : ∀ r, r ∈ fvs xs → r.length = 1 := by
  intro r hr
  obtain ⟨n, _, rfl⟩ := List.mem_map.1 hr
  rfl
theorem own_fvs {bl : Int → Option Blk} {xs : List (Option Rat)} {v : V} {gs : List Int} : OwnD bl (fl 1 (fvs xs)) v gs ↔ (xs = [] ∧ v = .nils ∧ gs = []) ∨ ∃ g, v = .lsl g 1 0 xs.length ∧ gs = [g] ∧ bl g = some ⟨1, fvs xs⟩ ∧ (g < 0 → xs = []) := by
  rw [own_fl (fvs_cl xs) (fvs_clen xs)]
  simp [fvs]
def okL (xs : List (Option Rat)) : Prop := ∀ x, x ∈ xs → okQ x
/-- A list and whether it is one. -/
def dL (xs : List (Option Rat)) (b : Bool) : D := .t [fl 1 (fvs xs), .c (.bool b)]
theorem own_two {bl : Int → Option Blk} {d : D} {b : Bool} {v : V} {gs : List Int} : OwnD bl (.t [d, .c (.bool b)]) v gs ↔ ∃ w, v = .tup [w, .bool b] ∧ OwnD bl d w gs := by
  rw [OwnD]
  constructor
  · rintro ⟨vs, rfl, h⟩
    obtain ⟨v, w, g1, g2, rfl, rfl, hd, h1, h2⟩ := own_pair.1 h
    rw [OwnD] at h2
    obtain ⟨rfl, _, rfl⟩ := h2
    exact ⟨v, rfl, by simpa using h1⟩
  · rintro ⟨w, rfl, h⟩
    exact ⟨_, rfl, own_pair.2 ⟨w, .bool b, gs, [], rfl, by simp, fun x hx h => (by cases h), h, own_bool b⟩⟩
theorem dL_dep (xs : List (Option Rat)) (b : Bool) (n : Nat) : (dL xs b).dep (n + 2) := by
  unfold dL; rw [D.dep]; exact ⟨by omega, by simp [D.depL, D.dep, fl_dep]⟩
theorem dL_fz (xs : List (Option Rat)) (b : Bool) : (dL xs b).fz = .tup [.sl (fvs xs), .bool b] := by simp [dL, D.fz, D.fzL]

def allOk (rs : List RT) : Bool := rs.all fun r => (rd r).isSome
def rdAll (rs : List RT) : List (Option Rat) := rs.map rd
@[simp] theorem rdAll_length (rs : List RT) : (rdAll rs).length = rs.length := by simp [rdAll]
theorem rdAll_ok (rs : List RT) : okL (rdAll rs) := by
  intro x hx
  obtain ⟨r, _, rfl⟩ := List.mem_map.1 hx
  exact okQ_rd r

theorem loads_nw (rs : List RT) (hq : fitQ rs 1048576) : NW Try.prog 136 [.sl (rv rs)] (dL (if allOk rs = true then rdAll rs else []) (allOk rs)) := by
  have hw := hq.1
  refine nw_of Try.func136 rfl rfl (by rw [Try.ntmps136]; simp) fun bl => ?_
  rw [Try.ntmps136, Try.results136]
  refine AW_run ?_
  simp
  refine ⟨by omega, by unfold maxLen; omega, fun g hg0 hg => ?_⟩
  refine AW_for (fun i : Nat => [(4, .lsl g 1 0 rs.length), (10, .sl (rv rs)), (11, .int .i64 rs.length), (12, .int .i64 i)]) (fun i => upd bl g (some ⟨1, part (fvs (rdAll rs)) [.nilp] i⟩)) (fun i => i ≤ rs.length ∧ ∀ r, r ∈ rs.take i → (rd r).isSome = true) (fun i => rs.length - i) _ 0 ⟨Nat.zero_le _, by simp⟩ ⟨rfl, by simp, sub_eq (by simp)⟩ ?_
  rintro i ⟨hi, hall⟩
  refine AW_run ?_
  simp
  refine ⟨fun h => ?_, fun h => ?_⟩
  · have hi' : i < (fvs (rdAll rs)).length := by simpa using h
    simp [h, RT.c]
    intro g2 hg2 h2g hb2
    try simp [h2g, Ne.symm h2g]
    have hr := hq.2 _ (List.getElem_mem h)
    refine callP_ro (load_ro rs[i] (by have := hr.1; omega) (by have := hr.2; omega)) ?_
    have hpl : i < (part (fvs (rdAll rs)) [.nilp] i).length := by simp [part]; omega
    have hpi : (part (fvs (rdAll rs)) [.nilp] i)[i]? = some [.nilp] := part_get _ _ _ hi'
    have hpe : (part (fvs (rdAll rs)) [.nilp] i)[i] = [.nilp] := by
      rw [List.getElem?_eq_getElem hpl] at hpi; exact Option.some.inj hpi
    rcases ev : rd rs[i] with _ | a
    · have hno : allOk rs = false := by
        rw [Bool.eq_false_iff]
        intro hh
        have := List.all_eq_true.1 hh rs[i] (List.getElem_mem h)
        rw [ev] at this; cases this
      simp [h, ev, fv, hpl, hpe, h2g, Ne.symm h2g, hno]
      refine retNW [.nils, .bool false] [] (by simp) ?_ (by simp) (by simp [hg, hb2])
      exact own_two.2 ⟨.nils, rfl, own_fvs.2 (.inl ⟨rfl, rfl, rfl⟩)⟩
    · have hset : (part (fvs (rdAll rs)) [.nilp] i).set i [fv (some a)] = part (fvs (rdAll rs)) [.nilp] (i + 1) := by
        rw [part_set _ _ _ hi']
        simp [rdAll, ev]
      simp [h, ev, fv, hpl, hpe, h2g, Ne.symm h2g]
      simp (disch := omega) [i64_in, loopQ_normal]
      refine ⟨i + 1, ⟨by omega, fun r hr => ?_⟩, by omega, rfl, by simp, ?_⟩
      · rw [List.take_add_one, List.getElem?_eq_getElem h] at hr
        rcases List.mem_append.1 hr with hr | hr
        · exact hall r hr
        · obtain rfl : r = rs[i] := by simpa using hr
          rw [ev]; rfl
      · have e2 := hset
        simp only [fv] at e2
        intro z y hz
        simp only [upd_apply, e2] at hz ⊢
        grind
  · have hi2 : i = rs.length := by omega
    have hyes : allOk rs = true := List.all_eq_true.2 fun r hr => hall r (by rw [hi2, List.take_length]; exact hr)
    simp [hyes]
    refine retNW [.lsl g 1 0 rs.length, .bool true] [g] (by simp) ?_ (by simpa using hg) (by simp [hg])
    rw [part_all _ _ _ (by simpa using h)]
    exact own_two.2 ⟨_, rfl, own_fvs.2 (.inr ⟨g, by simp, rfl, by simp, by omega⟩)⟩

theorem loads_ro (rs : List RT) (hq : fitQ rs 1048576) : RO Try.prog 136 [.sl (rv rs)] (.tup [.sl (fvs (if allOk rs = true then rdAll rs else [])), .bool (allOk rs)]) := by
  have := ro_of_nw 2 (loads_nw rs hq) (dL_dep _ _ 0)
  rwa [dL_fz] at this
def vecOk (rs : List RT) : Bool := decide (rs.length ≤ 24) && allOk rs
theorem own_dL {bl : Int → Option Blk} {xs : List (Option Rat)} {b : Bool} {v : V} {gs : List Int} (h : OwnD bl (dL xs b) v gs) : ∃ w, v = .tup [w, .bool b] ∧ OwnD bl (fl 1 (fvs xs)) w gs ∧ w.one = true ∧ w.cells = [w] := by
  obtain ⟨w, rfl, o⟩ := own_two.1 h
  exact ⟨w, rfl, o, o.one⟩
theorem loadVector_nw (rs : List RT) (hq : fitQ rs 1048576) : NW Try.prog 147 [.sl (rv rs)] (dL (if vecOk rs = true then rdAll rs else []) (vecOk rs)) := by
  have hw := hq.1
  refine nw_of Try.func147 rfl rfl (by rw [Try.ntmps147]; simp) fun bl => ?_
  rw [Try.ntmps147, Try.results147]
  refine AW_run ?_
  simp
  refine ⟨fun h => ?_, fun h => ?_⟩
  · have hv : vecOk rs = false := by unfold vecOk; rw [decide_eq_false (by omega)]; rfl
    rw [hv]
    refine retNW [.nils, .bool false] [] (by simp) ?_ (by simp) (Sub.refl _)
    exact own_two.2 ⟨.nils, rfl, own_fvs.2 (.inl ⟨rfl, rfl, rfl⟩)⟩
  · have hv : vecOk rs = allOk rs := by unfold vecOk; rw [decide_eq_true (by omega)]; rfl
    rw [hv]
    refine callP_new (loads_nw rs hq) fun v gs b o f fr => ?_
    obtain ⟨w, rfl, ow, w1, w2⟩ := own_dL o
    simp
    exact retNW [w, .bool (allOk rs)] gs (by simp) (own_two.2 ⟨w, rfl, ow⟩) f (fun x y hy => new_keep f fr hy)
theorem loadVector_ro (rs : List RT) (hq : fitQ rs 1048576) : RO Try.prog 147 [.sl (rv rs)] (.tup [.sl (fvs (if vecOk rs = true then rdAll rs else [])), .bool (vecOk rs)]) := by
  have := ro_of_nw 2 (loadVector_nw rs hq) (dL_dep _ _ 0)
  rwa [dL_fz] at this

/-! ### Handing back -/
def allSome (xs : List (Option Rat)) : Bool := xs.all Option.isSome
def roAll (xs : List (Option Rat)) : List RT := xs.map ro
@[simp] theorem roAll_length (xs : List (Option Rat)) : (roAll xs).length = xs.length := by simp [roAll]
/-- Fractions handed back, and whether all are some. -/
def stQ (xs : List (Option Rat)) : List RT := if allSome xs = true then roAll xs else []
def dV (rs : List RT) (b : Bool) : D := .t [dRs rs, .c (.bool b)]
theorem dV_dep (rs : List RT) (b : Bool) (n : Nat) : (dV rs b).dep (n + 3) := by
  unfold dV; rw [D.dep]; exact ⟨by omega, by simp [D.depL, D.dep, dRs_dep]⟩
theorem dV_fz (rs : List RT) (b : Bool) : (dV rs b).fz = .tup [.sl (rv rs), .bool b] := by simp [dV, D.fz, D.fzL, dRs_fz]
theorem dV_sc (rs : List RT) (b : Bool) : (dV rs b).sc = true := by simp [dV, D.sc, D.scL, dRs_sc, V.ow]
theorem own_dV {bl : Int → Option Blk} {rs : List RT} {b : Bool} {v : V} {gs : List Int} (h : OwnD bl (dV rs b) v gs) : ∃ w, v = .tup [w, .bool b] ∧ OwnD bl (dRs rs) w gs ∧ w.one = true ∧ w.cells = [w] := by
  obtain ⟨w, rfl, o⟩ := own_two.1 h
  exact ⟨w, rfl, o, own_rs1 o⟩
theorem own_dV0 {bl : Int → Option Blk} (b : Bool) : OwnD bl (dV [] b) (.tup [.nils, .bool b]) [] := own_two.2 ⟨.nils, rfl, own_rs.2 (.inl ⟨rfl, rfl, rfl⟩)⟩

theorem stores_nw (xs : List (Option Rat)) (hx : okL xs) (hw : xs.length ≤ 1048576) : NW Try.prog 144 [.sl (fvs xs)] (dV (stQ xs) (allSome xs)) := by
  refine nw_of Try.func144 rfl rfl (by rw [Try.ntmps144]; simp) fun bl => ?_
  rw [Try.ntmps144, Try.results144]
  refine AW_run ?_
  simp
  refine ⟨by omega, by unfold maxLen; omega, fun g hg0 hg => ?_⟩
  refine AW_for (fun p : Grow => [(4, .lsl g 3 0 xs.length), (10, .sl (fvs xs)), (11, .int .i64 xs.length), (12, .int .i64 p.els.length)]) (fun p => p.b)
    (fun p => p.els.length ≤ xs.length ∧ (∀ x, x ∈ xs.take p.els.length → x.isSome = true) ∧ p.b g = some ⟨3, p.els ++ List.replicate (xs.length - p.els.length) [.bool false, .nils, .nils]⟩ ∧ OwnR p.b 3 (((roAll xs).map dR).take p.els.length) p.els p.gs ∧ g ∉ p.gs ∧ (∀ x, x ∈ p.gs → bl x = none) ∧ Sub bl p.b)
    (fun p => xs.length - p.els.length) 26 ⟨[], [], upd bl g (some ⟨3, List.replicate xs.length [.bool false, .nils, .nils]⟩)⟩ ⟨Nat.zero_le _, by simp, by simp, by simp [OwnR], by simp, by simp, by simp [hg]⟩ ⟨rfl, by simp, by simp⟩ ?_
  rintro ⟨els, gs, b⟩ ⟨hi, hall, hb, ho, hn, hf, hs⟩
  simp only at hi hall hb ho hn hf hs
  refine AW_run ?_
  simp
  refine ⟨fun h => ?_, fun h => ?_⟩
  · rcases ex : xs[els.length] with _ | q
    · have hno : allSome xs = false := by
        rw [Bool.eq_false_iff]
        intro hh
        have := List.all_eq_true.1 hh xs[els.length] (List.getElem_mem h)
        rw [ex] at this; cases this
      have hst : stQ xs = [] := by unfold stQ; rw [hno]; rfl
      simp [h, ex, fv]
      rw [hno, hst]
      refine retNW [.nils, .bool false] [] (by simp) (own_dV0 _) (by simp) hs
    · simp [h, ex, fv]
      have hq0 : okQ (some q) := by rw [← ex]; exact hx _ (List.getElem_mem h)
      have hstore := store_nw (some q) hq0
      rw [show fv (some q) = .ptr (rq q).c from rfl] at hstore
      refine callP_new hstore fun v gv b' o f fr => ?_
      rw [OwnD] at o
      obtain ⟨vs, rfl, o⟩ := o
      obtain ⟨vm, vd, _, _, rfl, _, _, om, od⟩ := own_rtL.1 o
      have c1 := om.one.1
      have d1 := od.one.1
      have hb' : b' g = _ := new_keep f fr hb
      have hgv : g ∉ gv := fun hh => by have := f g hh; rw [hb] at this; cases this
      simp [h, hb', grow_get els [.bool false, .nils, .nils] xs.length h, c1, d1]
      simp (disch := omega) [i64_in, loopQ_normal]
      have gg := grow_set' els [.bool false, .nils, .nils] [.bool (ro (some q)).neg, vm, vd] xs.length h
      refine ⟨⟨els ++ [[.bool (ro (some q)).neg, vm, vd]], gs ++ gv, upd b' g (some ⟨3, (els ++ [[.bool (ro (some q)).neg, vm, vd]]) ++ List.replicate (xs.length - (els ++ [[V.bool (ro (some q)).neg, vm, vd]]).length) [.bool false, .nils, .nils]⟩)⟩, ⟨by simp; omega, ?_, by simp, ?_, ?_, ?_, ?_⟩, by simp; omega, rfl, by simp, sub_eq ?_⟩
      · intro x hx
        simp only [List.length_append, List.length_singleton] at hx
        rw [List.take_add_one, List.getElem?_eq_getElem h] at hx
        rcases List.mem_append.1 hx with hx | hx
        · exact hall x hx
        · obtain rfl : x = xs[els.length] := by simpa using hx
          rw [ex]; rfl
      · have h2 : els.length < (roAll xs).length := by simpa using h
        have ht : ((roAll xs).map dR).take (els ++ [[V.bool (ro (some q)).neg, vm, vd]]).length = ((roAll xs).map dR).take els.length ++ [dR (ro (some q))] := by
          rw [List.length_append, List.length_singleton, List.take_add_one, List.getElem?_map, List.getElem?_eq_getElem h2]; simp [roAll, ex]
        simp only
        rw [ht]
        refine OwnR.snoc (o.frame fun x hx => by simp [show x ≠ g from fun e => hgv (e ▸ hx)]) rfl (by simp [c1, d1]) (ho.keep fun x hx y hy => ?_) fun x hx hx2 => ?_
        · rw [upd_apply, if_neg (fun e => hn (by rw [← e]; exact hx))]; exact new_keep f fr hy
        · exact ho.not (f x hx2) hx
      · simp only [List.mem_append]; rintro (h | h)
        · exact hn h
        · exact hgv h
      · intro x hx
        rcases List.mem_append.1 hx with hx | hx
        · exact hf x hx
        · exact fresh_of hs (f x hx)
      · exact sub_new' hg fun x y hy => new_keep f fr (hs x y hy)
      · exact congrArg (fun e => upd b' g (some (Blk.mk 3 e))) gg
  · have hl : els.length = xs.length := by omega
    have hyes : allSome xs = true := List.all_eq_true.2 fun x hx => hall x (by rw [hl, List.take_length]; exact hx)
    have hst : stQ xs = roAll xs := by unfold stQ; rw [hyes]; rfl
    rw [hyes, hst]
    refine retNW [.lsl g 3 0 xs.length, .bool true] (g :: gs) (by simp) ?_ (by simpa [hg] using hf) hs
    refine own_two.2 ⟨_, rfl, own_rs.2 (.inr ⟨g, els, gs, by simp, rfl, hn, ?_, by omega, ?_⟩)⟩
    · show b g = _
      rw [hb, hl]; simp
    · rw [hl] at ho
      rw [List.take_of_length_le (by simp)] at ho
      exact ho

end Go.Proofs.Ythhjmaianlmfpaa.Vm

namespace Go.Proofs.Ythhjmaianlmfpaa.Vm
open Go Go.Proofs
set_option linter.unusedSimpArgs false
set_option linter.unusedVariables false

theorem l09Valid_ro (rs : List RT) (hq : fitQ rs 1048576) : RO Try.prog 133 [.sl (rv rs)] (.bool (allOk rs)) := by
  have hw := hq.1
  refine ro_of2 Try.func133 rfl rfl (by rw [Try.ntmps133]; simp) fun bl => ?_
  rw [Try.ntmps133, Try.results133]
  refine AW_run ?_
  simp
  refine AW_for (fun i : Nat => [(5, .sl (rv rs)), (6, .int .i64 rs.length), (7, .int .i64 i)]) (fun _ => bl) (fun i => i ≤ rs.length ∧ ∀ r, r ∈ rs.take i → (rd r).isSome = true) (fun i => rs.length - i) _ 0 ⟨Nat.zero_le _, by simp⟩ ⟨rfl, by simp, Sub.refl _⟩ ?_
  rintro i ⟨hi, hall⟩
  refine AW_run ?_
  simp
  refine ⟨fun h => ?_, fun h => ?_⟩
  · simp [h, RT.c]
    intro g2 hg2 hb2
    have hr := hq.2 _ (List.getElem_mem h)
    refine callP_ro (spec_RatOk_ro rs[i] (by have := hr.1; omega) (by have := hr.2; omega)) ?_
    simp
    refine ⟨fun hok => ?_, fun hok => ?_⟩
    · have hno : allOk rs = false := by
        rw [Bool.eq_false_iff]
        intro hh
        have := List.all_eq_true.1 hh rs[i] (List.getElem_mem h)
        rw [rd_ok] at this; exact hok this
      exact retRO [.bool false] 0 (by simp) (by simp [frz, hno]) (by simp [hb2])
    · simp (disch := omega) [i64_in, loopQ_normal]
      refine ⟨i + 1, ⟨by omega, fun r hr => ?_⟩, by omega, rfl, by simp, by simp [hb2]⟩
      rw [List.take_add_one, List.getElem?_eq_getElem h] at hr
      rcases List.mem_append.1 hr with hr | hr
      · exact hall r hr
      · obtain rfl : r = rs[i] := by simpa using hr
        exact rd_ok.2 hok
  · have hi2 : i = rs.length := by omega
    have hyes : allOk rs = true := List.all_eq_true.2 fun r hr => hall r (by rw [hi2, List.take_length]; exact hr)
    exact retRO0 (by simp [hyes]) rfl rfl

def fitsQ (s : Str) (q : List RT) : Bool := (sOk s && decide (q.length = s.ms.length)) && allOk q
theorem l14Fits_ro (s : Str) (q : List RT) (hj : s.js.length ≤ 140737488351232) (hm : s.ms.length ≤ 140737488351232) (hn : ∀ j, j ∈ s.js → j.name.size ≤ 140737488351232) (hq : fitQ q 1048576) : RO Try.prog 88 [.agg s.c, .sl (rv q)] (.bool (fitsQ s q)) := by
  refine ro_of2 Try.func88 rfl rfl (by rw [Try.ntmps88]; simp) fun bl => ?_
  rw [Try.ntmps88, Try.results88]
  refine AW_run ?_
  simp [Str.c]
  intro g hg0 hg
  refine AW_way [(1, .sl (rv q)), (2, .loc g 2 0 0)] _ (upd bl g (some ⟨2, [s.c]⟩)) 4 (.bool (fitsQ s q)) (upd bl g (some ⟨2, [s.c]⟩)) ⟨rfl, by simp, sub_eq (by simp [Str.c])⟩ rfl ?_ ?_
  · simp [Str.c]
    refine callP_ro (spec_StructureOk_ro s hj hm hn) ?_
    cases hk : sOk s
    · simp [fitsQ, hk]
    · simp [Str.c]
      refine ⟨fun h => ?_, fun h => ?_⟩
      · refine callP_ro (l09Valid_ro q hq) ?_
        simp [fitsQ, hk]
        intro _; omega
      · simp [fitsQ, hk]
        intro _; omega
  simp
  exact retRO [.bool (fitsQ s q)] 0 (by simp) (by simp [frz]) (by simp [hg])

theorem densities_ro (s : Str) (q : List RT) (hj : s.js.length ≤ 140737488351232) (hm : s.ms.length ≤ 140737488351232) (hn : ∀ j, j ∈ s.js → j.name.size ≤ 140737488351232) (hq : fitQ q 1048576) : RO Try.prog 91 [.ptr s.c, .sl (rv q)] (.tup [.sl (fvs (if fitsQ s q = true then rdAll q else [])), .bool (fitsQ s q)]) := by
  refine ro_of2 Try.func91 rfl rfl (by rw [Try.ntmps91]; simp) fun bl => ?_
  rw [Try.ntmps91, Try.results91]
  refine AW_run ?_
  simp [Str.c]
  refine AW_way0 [(0, .ptr s.c), (1, .sl (rv q)), (4, .nils), (5, .bool false)] _ bl 20 (.bool (!(sOk s && decide (q.length = s.ms.length)))) ⟨rfl, by simp [Str.c], Sub.refl _⟩ rfl ?_ ?_
  · simp [Str.c]
    refine ⟨fun h => ?_, fun h => ?_⟩
    · right; omega
    · refine callP_ro (impl_StructureOk_ro s hj hm hn) ?_
      simp
      intro h2; omega
  cases hw : (sOk s && decide (q.length = s.ms.length))
  · have hf : fitsQ s q = false := by unfold fitsQ; rw [hw]; rfl
    rw [hf]
    simp
    exact retRO [.nils, .bool false] 1 (by simp) (by simp [frz, fvs, V.cl]) (Sub.refl _)
  · have hf : fitsQ s q = allOk q := by unfold fitsQ; rw [hw]; rfl
    rw [hf]
    simp
    refine callP_ro (loads_ro q hq) ?_
    simp
    exact retRO [.sl (fvs (if allOk q = true then rdAll q else [])), .bool (allOk q)] 1 (by simp) (by simp [frz]) (Sub.refl _)

/-- Does a density have the wrong sign for its member? -/
def sgnBad (m : Mb) (x : Option Rat) : Bool := (decide (m.kind = 1) && decide (sgn x < 0)) || (decide (m.kind = 2) && decide (0 < sgn x))
def sgnsTo (ms : List Mb) (q : List RT) (n : Nat) : Prop := ∀ k (h1 : k < ms.length) (h2 : k < q.length), k < n → sgnBad ms[k] (rd q[k]) = false
def hasS (s : Str) (q : List RT) : Bool := fitsQ s q && (List.zip s.ms q).all fun p => !sgnBad p.1 (rd p.2)
theorem hasS_yes {s : Str} {q : List RT} (hf : fitsQ s q = true) (h : sgnsTo s.ms q s.ms.length) : hasS s q = true := by
  unfold hasS
  rw [hf, Bool.true_and, List.all_eq_true]
  intro p hp
  obtain ⟨k, hk, rfl⟩ := List.getElem_of_mem hp
  rw [List.length_zip] at hk
  rw [List.getElem_zip]
  simp only
  rw [h k (by omega) (by omega) (by omega)]; rfl
theorem hasS_no {s : Str} {q : List RT} (k : Nat) (h1 : k < s.ms.length) (h2 : k < q.length) (h : sgnBad s.ms[k] (rd q[k]) = true) : hasS s q = false := by
  unfold hasS
  rw [Bool.and_eq_false_iff]
  right
  rw [List.all_eq_false]
  refine ⟨(s.ms[k], q[k]), ?_, by simp [h]⟩
  rw [List.mem_iff_getElem]
  exact ⟨k, by rw [List.length_zip]; omega, by rw [List.getElem_zip]⟩

theorem impl_HasSigns_ro (s : Str) (q : List RT) (hj : s.js.length ≤ 140737488351232) (hm : s.ms.length ≤ 140737488351232) (hn : ∀ j, j ∈ s.js → j.name.size ≤ 140737488351232) (hq : fitQ q 1048576) : RO Try.prog 42 [.agg s.c, .sl (rv q)] (.bool (hasS s q)) := by
  refine ro_of2 Try.func42 rfl rfl (by rw [Try.ntmps42]; simp) fun bl => ?_
  rw [Try.ntmps42, Try.results42]
  refine AW_runA ?_
  simp [Str.c]
  intro g hg0 hg
  refine AW_frzAt 1 2 (.ptr s.c) bl (by simp [hg]) (by simp [frz, dropB, hg, Str.c, V.cl]) ?_
  refine AW_run ?_
  simp
  refine callP_ro (densities_ro s q hj hm hn hq) ?_
  simp
  cases hf : fitsQ s q
  · have hno : hasS s q = false := by unfold hasS; rw [hf]; rfl
    simp
    exact retRO [.bool false] 0 (by simp) (by simp [frz, hno]) (Sub.refl _)
  have hlen : q.length = s.ms.length := by
    unfold fitsQ at hf; simp at hf; exact hf.1.2
  have hall : allOk q = true := by unfold fitsQ at hf; simp at hf; exact hf.2
  have hq1 := hq.1
  simp [Str.c]
  refine AW_for (fun i : Nat => [(5, .sl (fvs (rdAll q))), (18, .sl (mv s.ms)), (19, .int .i64 s.ms.length), (20, .int .i64 i)]) (fun _ => bl) (fun i => i ≤ s.ms.length ∧ sgnsTo s.ms q i) (fun i => s.ms.length - i) _ 0 ⟨Nat.zero_le _, fun k _ _ h0 => by omega⟩ ⟨rfl, by simp, Sub.refl _⟩ ?_
  rintro i ⟨hi, hc⟩
  refine AW_run ?_
  simp
  refine ⟨fun h => ?_, fun h => ?_⟩
  · have h2 : i < q.length := by omega
    have h3 : i < (rdAll q).length := by simpa using h2
    obtain ⟨a, ea⟩ : ∃ a, rd q[i] = some a := by
      have := List.all_eq_true.1 hall q[i] (List.getElem_mem h2)
      exact Option.isSome_iff_exists.1 this
    have e2 : (rdAll q)[i] = some a := by simp [rdAll, ea]
    simp [h, Mb.c]
    intro g2 hg2 hb2
    simp [h2, e2, fv]
    refine callP_ro (Sign_ro a) ?_
    have hbad : sgnBad s.ms[i] (some a) = ((decide (s.ms[i].kind = 1) && decide (a.num.sign < 0)) || (decide (s.ms[i].kind = 2) && decide (0 < a.num.sign))) := rfl
    generalize a.num.sign = z at hbad ⊢
    simp
    refine AW_way [(5, .sl (fvs (rdAll q))), (18, .sl (mv s.ms)), (19, .int .i64 s.ms.length), (20, .int .i64 i), (8, .loc g2 3 0 0), (9, .int .i64 z)] _ (upd bl g2 (some ⟨3, [s.ms[i].c]⟩)) 45 (.bool (sgnBad s.ms[i] (some a))) (upd bl g2 (some ⟨3, [s.ms[i].c]⟩)) ⟨rfl, by simp, sub_eq (by simp [Mb.c])⟩ rfl ?_ ?_
    · rw [hbad]
      simp [Mb.c]
      by_cases k1 : s.ms[i].kind = 1 <;> by_cases k2 : s.ms[i].kind = 2 <;> by_cases z1 : z < 0 <;> by_cases z2 : 0 < z <;> simp [k1, k2, z1, z2] <;> omega
    cases hb : sgnBad s.ms[i] (some a)
    · simp
      simp (disch := omega) [i64_in, loopQ_normal]
      refine ⟨i + 1, ⟨by omega, fun k h4 h5 hk => ?_⟩, by omega, rfl, by simp, by simp [hb2]⟩
      rcases Nat.lt_or_ge k i with hlt | hge
      · exact hc k h4 h5 hlt
      · obtain rfl : k = i := by omega
        rw [ea]; exact hb
    · have hno : hasS s q = false := hasS_no i h h2 (by rw [ea]; exact hb)
      simp
      exact retRO [.bool false] 0 (by simp) (by simp [frz, hno]) (by simp [hb2])
  · have hi2 : i = s.ms.length := by omega
    subst hi2
    exact retRO0 (by simp [hasS_yes hf hc]) rfl rfl

theorem spec_HasSigns_ro (s : Str) (q : List RT) (hj : s.js.length ≤ 140737488351232) (hm : s.ms.length ≤ 140737488351232) (hn : ∀ j, j ∈ s.js → j.name.size ≤ 140737488351232) (hq : fitQ q 1048576) : RO Try.prog 39 [.agg s.c, .sl (rv q)] (.bool (hasS s q)) := by
  refine ro_of2 Try.func39 rfl rfl (by rw [Try.ntmps39]; simp) fun bl => ?_
  rw [Try.ntmps39, Try.results39]
  refine AW_run ?_
  simp [Str.c]
  intro g hg0 hg
  refine callP_ro (l14Fits_ro s q hj hm hn hq) ?_
  simp
  cases hf : fitsQ s q
  · have hno : hasS s q = false := by unfold hasS; rw [hf]; rfl
    simp
    exact retRO [.bool false] 0 (by simp) (by simp [frz, hno]) (by simp [hg])
  have hlen : q.length = s.ms.length := by
    unfold fitsQ at hf; simp at hf; exact hf.1.2
  have hall : allOk q = true := by unfold fitsQ at hf; simp at hf; exact hf.2
  have hq1 := hq.1
  simp [Str.c]
  refine AW_for (fun i : Nat => [(1, .sl (rv q)), (13, .sl (mv s.ms)), (14, .int .i64 s.ms.length), (15, .int .i64 i)]) (fun _ => bl) (fun i => i ≤ s.ms.length ∧ sgnsTo s.ms q i) (fun i => s.ms.length - i) _ 0 ⟨Nat.zero_le _, fun k _ _ h0 => by omega⟩ ⟨rfl, by simp, by simp [hg]⟩ ?_
  rintro i ⟨hi, hc⟩
  refine AW_run ?_
  simp
  refine ⟨fun h => ?_, fun h => ?_⟩
  · have h2 : i < q.length := by omega
    simp [h, Mb.c]
    intro g2 hg2 hb2
    simp [h2, RT.c]
    have hr := hq.2 _ (List.getElem_mem h2)
    refine callP_ro (RatSign_ro q[i] (by have := hr.1; omega) (by have := hr.2; omega)) ?_
    have hbad : sgnBad s.ms[i] (rd q[i]) = ((decide (s.ms[i].kind = 1) && decide (sgn (rd q[i]) < 0)) || (decide (s.ms[i].kind = 2) && decide (0 < sgn (rd q[i])))) := rfl
    generalize sgn (rd q[i]) = z at hbad ⊢
    simp
    refine AW_way [(1, .sl (rv q)), (13, .sl (mv s.ms)), (14, .int .i64 s.ms.length), (15, .int .i64 i), (6, .loc g2 3 0 0), (7, .int .i64 z)] _ (upd bl g2 (some ⟨3, [s.ms[i].c]⟩)) 40 (.bool (sgnBad s.ms[i] (rd q[i]))) (upd bl g2 (some ⟨3, [s.ms[i].c]⟩)) ⟨rfl, by simp, sub_eq (by simp [Mb.c])⟩ rfl ?_ ?_
    · rw [hbad]
      simp [Mb.c]
      by_cases k1 : s.ms[i].kind = 1 <;> by_cases k2 : s.ms[i].kind = 2 <;> by_cases z1 : z < 0 <;> by_cases z2 : 0 < z <;> simp [k1, k2, z1, z2] <;> omega
    cases hb : sgnBad s.ms[i] (rd q[i])
    · simp
      simp (disch := omega) [i64_in, loopQ_normal]
      refine ⟨i + 1, ⟨by omega, fun k h4 h5 hk => ?_⟩, by omega, rfl, by simp, by simp [hb2]⟩
      rcases Nat.lt_or_ge k i with hlt | hge
      · exact hc k h4 h5 hlt
      · obtain rfl : k = i := by omega
        exact hb
    · have hno : hasS s q = false := hasS_no i h h2 hb
      simp
      exact retRO [.bool false] 0 (by simp) (by simp [frz, hno]) (by simp [hb2])
  · have hi2 : i = s.ms.length := by omega
    subst hi2
    exact retRO0 (by simp [hasS_yes hf hc]) rfl rfl

end Go.Proofs.Ythhjmaianlmfpaa.Vm

namespace Go.Proofs.Ythhjmaianlmfpaa.Vm
open Go Go.Proofs
set_option linter.unusedSimpArgs false
set_option linter.unusedVariables false

theorem IsVector_ro (rs : List RT) (hq : fitQ rs 1048576) : RO Try.prog 145 [.sl (rv rs)] (.bool (vecOk rs)) := by
  have hw := hq.1
  refine ro_of2 Try.func145 rfl rfl (by rw [Try.ntmps145]; simp) fun bl => ?_
  rw [Try.ntmps145, Try.results145]
  refine AW_run ?_
  simp
  refine ⟨fun h => ?_, fun h => ?_⟩
  · have hv : vecOk rs = false := by unfold vecOk; rw [decide_eq_false (by omega)]; rfl
    exact retRO [.bool false] 0 (by simp) (by simp [frz, hv]) (Sub.refl _)
  have hv : vecOk rs = allOk rs := by unfold vecOk; rw [decide_eq_true (by omega)]; rfl
  rw [hv]
  refine AW_for (fun i : Nat => [(8, .sl (rv rs)), (9, .int .i64 rs.length), (10, .int .i64 i)]) (fun _ => bl) (fun i => i ≤ rs.length ∧ ∀ r, r ∈ rs.take i → (rd r).isSome = true) (fun i => rs.length - i) _ 0 ⟨Nat.zero_le _, by simp⟩ ⟨rfl, by simp, Sub.refl _⟩ ?_
  rintro i ⟨hi, hall⟩
  refine AW_run ?_
  simp
  refine ⟨fun h => ?_, fun h => ?_⟩
  · simp [h, RT.c]
    intro g2 hg2 hb2
    have hr := hq.2 _ (List.getElem_mem h)
    refine callP_ro (spec_RatOk_ro rs[i] (by have := hr.1; omega) (by have := hr.2; omega)) ?_
    simp
    refine ⟨fun hok => ?_, fun hok => ?_⟩
    · have hno : allOk rs = false := by
        rw [Bool.eq_false_iff]
        intro hh
        have := List.all_eq_true.1 hh rs[i] (List.getElem_mem h)
        rw [rd_ok] at this; exact hok this
      exact retRO [.bool false] 0 (by simp) (by simp [frz, hno]) (by simp [hb2])
    · simp (disch := omega) [i64_in, loopQ_normal]
      refine ⟨i + 1, ⟨by omega, fun r hr => ?_⟩, by omega, rfl, by simp, by simp [hb2]⟩
      rw [List.take_add_one, List.getElem?_eq_getElem h] at hr
      rcases List.mem_append.1 hr with hr | hr
      · exact hall r hr
      · obtain rfl : r = rs[i] := by simpa using hr
        exact rd_ok.2 hok
  · have hi2 : i = rs.length := by omega
    have hyes : allOk rs = true := List.all_eq_true.2 fun r hr => hall r (by rw [hi2, List.take_length]; exact hr)
    exact retRO0 (by simp [hyes]) rfl rfl
theorem l05Bad_ro (r : RT) : RO Try.prog 205 [.agg r.c] (.bool (decide (r.d = []))) := by
  refine ro_of2 Try.func205 rfl rfl (by rw [Try.ntmps205]; simp) fun bl => ?_
  rw [Try.ntmps205, Try.results205]
  refine AW_run ?_
  simp [RT.c]
  intro g hg0 hg
  exact retRO [.bool (decide (r.d = []))] 0 (by simp [len_dec]) (by simp [frz]) (by simp [hg])
def fineQ (rs : List RT) : Bool := rs.all fun r => !decide (r.d = [])
theorem l05Fine_ro (rs : List RT) (hw : rs.length ≤ 1048576) : RO Try.prog 184 [.sl (rv rs)] (.bool (fineQ rs)) := by
  refine ro_of2 Try.func184 rfl rfl (by rw [Try.ntmps184]; simp) fun bl => ?_
  rw [Try.ntmps184, Try.results184]
  refine AW_run ?_
  simp
  refine AW_for (fun i : Nat => [(5, .sl (rv rs)), (6, .int .i64 rs.length), (7, .int .i64 i)]) (fun _ => bl) (fun i => i ≤ rs.length ∧ ∀ r, r ∈ rs.take i → r.d ≠ []) (fun i => rs.length - i) _ 0 ⟨Nat.zero_le _, by simp⟩ ⟨rfl, by simp, Sub.refl _⟩ ?_
  rintro i ⟨hi, hall⟩
  refine AW_run ?_
  simp
  refine ⟨fun h => ?_, fun h => ?_⟩
  · simp [h, RT.c]
    intro g2 hg2 hb2
    refine callP_ro (l05Bad_ro rs[i]) ?_
    simp
    refine ⟨fun hok => ?_, fun hok => ?_⟩
    · have hno : fineQ rs = false := by
        rw [Bool.eq_false_iff]
        intro hh
        have := List.all_eq_true.1 hh rs[i] (List.getElem_mem h)
        simp [hok] at this
      exact retRO [.bool false] 0 (by simp) (by simp [frz, hno]) (by simp [hb2])
    · simp (disch := omega) [i64_in, loopQ_normal]
      refine ⟨i + 1, ⟨by omega, fun r hr => ?_⟩, by omega, rfl, by simp, by simp [hb2]⟩
      rw [List.take_add_one, List.getElem?_eq_getElem h] at hr
      rcases List.mem_append.1 hr with hr | hr
      · exact hall r hr
      · obtain rfl : r = rs[i] := by simpa using hr
        exact hok
  · have hi2 : i = rs.length := by omega
    have hyes : fineQ rs = true := List.all_eq_true.2 fun r hr => by
      have := hall r (by rw [hi2, List.take_length]; exact hr)
      simp [this]
    exact retRO0 (by simp [hyes]) rfl rfl
theorem fine_ro (zs : List (Option Rat)) : fineQ (roAll zs) = allSome zs := by
  unfold fineQ roAll allSome
  rw [List.all_map]
  congr 1
  funext x
  cases x with
  | none => simp [ro, rz]
  | some q => simp [ro, rq, lim_nil, q.den_nz]
theorem l05Done_ro (zs : List (Option Rat)) (hw : zs.length ≤ 1048576) : RO Try.prog 141 [.sl (rv (roAll zs))] (.tup [.sl (rv (stQ zs)), .bool (allSome zs)]) := by
  have hf := l05Fine_ro (roAll zs) (by simpa using hw)
  rw [fine_ro] at hf
  refine ro_of2 Try.func141 rfl rfl (by rw [Try.ntmps141]; simp) fun bl => ?_
  rw [Try.ntmps141, Try.results141]
  refine AW_run ?_
  simp
  refine callP_ro hf ?_
  cases hz : allSome zs
  · simp
    exact retRO [.nils, .bool false] 1 (by simp) (by simp [frz, V.cl, stQ, hz, rv]) (Sub.refl _)
  · simp
    exact retRO [.sl (rv (roAll zs)), .bool true] 1 (by simp) (by simp [frz, V.cl, stQ, hz]) (Sub.refl _)
def pairOk (a b : List RT) : Bool := (vecOk a && vecOk b) && decide (a.length = b.length)
theorem l05Pair_ro (a b : List RT) (ha : fitQ a 1048576) (hb : fitQ b 1048576) : RO Try.prog 140 [.sl (rv a), .sl (rv b)] (.bool (pairOk a b)) := by
  refine ro_of2 Try.func140 rfl rfl (by rw [Try.ntmps140]; simp) fun bl => ?_
  rw [Try.ntmps140, Try.results140]
  refine AW_run ?_
  simp
  refine AW_way0 [(0, .sl (rv a)), (1, .sl (rv b))] _ bl 4 (.bool (pairOk a b)) ⟨rfl, by simp, Sub.refl _⟩ rfl ?_ ?_
  · simp
    refine callP_ro (IsVector_ro a ha) ?_
    cases h1 : vecOk a
    · simp [pairOk, h1]
    simp
    refine callP_ro (IsVector_ro b hb) ?_
    cases h2 : vecOk b
    · simp [pairOk, h1, h2]
    simp [pairOk, h1, h2]
    rw [Bool.eq_iff_iff]
    simp
    omega
  simp
  exact retRO [.bool (pairOk a b)] 0 (by simp) (by simp [frz]) (Sub.refl _)

/-! ### Results -/
theorem rv_all (rs : List RT) : ((rv rs).all fun c => c.length == 3 && c.all V.one) = true := by simp [rv, RT.c]
theorem rv_cl (rs : List RT) : (rv rs).all (fun r => r.all V.cl) = true := by simp [rv, RT.c, V.cl]
theorem rv_append (a b : List RT) : rv (a ++ b) = rv a ++ rv b := by simp [rv]
theorem roAll_append (a b : List (Option Rat)) : roAll (a ++ b) = roAll a ++ roAll b := by simp [roAll]
theorem stQ_fit {zs : List (Option Rat)} (h : okL zs) (hl : zs.length ≤ 1048576) : fitQ (stQ zs) 1048576 ∧ sumQ (stQ zs) ≤ 100000000 := by
  have hle : ∀ r, r ∈ stQ zs → r.m.length ≤ 24 ∧ r.d.length ≤ 24 := by
    intro r hr
    unfold stQ at hr
    split at hr
    · obtain ⟨x, hx, rfl⟩ := List.mem_map.1 hr
      exact ro_le (h x hx)
    · cases hr
  have hn : (stQ zs).length ≤ zs.length := by
    unfold stQ; split
    · simp
    · simp
  have hs : sumQ (stQ zs) ≤ 48 * (stQ zs).length := by
    generalize stQ zs = rs at hle
    clear hn h hl
    unfold sumQ
    induction rs with
    | nil => simp
    | cons r rs ih =>
      rw [List.map_cons, List.sum_cons, List.length_cons]
      have h1 := hle r List.mem_cons_self
      have h2 := ih fun x hx => hle x (List.mem_cons_of_mem _ hx)
      omega
  exact ⟨⟨by omega, fun r hr => ⟨by have := (hle r hr).1; omega, by have := (hle r hr).2; omega⟩⟩, by omega⟩
def addQs (a b : List RT) : List (Option Rat) := if pairOk a b = true then List.zipWith (op2 (· + ·)) (rdAll a) (rdAll b) else [none]
theorem pairOk_len {a b : List RT} (h : pairOk a b = true) : a.length = b.length ∧ a.length ≤ 24 ∧ allOk a = true ∧ allOk b = true := by
  unfold pairOk vecOk at h
  simp at h
  exact ⟨h.2, h.1.1.1, h.1.1.2, h.1.2.2⟩
theorem zip_ok (f : Rat → Rat → Rat) (xs ys : List (Option Rat)) : okL (List.zipWith (op2 f) xs ys) := by
  intro x hx
  obtain ⟨i, hi, rfl⟩ := List.getElem_of_mem hx
  rw [List.getElem_zipWith]
  exact okQ_op2 _ _ _
theorem okL_none : okL [none] := by
  intro x hx
  obtain rfl : x = none := by simpa using hx
  intro q h; cases h
theorem addQs_ok (a b : List RT) : okL (addQs a b) ∧ (addQs a b).length ≤ 24 := by
  unfold addQs; split
  · rename_i h; exact ⟨zip_ok _ _ _, by have := pairOk_len h; simp; omega⟩
  · exact ⟨okL_none, by simp⟩
theorem ro_of_ok {rs : List RT} (h : allOk rs = true) (i : Nat) (hi : i < rs.length) : ∃ q, rd rs[i] = some q ∧ rs[i] = ro (some q) ∧ okQ (some q) := by
  have := List.all_eq_true.1 h rs[i] (List.getElem_mem hi)
  obtain ⟨q, hq⟩ := Option.isSome_iff_exists.1 this
  obtain ⟨h1, h2⟩ := rd_some hq
  exact ⟨q, hq, h1, fun x hx => by cases hx; exact h2⟩
theorem spec_AddVectors_ro (a b : List RT) (ha : fitQ a 1048576) (hb : fitQ b 1048576) : RO Try.prog 95 [.sl (rv a), .sl (rv b)] (.tup [.sl (rv (stQ (addQs a b))), .bool (allSome (addQs a b))]) := by
  refine ro_of2 Try.func95 rfl rfl (by rw [Try.ntmps95]; simp) fun bl => ?_
  rw [Try.ntmps95, Try.results95]
  refine AW_run ?_
  simp
  refine callP_ro (l05Pair_ro a b ha hb) ?_
  cases hp : pairOk a b
  · have hz : addQs a b = [none] := by unfold addQs; rw [hp]; rfl
    rw [hz]
    simp
    exact retRO [.nils, .bool false] 1 (by simp) (by simp [frz, V.cl, stQ, allSome, rv]) (Sub.refl _)
  obtain ⟨hlen, hl24, ka, kb⟩ := pairOk_len hp
  obtain ⟨zs, hzs⟩ : ∃ zs, List.zipWith (op2 (· + ·)) (rdAll a) (rdAll b) = zs := ⟨_, rfl⟩
  have hz : addQs a b = zs := by unfold addQs; rw [hp]; exact hzs
  have hzl : zs.length = a.length := by rw [← hzs]; simp; omega
  rw [hz]
  simp
  intro g0 hg0 hb0
  refine AW_for (fun p : Int × Nat => [(0, .sl (rv a)), (1, .sl (rv b)), (6, .lsl p.1 3 0 p.2), (14, .sl (rv a)), (15, .int .i64 a.length), (16, .int .i64 p.2)]) (fun p => upd bl p.1 (some ⟨3, rv (roAll (zs.take p.2))⟩))
    (fun p => 0 ≤ p.1 ∧ bl p.1 = none ∧ p.2 ≤ a.length) (fun p => a.length - p.2) _ (g0, 0) ⟨hg0, hb0, Nat.zero_le _⟩ ⟨rfl, by simp, sub_eq (by simp [rv, roAll])⟩ ?_
  rintro ⟨g, i⟩ ⟨hg, hbg, hi⟩
  simp only at hg hbg hi
  refine AW_run ?_
  simp
  refine ⟨fun h => ?_, fun h => ?_⟩
  · have h2 : i < b.length := by omega
    obtain ⟨qa, ea, ra, oa⟩ := ro_of_ok ka i h
    obtain ⟨qb, eb, rb, ob⟩ := ro_of_ok kb i h2
    have hc := l04Add_ro (some qa) (some qb) oa ob
    have hzi : zs[i]'(by omega) = op2 (· + ·) (some qa) (some qb) := by
      simp only [← hzs, List.getElem_zipWith]
      simp [rdAll, ea, eb]
    rw [← hzi, ← ra, ← rb] at hc
    have hrow : List.take i (rv (roAll (List.take i zs))) ++ [[.bool (ro (zs[i]'(by omega))).neg, .sl (iv (ro (zs[i]'(by omega))).m), .sl (iv (ro (zs[i]'(by omega))).d)]] = rv (roAll (zs.take (i + 1))) := by
      rw [List.take_add_one, List.getElem?_eq_getElem (show i < zs.length by omega), Option.toList_some, roAll_append, rv_append, List.take_of_length_le (by simp; omega)]
      rfl
    simp [h, RT.c]
    intro g8 hg8 h8g hb8
    refine AW_mixedB mixedO (upd bl g8 (some ⟨3, [[.bool a[i].neg, .sl (iv a[i].m), .sl (iv a[i].d)]]⟩)) (by intro z y hz; simp only [upd_apply] at hz ⊢; grind) [0, 1, 2, 3, 4, 5, 6] 3 (by kernel_rfl) ?_
    simp [h2, h8g, Ne.symm h8g, RT.c]
    refine hcQ_ro hc ?_
    have hmin : min i zs.length = i := by omega
    have hra := rv_all (roAll (zs.take i))
    simp [h2, h8g, Ne.symm h8g, RT.c]
    refine DAny_one (i := 7) (by kernel_rfl) rfl rfl ?_
    simp [h2, h8g, Ne.symm h8g, RT.c]
    intro g2 hg2
    intros
    have h28 : ¬ g2 = g8 := by assumption
    have h2g : ¬ g2 = g := by assumption
    have hb2 : bl g2 = none := by assumption
    refine ⟨by intro z y hz; simp only [upd_apply] at hz ⊢; grind, DAny_one (i := 8) (by kernel_rfl) rfl rfl ?_⟩
    simp [h8g, Ne.symm h8g, h28, Ne.symm h28, h2g, Ne.symm h2g, appV, elsV, Int.not_lt.2 hg, Int.not_lt.2 hg2, hmin, hra]
    refine ⟨by omega, fun g3 hg3 hb3 => ?_⟩
    have hb3' : bl g3 = none := by grind
    have h38 : ¬ g3 = g8 := by grind
    have h32 : ¬ g3 = g2 := by grind
    rw [hrow]
    refine ⟨by intro z y hz; simp only [upd_apply, rem_apply] at hz ⊢; grind, DAny_one (i := 9) (by kernel_rfl) rfl rfl ?_⟩
    simp
    refine ⟨by intro z y hz; simp only [upd_apply, rem_apply] at hz ⊢; grind, DAny_done (by kernel_rfl) ?_⟩
    simp (disch := omega) [i64_in, loopQ_normal]
    refine ⟨g3, i + 1, ⟨hg3, hb3', by omega⟩, by omega, rfl, by simp, by intro z y hz; simp only [upd_apply, rem_apply] at hz ⊢; grind⟩
  · have hi2 : i = a.length := by omega
    subst hi2
    have ht : zs.take a.length = zs := List.take_of_length_le (by omega)
    rw [ht]
    refine callP_gro 1 bl [.sl (rv (roAll zs))] (by simp [hbg]) ?_ (l05Done_ro zs (by omega)) ?_
    · have := frz_slice (bl := upd bl g (some ⟨3, rv (roAll zs)⟩)) (bl0 := bl) (sz := 3) (n := a.length) hg hbg (by simp) (by simp [hzl]) (rv_cl (roAll zs))
      simp [this]
    simp
    exact retRO [.sl (rv (stQ zs)), .bool (allSome zs)] 1 (by simp) (by simp [frz, V.cl]) (Sub.refl _)

def sclQs (r : RT) (q : List RT) : List (Option Rat) := if (r.ok ∧ vecOk q = true) then (rdAll q).map (op2 (· * ·) (rd r)) else [none]
theorem vecOk_len {q : List RT} (h : vecOk q = true) : q.length ≤ 24 ∧ allOk q = true := by
  unfold vecOk at h; simp at h; exact h
theorem sclQs_ok (r : RT) (q : List RT) : okL (sclQs r q) ∧ (sclQs r q).length ≤ 24 := by
  unfold sclQs; split
  · rename_i h
    refine ⟨fun x hx => ?_, by have := vecOk_len h.2; simp; omega⟩
    obtain ⟨y, _, rfl⟩ := List.mem_map.1 hx
    exact okQ_op2 _ _ _
  · exact ⟨okL_none, by simp⟩
theorem spec_ScaleVector_ro (r : RT) (q : List RT) (hr : r.le 1048576) (hq : fitQ q 1048576) : RO Try.prog 97 [.agg r.c, .sl (rv q)] (.tup [.sl (rv (stQ (sclQs r q))), .bool (allSome (sclQs r q))]) := by
  have kr := spec_RatOk_ro r (by have := hr.1; omega) (by have := hr.2; omega)
  refine ro_of2 Try.func97 rfl rfl (by rw [Try.ntmps97]; simp) fun bl => ?_
  rw [Try.ntmps97, Try.results97]
  refine AW_run ?_
  simp [RT.c]
  intro gr hgr hbr
  refine AW_way [(1, .sl (rv q)), (2, .loc gr 3 0 0), (4, .nils), (5, .bool false)] _ (upd bl gr (some ⟨3, [r.c]⟩)) 16 (.bool (!(decide r.ok && vecOk q))) (upd bl gr (some ⟨3, [r.c]⟩)) ⟨rfl, by simp, sub_eq (by simp [RT.c])⟩ rfl ?_ ?_
  · simp [RT.c]
    refine callP_ro kr ?_
    simp
    refine ⟨fun h => by simp [h], fun h => ?_⟩
    refine callP_ro (IsVector_ro q hq) ?_
    simp [h]
  cases hp : (decide r.ok && vecOk q)
  · have hz : sclQs r q = [none] := by
      unfold sclQs; rw [if_neg]; rintro ⟨h1, h2⟩; simp [h1, h2] at hp
    rw [hz]
    simp
    exact retRO [.nils, .bool false] 1 (by simp) (by simp [frz, V.cl, stQ, allSome, rv]) (by simp [hbr])
  simp at hp
  obtain ⟨hq24, kq⟩ := vecOk_len hp.2
  obtain ⟨qr, er⟩ : ∃ x, rd r = some x := ⟨_, by unfold rd; rw [if_pos hp.1]⟩
  obtain ⟨rr, fr⟩ := rd_some er
  have or : okQ (some qr) := fun x hx => by cases hx; exact fr
  obtain ⟨zs, hzs⟩ : ∃ zs, (rdAll q).map (op2 (· * ·) (rd r)) = zs := ⟨_, rfl⟩
  have hz : sclQs r q = zs := by unfold sclQs; rw [if_pos hp]; exact hzs
  have hzl : zs.length = q.length := by rw [← hzs]; simp
  rw [hz]
  simp [RT.c]
  intro g0 hg0 h0r hb0
  refine AW_for (fun p : Int × Nat => [(2, .loc gr 3 0 0), (6, .lsl p.1 3 0 p.2), (18, .sl (rv q)), (19, .int .i64 q.length), (20, .int .i64 p.2)]) (fun p => upd (upd bl gr (some ⟨3, [r.c]⟩)) p.1 (some ⟨3, rv (roAll (zs.take p.2))⟩))
    (fun p => 0 ≤ p.1 ∧ bl p.1 = none ∧ p.1 ≠ gr ∧ p.2 ≤ q.length) (fun p => q.length - p.2) _ (g0, 0) ⟨hg0, hb0, h0r, Nat.zero_le _⟩ ⟨rfl, by simp, sub_eq (by simp [rv, roAll, RT.c])⟩ ?_
  rintro ⟨g, i⟩ ⟨hg, hbg, hgr2, hi⟩
  simp only at hg hbg hgr2 hi
  refine AW_run ?_
  simp
  refine ⟨fun h => ?_, fun h => ?_⟩
  · obtain ⟨qa, ea, ra, oa⟩ := ro_of_ok kq i h
    have hc := l04Mul_ro (some qr) (some qa) or oa
    have hzi : zs[i]'(by omega) = op2 (· * ·) (some qr) (some qa) := by
      simp only [← hzs, List.getElem_map]
      simp [rdAll, ea, er]
    rw [← hzi, ← ra, show ro (some qr) = r from rr.symm] at hc
    have hrow : List.take i (rv (roAll (List.take i zs))) ++ [[.bool (ro (zs[i]'(by omega))).neg, .sl (iv (ro (zs[i]'(by omega))).m), .sl (iv (ro (zs[i]'(by omega))).d)]] = rv (roAll (zs.take (i + 1))) := by
      rw [List.take_add_one, List.getElem?_eq_getElem (show i < zs.length by omega), Option.toList_some, roAll_append, rv_append, List.take_of_length_le (by simp; omega)]
      rfl
    have hmin : min i zs.length = i := by omega
    have hra := rv_all (roAll (zs.take i))
    simp [h, RT.c, hgr2, Ne.symm hgr2]
    intro g8 hg8 h8g h8r hb8
    simp [h, RT.c, hgr2, Ne.symm hgr2, h8g, Ne.symm h8g, h8r, Ne.symm h8r]
    refine callP_ro hc ?_
    simp [h, RT.c, hgr2, Ne.symm hgr2, h8g, Ne.symm h8g, h8r, Ne.symm h8r]
    intro g2 hg2
    intros
    have h28 : ¬ g2 = g8 := by assumption
    have h2g : ¬ g2 = g := by assumption
    have h2r : ¬ g2 = gr := by assumption
    have hb2 : bl g2 = none := by assumption
    simp [hgr2, Ne.symm hgr2, h8g, Ne.symm h8g, h8r, Ne.symm h8r, h28, Ne.symm h28, h2g, Ne.symm h2g, h2r, Ne.symm h2r, appV, elsV, Int.not_lt.2 hg, Int.not_lt.2 hg2, hmin, hra]
    refine ⟨by omega, fun g3 hg3 hb3 => ?_⟩
    have hb3' : bl g3 = none := by grind
    have h38 : ¬ g3 = g8 := by grind
    have h32 : ¬ g3 = g2 := by grind
    have h3r : ¬ g3 = gr := by grind
    rw [hrow]
    simp (disch := omega) [i64_in, loopQ_normal]
    refine ⟨g3, i + 1, ⟨hg3, hb3', h3r, by omega⟩, by omega, rfl, by simp, by intro z y hz; simp only [upd_apply, rem_apply] at hz ⊢; grind⟩
  · have hi2 : i = q.length := by omega
    subst hi2
    have ht : zs.take q.length = zs := List.take_of_length_le (by omega)
    rw [ht]
    refine callP_gro 1 bl [.sl (rv (roAll zs))] (by intro z y hz; simp only [upd_apply, rem_apply] at hz ⊢; grind) ?_ (l05Done_ro zs (by omega)) ?_
    · have := frz_slice (bl := upd (upd bl gr (some ⟨3, [r.c]⟩)) g (some ⟨3, rv (roAll zs)⟩)) (bl0 := bl) (sz := 3) (n := q.length) hg hbg (by simp) (by simp [hzl]) (rv_cl (roAll zs))
      simp [this]
    simp
    exact retRO [.sl (rv (stQ zs)), .bool (allSome zs)] 1 (by simp) (by simp [frz, V.cl]) (Sub.refl _)

end Go.Proofs.Ythhjmaianlmfpaa.Vm

namespace Go.Proofs.Ythhjmaianlmfpaa.Vm
open Go Go.Proofs
set_option linter.unusedSimpArgs false
set_option linter.unusedVariables false

theorem frz_tup2 {bl : Int → Option Blk} {n : Nat} {x y : V} {b : Bool} (h : frz bl n x = some y) : frz bl (n + 1) (.tup [x, .bool b]) = some (.tup [y, .bool b]) := by
  rw [frz_tup]
  simp only [List.mapM_cons, List.mapM_nil, h, show frz bl n (.bool b) = some (.bool b) by cases n <;> simp [frz]]
  rfl
theorem paired_ro (a b : List RT) (ha : fitQ a 1048576) (hb : fitQ b 1048576) (f : FuncId) (op : Rat → Rat → Rat) (hf : ∀ x y, okQ x → okQ y → RO Try.prog f [fv x, fv y] (fv (op2 op x y))) : RO Try.prog 142 [.sl (rv a), .sl (rv b), .fn f []] (.tup [.sl (fvs (if pairOk a b = true then List.zipWith (op2 op) (rdAll a) (rdAll b) else [])), .bool (pairOk a b)]) := by
  refine ro_of2 Try.func142 rfl rfl (by rw [Try.ntmps142]; simp) fun bl => ?_
  rw [Try.ntmps142, Try.results142]
  refine AW_run ?_
  simp
  refine callP_ro (loadVector_ro a ha) ?_
  simp
  refine callP_ro (loadVector_ro b hb) ?_
  simp
  refine AW_way0 [(2, .fn f []), (6, .nils), (7, .bool false), (8, .sl (fvs (if vecOk a = true then rdAll a else []))), (9, .bool (vecOk a)), (10, .sl (fvs (if vecOk b = true then rdAll b else []))), (11, .bool (vecOk b))] _ bl 36 (.bool (!pairOk a b)) ⟨rfl, by simp, Sub.refl _⟩ rfl ?_ ?_
  · cases h1 : vecOk a
    · simp [pairOk, h1]
    cases h2 : vecOk b
    · simp [pairOk, h1, h2]
    simp [pairOk, h1, h2]
    rw [Bool.eq_iff_iff]
    simp
    omega
  cases hp : pairOk a b
  · simp
    exact retRO [.nils, .bool false] 1 (by simp) (by simp [frz, V.cl, fvs]) (Sub.refl _)
  obtain ⟨hlen, hl24, ka, kb⟩ := pairOk_len hp
  have va : vecOk a = true := by unfold vecOk; simp [ka, hl24]
  have vb : vecOk b = true := by unfold vecOk; simp [kb]; omega
  rw [va, vb]
  simp
  refine ⟨by omega, by unfold maxLen; omega, fun g hg0 hg => ?_⟩
  obtain ⟨zs, hzs⟩ : ∃ zs, List.zipWith (op2 op) (rdAll a) (rdAll b) = zs := ⟨_, rfl⟩
  have hzl : zs.length = a.length := by rw [← hzs]; simp; omega
  rw [hzs]
  refine AW_for (fun i : Nat => [(2, .fn f []), (8, .sl (fvs (rdAll a))), (10, .sl (fvs (rdAll b))), (12, .lsl g 1 0 a.length), (41, .int .i64 a.length), (42, .int .i64 i)]) (fun i => upd bl g (some ⟨1, part (fvs zs) [.nilp] i⟩)) (fun i => i ≤ a.length) (fun i => a.length - i) _ 0 (Nat.zero_le _) ⟨rfl, by simp, sub_eq (by simp [hzl])⟩ ?_
  intro i hi
  refine AW_run ?_
  simp
  refine ⟨fun h => ?_, fun h => ?_⟩
  · have h2 : i < (rdAll a).length := by simpa using h
    have h3 : i < (rdAll b).length := by simp; omega
    have hf1 := hf (rdAll a)[i] (rdAll b)[i] (rdAll_ok a _ (List.getElem_mem h2)) (rdAll_ok b _ (List.getElem_mem h3))
    have hzi : zs[i]'(by omega) = op2 op (rdAll a)[i] (rdAll b)[i] := by simp only [← hzs, List.getElem_zipWith]
    rw [← hzi] at hf1
    refine AW_mixedB mixedO bl (by simp [hg]) [0, 1, 2, 3, 4, 5, 6, 7, 8, 9, 10, 11, 12] 1 (by kernel_rfl) ?_
    have h4 : i < b.length := by omega
    simp [h, h4, callV]
    refine hcQ_ro hf1 ?_
    simp [h]
    have hi' : i < (fvs zs).length := by simp; omega
    refine DAny_one (i := 13) (by kernel_rfl) rfl rfl ?_
    have hpl : i < (part (fvs zs) [.nilp] i).length := by rw [part_length]; exact hi'
    have hpe : (part (fvs zs) [.nilp] i)[i] = [.nilp] := by
      have := part_get (fvs zs) [.nilp] i hi'
      rw [List.getElem?_eq_getElem hpl] at this; exact Option.some.inj this
    simp [h, hpl, hpe]
    refine ⟨by intro z y hz; simp only [upd_apply] at hz ⊢; grind, DAny_done (by kernel_rfl) ?_⟩
    simp (disch := omega) [i64_in, loopQ_normal]
    refine ⟨i + 1, by omega, by omega, rfl, by simp, sub_eq ?_⟩
    simp only [upd_idem]
    rw [part_set _ _ _ hi' _ (by simp)]
  · have hi2 : i = a.length := by omega
    subst hi2
    rw [part_all _ _ _ (by simp [hzl])]
    exact retRO [.lsl g 1 0 a.length, .bool true] 2 (by simp) (frz_tup2 (frz_slice (sz := 1) (n := a.length) hg0 hg (els := fvs zs) (by simp) (by simp [hzl]) (fvs_cl zs))) (by simp [hg])

theorem impl_AddVectors_nw (a b : List RT) (ha : fitQ a 1048576) (hb : fitQ b 1048576) : NW Try.prog 96 [.sl (rv a), .sl (rv b)] (dV (stQ (addQs a b)) (allSome (addQs a b))) := by
  have hp1 := paired_ro a b ha hb 143 (· + ·) (fun x y hx hy => add_ro x y hx hy)
  refine nw_of Try.func96 rfl rfl (by rw [Try.ntmps96]; simp) fun bl => ?_
  rw [Try.ntmps96, Try.results96]
  refine AW_run ?_
  simp
  refine callP_ro hp1 ?_
  cases hp : pairOk a b
  · have hz : addQs a b = [none] := by unfold addQs; rw [hp]; rfl
    rw [hz]
    simp
    exact retNW [.nils, .bool false] [] (by simp) (own_dV0 _) (by simp) (Sub.refl _)
  · have hz : addQs a b = List.zipWith (op2 (· + ·)) (rdAll a) (rdAll b) := by unfold addQs; rw [hp]; rfl
    obtain ⟨h1, h2⟩ := addQs_ok a b
    rw [← hz]
    simp
    refine callP_new (stores_nw (addQs a b) h1 (by omega)) fun v gs b' o f fr => ?_
    obtain ⟨w, rfl, ow, w1, w2⟩ := own_dV o
    simp
    exact retNW [w, .bool (allSome (addQs a b))] gs (by simp) o f (fun x y hy => new_keep f fr hy)
theorem impl_AddDensities_nw (a b : List RT) (ha : fitQ a 1048576) (hb : fitQ b 1048576) : NW Try.prog 46 [.sl (rv a), .sl (rv b)] (dV (stQ (addQs a b)) (allSome (addQs a b))) := by
  refine nw_of Try.func46 rfl rfl (by rw [Try.ntmps46]; simp) fun bl => ?_
  rw [Try.ntmps46, Try.results46]
  refine AW_run ?_
  simp
  refine callP_new (impl_AddVectors_nw a b ha hb) fun v gs b' o f fr => ?_
  obtain ⟨w, rfl, ow, w1, w2⟩ := own_dV o
  simp
  exact retNW [w, .bool (allSome (addQs a b))] gs (by simp) o f (fun x y hy => new_keep f fr hy)
theorem impl_AddDensities_ro (a b : List RT) (ha : fitQ a 1048576) (hb : fitQ b 1048576) : RO Try.prog 46 [.sl (rv a), .sl (rv b)] (.tup [.sl (rv (stQ (addQs a b))), .bool (allSome (addQs a b))]) := by
  have := ro_of_nw 3 (impl_AddDensities_nw a b ha hb) (dV_dep _ _ 0)
  rwa [dV_fz] at this
theorem spec_AddDensities_ro (a b : List RT) (ha : fitQ a 1048576) (hb : fitQ b 1048576) : RO Try.prog 45 [.sl (rv a), .sl (rv b)] (.tup [.sl (rv (stQ (addQs a b))), .bool (allSome (addQs a b))]) := by
  refine ro_of2 Try.func45 rfl rfl (by rw [Try.ntmps45]; simp) fun bl => ?_
  rw [Try.ntmps45, Try.results45]
  refine AW_run ?_
  simp
  refine callP_ro (spec_AddVectors_ro a b ha hb) ?_
  simp
  exact retRO [.sl (rv (stQ (addQs a b))), .bool (allSome (addQs a b))] 1 (by simp) (by simp [frz, V.cl]) (Sub.refl _)

theorem impl_ScaleVector_nw (r : RT) (q : List RT) (hr : r.le 1048576) (hq : fitQ q 1048576) : NW Try.prog 98 [.agg r.c, .sl (rv q)] (dV (stQ (sclQs r q)) (allSome (sclQs r q))) := by
  refine nw_of Try.func98 rfl rfl (by rw [Try.ntmps98]; simp) fun bl => ?_
  rw [Try.ntmps98, Try.results98]
  refine AW_run ?_
  simp [RT.c]
  intro gr hgr hbr
  refine callP_ro (load_ro r (by have := hr.1; omega) (by have := hr.2; omega)) ?_
  simp
  refine callP_new (loadVector_nw q hq) fun v gs b o f fr => ?_
  obtain ⟨w, rfl, ow, w1, w2⟩ := own_dL o
  have hs : Sub bl b := fun x y hy => new_keep f fr (by rw [upd_apply, if_neg (fun e => by rw [e, hbr] at hy; cases hy)]; exact hy)
  have hfr : ∀ x, x ∈ gs → bl x = none := fun x hx => by have := f x hx; simp [upd_apply] at this; exact this.2
  simp
  refine AW_way0 [(6, fv (rd r)), (7, w), (8, .bool (vecOk q)), (4, .nils), (5, .bool false)] _ b 22 (.bool (!(vecOk q && decide r.ok))) ⟨rfl, by simp, Sub.refl _⟩ rfl ?_ ?_
  · have hok := rd_ok (r := r)
    cases h1 : vecOk q
    · simp
    simp
    cases hx : rd r with
    | none => rw [hx] at hok; simp at hok; simp [fv, hok]
    | some x => rw [hx] at hok; simp at hok; simp [fv, hok]
  cases hp : (vecOk q && decide r.ok)
  · have hz : sclQs r q = [none] := by
      unfold sclQs; rw [if_neg]; rintro ⟨h1, h2⟩; simp [h1, h2] at hp
    rw [hz]
    simp
    exact retNW [.nils, .bool false] [] (by simp) (own_dV0 _) (by simp) hs
  simp at hp
  obtain ⟨hq24, kq⟩ := vecOk_len hp.1
  obtain ⟨zs, hzs⟩ : ∃ zs, (rdAll q).map (op2 (· * ·) (rd r)) = zs := ⟨_, rfl⟩
  have hz : sclQs r q = zs := by unfold sclQs; rw [if_pos ⟨hp.2, hp.1⟩]; exact hzs
  have hzl : zs.length = q.length := by rw [← hzs]; simp
  obtain ⟨hzo, _⟩ := sclQs_ok r q
  rw [hz] at hzo
  rw [hz]
  rw [hp.1, if_pos rfl] at ow
  have hql : q.length ≤ 1048576 := by omega
  have fin : ∀ (b3 : Int → Option Blk) (w : V) (gs : List Int) (K : V → (Int → Option Blk) → Prop), OwnD b3 (fl 1 (fvs zs)) w gs → (∀ w' gs' b4, OwnD b4 (dV (stQ zs) (allSome zs)) (.tup [w', .bool (allSome zs)]) gs' → (∀ x, x ∈ gs' → b3 x = none) → Sub b3 b4 → w'.one = true → w'.cells = [w'] → K (.tup [w', .bool (allSome zs)]) b4) → CallP Try.prog 144 [w] b3 K := by
    intro b3 w gs K o hK
    have hz1 : frz b3 1 w = some (.sl (fvs zs)) := by rw [o.frz (fl_dep _ _ _), fl_fz]
    refine callP_lend 1 (ys := [.sl (fvs zs)]) (by simp [hz1]) (stores_nw zs hzo (by omega)) (dV_sc _ _) fun v gs' b4 o4 f4 fr4 => ?_
    obtain ⟨w', rfl, ow', w1', w2'⟩ := own_dV o4
    exact hK w' gs' b4 o4 f4 (fun x y hy => new_keep f4 fr4 hy) w1' w2'
  rcases own_fvs.1 ow with ⟨h1, rfl, rfl⟩ | ⟨g, rfl, rfl, hbg, hneg⟩
  · have hq0 : q = [] := by simpa [rdAll] using h1
    subst hq0
    have hz0 : zs = [] := List.eq_nil_of_length_eq_zero (by simpa using hzl)
    simp
    refine AW_for (fun _ : Unit => [(7, .nils), (24, .int .i64 0), (25, .int .i64 0)]) (fun _ => b) (fun _ => True) (fun _ => 0) _ () trivial ⟨rfl, by simp, Sub.refl _⟩ ?_
    intro _ _
    refine AW_run ?_
    simp
    refine fin b .nils [] _ (by rw [hz0]; exact own_fvs.2 (.inl ⟨rfl, rfl, rfl⟩)) fun w' gs' b4 o4 f4 s4 c1 c2 => ?_
    simp [c1, c2]
    exact retNW [w', .bool (allSome zs)] gs' (by simp [c1, c2]) o4 (fun x hx => fresh_of hs (f4 x hx)) (fun x y hy => s4 x y (hs x y hy))
  · simp
    refine AW_for (fun i : Nat => [(6, fv (rd r)), (7, .lsl g 1 0 q.length), (24, .int .i64 q.length), (25, .int .i64 i)]) (fun i => upd b g (some ⟨1, over (fvs zs) (fvs (rdAll q)) i⟩)) (fun i => i ≤ q.length) (fun i => q.length - i) _ 0 (Nat.zero_le _) ⟨rfl, by simp, sub_eq ?_⟩ ?_
    · funext x
      simp only [upd_apply]
      split
      · rename_i hx; subst hx; simp [hbg]
      · rfl
    intro i hi
    refine AW_run ?_
    simp
    refine ⟨fun h => ?_, fun h => ?_⟩
    · have hge : 0 ≤ g := by
        rcases Int.lt_or_le g 0 with hlt | hge
        · have := hneg hlt; have : q = [] := by simpa [rdAll] using this
          subst this; simp at h
        · exact hge
      have h2 : i < (rdAll q).length := by simpa using h
      have hl2 : (fvs zs).length = (fvs (rdAll q)).length := by simp [hzl]
      have hov := over_getE (fvs zs) (fvs (rdAll q)) i hl2 (by simpa using h)
      have hol := over_length (fvs zs) (fvs (rdAll q)) i hl2
      rw [fvs_length, rdAll_length] at hol
      rw [fvs_getE] at hov
      have hzi : zs[i]'(by omega) = op2 (· * ·) (rd r) (rdAll q)[i] := by simp only [← hzs, List.getElem_map]
      have hm := mul_ro (rd r) (rdAll q)[i] (okQ_rd r) (rdAll_ok q _ (List.getElem_mem h2))
      rw [← hzi] at hm
      have hil : i < (over (fvs zs) (fvs (rdAll q)) i).length := by omega
      simp [h, hil, hov]
      refine callP_ro hm ?_
      simp [h, hil, hov]
      simp (disch := omega) [i64_in, loopQ_normal]
      refine ⟨i + 1, by omega, by omega, rfl, by simp, sub_eq ?_⟩
      simp only [upd_idem]
      rw [over_set _ _ _ hl2 (by simp; omega) _ (by simp)]
    · have hi2 : i = q.length := by omega
      subst hi2
      have hl2 : (fvs zs).length = (fvs (rdAll q)).length := by simp [hzl]
      rw [over_all _ _ _ hl2 (by simp)]
      have hgb : bl g = none := hfr g (by simp)
      have s2 : Sub bl (upd b g (some ⟨1, fvs zs⟩)) := sub_new' hgb hs
      refine fin _ _ [g] _ (own_fvs.2 (.inr ⟨g, by rw [hzl], rfl, by simp, fun hn => List.eq_nil_of_length_eq_zero (by have h5 := hneg hn; simp [rdAll] at h5; rw [hzl, h5]; rfl)⟩)) fun w' gs' b4 o4 f4 s4 c1 c2 => ?_
      simp [c1, c2]
      exact retNW [w', .bool (allSome zs)] gs' (by simp [c1, c2]) o4 (fun x hx => fresh_of s2 (f4 x hx)) (fun x y hy => s4 x y (s2 x y hy))
theorem impl_ScaleDensities_nw (r : RT) (q : List RT) (hr : r.le 1048576) (hq : fitQ q 1048576) : NW Try.prog 50 [.agg r.c, .sl (rv q)] (dV (stQ (sclQs r q)) (allSome (sclQs r q))) := by
  refine nw_of Try.func50 rfl rfl (by rw [Try.ntmps50]; simp) fun bl => ?_
  rw [Try.ntmps50, Try.results50]
  refine AW_run ?_
  simp [RT.c]
  intro g hg0 hg
  refine callP_new (impl_ScaleVector_nw r q hr hq) fun v gs b' o f fr => ?_
  obtain ⟨w, rfl, ow, w1, w2⟩ := own_dV o
  simp
  exact retNW [w, .bool (allSome (sclQs r q))] gs (by simp) o (fun x hx => by have := f x hx; simp [upd_apply] at this; exact this.2) (fun x y hy => new_keep f fr (by rw [upd_apply, if_neg (fun e => by rw [e, hg] at hy; cases hy)]; exact hy))
theorem impl_ScaleDensities_ro (r : RT) (q : List RT) (hr : r.le 1048576) (hq : fitQ q 1048576) : RO Try.prog 50 [.agg r.c, .sl (rv q)] (.tup [.sl (rv (stQ (sclQs r q))), .bool (allSome (sclQs r q))]) := by
  have := ro_of_nw 3 (impl_ScaleDensities_nw r q hr hq) (dV_dep _ _ 0)
  rwa [dV_fz] at this
theorem spec_ScaleDensities_ro (r : RT) (q : List RT) (hr : r.le 1048576) (hq : fitQ q 1048576) : RO Try.prog 49 [.agg r.c, .sl (rv q)] (.tup [.sl (rv (stQ (sclQs r q))), .bool (allSome (sclQs r q))]) := by
  refine ro_of2 Try.func49 rfl rfl (by rw [Try.ntmps49]; simp) fun bl => ?_
  rw [Try.ntmps49, Try.results49]
  refine AW_run ?_
  simp [RT.c]
  intro g hg0 hg
  refine callP_ro (spec_ScaleVector_ro r q hr hq) ?_
  simp
  exact retRO [.sl (rv (stQ (sclQs r q))), .bool (allSome (sclQs r q))] 1 (by simp) (by simp [frz, V.cl]) (by simp [hg])

end Go.Proofs.Ythhjmaianlmfpaa.Vm

namespace Go.Proofs.Ythhjmaianlmfpaa.Vm
open Go Go.Proofs
set_option linter.unusedSimpArgs false
set_option linter.unusedVariables false

theorem law_ScaleDensities_ro (r : RT) (q : List RT) (hr : r.le 17592186043904) (hq : fitQ q 140737488351232) : RO Try.prog 10 [.agg r.c, .sl (rv q)] (.bool true) := by
  refine ro_of2 Try.func10 rfl rfl (by rw [Try.ntmps10]; simp) fun bl => ?_
  rw [Try.ntmps10, Try.results10]
  refine AW_run ?_
  simp [RT.c]
  intro gx0 hgx0 hbgx0
  have kp := kp_of (bl := bl) hbgx0 (some ⟨3, [[.bool r.neg, .sl (iv r.m), .sl (iv r.d)]]⟩)
  have egx0 : upd bl gx0 (some ⟨3, [[.bool r.neg, .sl (iv r.m), .sl (iv r.d)]]⟩) gx0 = some ⟨3, [[.bool r.neg, .sl (iv r.m), .sl (iv r.d)]]⟩ := by simp
  have sb1 : Sub bl (upd bl gx0 (some ⟨3, [[.bool r.neg, .sl (iv r.m), .sl (iv r.d)]]⟩)) := fun x y hx => kp x y ((Sub.refl _) x y hx)
  generalize upd bl gx0 (some ⟨3, [[.bool r.neg, .sl (iv r.m), .sl (iv r.d)]]⟩) = b1 at *
  clear kp
  refine callP_ro (szRat_ro r _ (by omega) (RT.le_mono hr (by omega))) ?_
  try simp [egx0]
  refine ⟨fun h => ?_, fun hzr => ?_⟩
  · exact retRO [_] 0 rfl rfl sb1
  have qr := szR_n (r := r) (left := 1048576) (by omega) (by omega)
  have qr1 := qr.1
  have qr2 := qr.2
  have hler := szR_le (r := r) (left := 1048576) (by omega)
  refine callP_ro (szRatS_ro q _ hler hq) ?_
  try simp [egx0]
  refine ⟨fun h => ?_, fun hzq => ?_⟩
  · exact retRO [_] 0 rfl rfl sb1
  obtain ⟨qq, qsq⟩ := szQs_n (rs := q) (left := (szR r 1048576)) hler (by omega)
  have hleq := szQs_le (rs := q) (left := (szR r 1048576)) hler
  have tr := toRat_ro r qr
  have tq := toRatS_ro q qq
  have hS := spec_ScaleDensities_ro r q qr qq
  have hI := impl_ScaleDensities_nw r q qr qq
  have hJ := impl_ScaleDensities_ro r q qr qq
  have wl := stQ_fit (sclQs_ok r q).1 (by have := (sclQs_ok r q).2; omega)
  generalize allSome (sclQs r q) = ob at hS hI hJ
  generalize stQ (sclQs r q) = w at hS hI hJ wl
  obtain ⟨wq, ws⟩ := wl
  have we := eqRatS_ro w wq
  refine callP_ro tr ?_
  try simp [egx0]
  refine callP_ro tq ?_
  try simp [egx0]
  refine callP_ro hS ?_
  try simp [egx0]
  refine callP_new (toRat_nw r qr) fun va0 ga0 cb0 ot fa0 fra0 => ?_
  rw [OwnD] at ot
  obtain ⟨vs, rfl, oa0⟩ := ot
  obtain ⟨va0a, va0b, rfl, c1, c2⟩ := own_rt1 oa0
  have m_gx0_ga0 : gx0 ∉ ga0 := fun hh => by have hz := fa0 _ hh; rw [egx0] at hz; cases hz
  have fr_ga0 : ∀ x, x ∈ ga0 → bl x = none := fun x hx => fresh_of sb1 (fa0 x hx)
  have egx0 := new_keep fa0 fra0 egx0
  have scb0 : Sub bl cb0 := fun x y hx => new_keep fa0 fra0 (sb1 x y hx)
  try simp [egx0, c1, c2]
  intro gx1 hgx1 hbgx1
  have kp := kp_of (bl := cb0) hbgx1 (some ⟨3, [[.bool r.neg, va0a, va0b]]⟩)
  have egx1 : upd cb0 gx1 (some ⟨3, [[.bool r.neg, va0a, va0b]]⟩) gx1 = some ⟨3, [[.bool r.neg, va0a, va0b]]⟩ := by simp
  have sb2 : Sub bl (upd cb0 gx1 (some ⟨3, [[.bool r.neg, va0a, va0b]]⟩)) := fun x y hx => kp x y (scb0 x y hx)
  generalize upd cb0 gx1 (some ⟨3, [[.bool r.neg, va0a, va0b]]⟩) = b2 at *
  have egx0 := kp _ _ egx0
  have m_gx1_ga0 : gx1 ∉ ga0 := oa0.not hbgx1
  have oa0 := oa0.keep (bl' := b2) fun x _ y hy => kp x y hy
  clear kp
  try simp [egx0, egx1, c1, c2]
  refine callP_new (toRatS_nw q qq) fun va1 ga1 cb1 oa1 fa1 fra1 => ?_
  obtain ⟨c1, c2⟩ := own_rs1 oa1
  have m_gx0_ga1 : gx0 ∉ ga1 := fun hh => by have hz := fa1 _ hh; rw [egx0] at hz; cases hz
  have m_gx1_ga1 : gx1 ∉ ga1 := fun hh => by have hz := fa1 _ hh; rw [egx1] at hz; cases hz
  have n_ga1_ga0 : ∀ x, x ∈ ga1 → x ∉ ga0 := fun x hx => oa0.not (fa1 x hx)
  have fr_ga1 : ∀ x, x ∈ ga1 → bl x = none := fun x hx => fresh_of sb2 (fa1 x hx)
  have egx0 := new_keep fa1 fra1 egx0
  have egx1 := new_keep fa1 fra1 egx1
  have oa0 := oa0.keep (bl' := cb1) fun x _ y hy => new_keep fa1 fra1 hy
  have scb1 : Sub bl cb1 := fun x y hx => new_keep fa1 fra1 (sb2 x y hx)
  try simp [egx0, egx1, c1, c2]
  refine callP_lend 3 (ys := [.agg r.c, .sl (rv q)]) (by simp [frz_rtL oa0 1, frz_rs oa1 1]; try simp [frz]) hI (dV_sc _ _) fun vr gr d0 oT fr0 frr0 => ?_
  obtain ⟨w0, rfl, oR, p1, p2⟩ := own_dV oT
  clear oT
  have m_gx0_gr : gx0 ∉ gr := fun hh => by have hz := fr0 _ hh; rw [egx0] at hz; cases hz
  have m_gx1_gr : gx1 ∉ gr := fun hh => by have hz := fr0 _ hh; rw [egx1] at hz; cases hz
  have n_gr_ga0 : ∀ x, x ∈ gr → x ∉ ga0 := fun x hx => oa0.not (fr0 x hx)
  have n_gr_ga1 : ∀ x, x ∈ gr → x ∉ ga1 := fun x hx => oa1.not (fr0 x hx)
  have fr_gr : ∀ x, x ∈ gr → bl x = none := fun x hx => fresh_of scb1 (fr0 x hx)
  have egx0 := new_keep fr0 frr0 egx0
  have egx1 := new_keep fr0 frr0 egx1
  have oa0 := oa0.keep (bl' := d0) fun x _ y hy => new_keep fr0 frr0 hy
  have oa1 := oa1.keep (bl' := d0) fun x _ y hy => new_keep fr0 frr0 hy
  have sd0 : Sub bl d0 := fun x y hx => new_keep fr0 frr0 (scb1 x y hx)
  try simp [egx0, egx1, p1, p2]
  refine AW_way0 [(2, .loc gx0 3 0 0), (1, .sl (rv q)), (8, .loc gx1 3 0 0), (9, va1), (6, .sl (rv w)), (7, .bool ob), (10, w0), (11, .bool ob)] _ d0 53 (.bool false) ⟨rfl, by simp, Sub.refl _⟩ rfl ?_ ?_
  · simp [egx0, egx1]
    refine callP_borrow 3 (ys := [.sl (rv w), .sl (rv w)]) (by simp [frz_rs oR 1]; simp [frz]) we rfl ?_
    simp
  try simp [egx0, egx1]
  refine AW_quiet mixedO (by kernel_rfl) ?_
  simp [egx0, egx1]
  refine hcQ_ro tr ?_
  try simp
  refine hcQ_of 3 (eqRat_ro r (RT.le_mono hr (by omega))) (by simp [frz_rtL oa0 1]; simp [frz, RT.c, V.cl]) rfl ?_
  try simp [egx0, egx1]
  refine callP_ro tq ?_
  try simp [egx0, egx1]
  refine callP_borrow 3 (ys := [.sl (rv q), .sl (rv q)]) (by simp [frz_rs oa1 1]; simp [frz]) (eqRatS_ro q qq) rfl ?_
  try simp [egx0, egx1]
  have bd0 : (mkRN 1 r) ≤ 4611686018427387000 := by simp only [mkRN]; omega
  refine markRat_cp r 1 _ ga0 oa0 bd0 fun mb0 oa0 k0 => ?_
  have egx0 := k0 gx0 m_gx0_ga0 _ egx0
  have egx1 := k0 gx1 m_gx1_ga0 _ egx1
  have oa1 := oa1.keep (bl' := mb0) fun x hx y hy => k0 x (n_ga1_ga0 x hx) y hy
  have oR := oR.keep (bl' := mb0) fun x hx y hy => k0 x (n_gr_ga0 x hx) y hy
  have smb0 : Sub bl mb0 := fun x y hx => k0 x (fun h => by rw [fr_ga0 x h] at hx; cases hx) y (sd0 x y hx)
  try simp [egx0, egx1]
  have bd1 : (mkQsN (mkRN 1 r) q) ≤ 4611686018427387000 := by simp only [mkRN, mkQsN_sum]; omega
  refine markRatS_cp q (mkRN 1 r) _ ga1 oa1 bd1 fun mb1 oa1 k1 => ?_
  have egx0 := k1 gx0 m_gx0_ga1 _ egx0
  have egx1 := k1 gx1 m_gx1_ga1 _ egx1
  have oa0 := oa0.keep (bl' := mb1) fun x hx y hy => k1 x (fun hh => n_ga1_ga0 x hh hx) y hy
  have oR := oR.keep (bl' := mb1) fun x hx y hy => k1 x (n_gr_ga1 x hx) y hy
  have smb1 : Sub bl mb1 := fun x y hx => k1 x (fun h => by rw [fr_ga1 x h] at hx; cases hx) y (smb0 x y hx)
  try simp [egx0, egx1]
  refine AW_way0 [(2, .loc gx0 3 0 0), (1, .sl (rv q)), (8, .loc gx1 3 0 0), (9, va1), (6, .sl (rv w)), (7, .bool ob), (10, w0), (11, .bool ob), (12, .int .i64 ((mkQsN (mkRN 1 r) q) : Nat))] _ mb1 82 (.bool false) ⟨rfl, by simp, Sub.refl _⟩ rfl ?_ ?_
  · simp [egx0, egx1]
    refine callP_borrow 3 (ys := [.sl (rv w), .sl (rv w)]) (by simp [frz_rs oR 1]; simp [frz]) we rfl ?_
    simp
  try simp [egx0, egx1]
  have bw : mkQsN 1 w ≤ 4611686018427387000 := by have := wq.1; rw [mkQsN_sum]; omega
  refine markRatS_cp w 1 _ gr oR bw fun f0 oR kr => ?_
  have egx0 := kr gx0 m_gx0_gr _ egx0
  have egx1 := kr gx1 m_gx1_gr _ egx1
  have oa0 := oa0.keep (bl' := f0) fun x hx y hy => kr x (fun hh => n_gr_ga0 x hh hx) y hy
  have oa1 := oa1.keep (bl' := f0) fun x hx y hy => kr x (fun hh => n_gr_ga1 x hh hx) y hy
  have sf0 : Sub bl f0 := fun x y hx => kr x (fun h => by rw [fr_gr x h] at hx; cases hx) y (smb1 x y hx)
  have hh := heldRatS_ro w 1 bw
  have hneg : ¬ (mkQsN 1 w : Int) < 0 := by omega
  try simp [egx0, egx1]
  refine callP_borrow 3 (ys := [.sl (rv (mkQs 1 w)), .int .i64 1]) (by simp [frz_rs oR 1]; simp [frz]) hh rfl ?_
  try simp [egx0, egx1, hneg]
  refine callP_ro tr ?_
  try simp [egx0, egx1]
  refine callP_ro tq ?_
  try simp [egx0, egx1]
  refine callP_ro hJ ?_
  try simp [egx0, egx1]
  refine AW_way0 [(2, .loc gx0 3 0 0), (1, .sl (rv q)), (8, .loc gx1 3 0 0), (9, va1), (6, .sl (rv w)), (7, .bool ob), (10, w0), (11, .bool ob), (13, .int .i64 (mkQsN 1 w : Nat)), (15, .sl (rv w)), (16, .bool ob)] _ f0 110 (.bool false) ⟨rfl, by simp, Sub.refl _⟩ rfl ?_ ?_
  · simp [egx0, egx1]
    refine callP_ro we ?_
    simp
  try simp [egx0, egx1]
  refine callP_borrow 3 (ys := [.sl (rv (mkQs 1 w)), .int .i64 1]) (by simp [frz_rs oR 1]; simp [frz]) hh rfl ?_
  try simp [egx0, egx1, hneg]
  exact retRO [_] 0 rfl rfl sf0

end Go.Proofs.Ythhjmaianlmfpaa.Vm

namespace Go.Proofs.Ythhjmaianlmfpaa.lawScaleDensities
open Go Go.RowKit Go.ChangeShapes Go.WideShapes Vm
theorem body (xs : List V) (h : ArgsOk Try.prog Try.f10.params.toList xs) : RO Try.prog 10 xs (.bool true) := by
  rw [Try.params10] at h
  obtain ⟨c0, ys, rfl, h0, h⟩ := args_cons h
  obtain ⟨c1, ys, rfl, h1, h⟩ := args_cons h
  obtain rfl := args_nil h
  obtain ⟨x0, rfl, y0⟩ := rat_of_co h0
  obtain ⟨x1, rfl, y1⟩ := rv_of_co h1
  rw [toV_struct Try.underlying44, toV_slice Try.underlying70]
  exact law_ScaleDensities_ro x0 x1 y0 (fitQ_mono y1 (by omega))
set_option maxRecDepth 100000 in
theorem lifted (os : Os) (started : os.Started) (H : Type) (enc : TypeId × Value → H) :
    ReturnsInHanded {} Try.checked os 10 .any (Rows.fnExactScaleDensitiesSpec.pre6 enc Try.prog Try.f10 Rows.fnExactScaleDensitiesRow.domain false) (Rows.fnExactScaleDensitiesSpec.post enc Try.prog Try.f10 false true false false) := by
  refine returnsInHanded_of_change_sized (C := Try.checked) own started (by kernel_rfl) Try.func10
    (ChangeSpec.witness6 (enc := enc) (C := Try.checked) false ⟨#[], #[.agg #[.bool false, .slice none 0 0, .slice none 0 0], .slice none 0 0], []⟩ 8 (by kernel_rfl) (by kernel_rfl) (by kernel_rfl) (by kernel_rfl)) ?_
  intro W base args ds gs before hval hW hcnd hsz _
  refine law_calls (tb := 4) rfl rfl Try.underlying4 laidOut (by kernel_rfl) (fun ds hds => ?_) body W base args ds gs before hval hW hsz
  rw [Try.params10] at hds
  first
    | (match ds, hds with | [a], _ => rfl)
    | (match ds, hds with | [a, b], _ => rfl)
    | (match ds, hds with | [a, b, c], _ => rfl)
    | (match ds, hds with | [a, b, c, d], _ => rfl)
    | (match ds, hds with | [a, b, c, d, e], _ => rfl)
    | (match ds, hds with | [a, b, c, d, e, f], _ => rfl)
theorem over : Rows.fnExactScaleDensitiesRow.holds Try.pinned (OpenSpec.ofChange Rows.fnExactScaleDensitiesSpec) :=
  OpenClaim.holds_of_wide 10 Try.f10 rfl rfl rfl rfl rfl rfl rfl ⟨rfl, rfl, rfl, rfl, rfl⟩ rfl rfl rfl rfl rfl (by kernel_rfl) Try.func10 (facts (by kernel_rfl))
    (of_decide_eq_true (by kernel_rfl)) (by unfold Func.isWrapper; first | (rw [if_pos (by decide +kernel)]; kernel_rfl) | (rw [if_neg (by decide +kernel)]; exact ⟨rfl, rfl⟩))
    (fun os started H enc _ => lifted os started H enc)
theorem proved : Rows.FnExactScaleDensitiesSaid := over
#print axioms proved
end Go.Proofs.Ythhjmaianlmfpaa.lawScaleDensities
