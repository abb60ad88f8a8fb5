/- Whole numbers and fractions in the reference: making, order, validity. -/

import Derived.Test.YticmgmemnpcbbaaGreatQCFnExactCanCarry5

namespace Go.Proofs.YticmgmemnpcbbaaGreat.Vm
open Go Go.Proofs
set_option linter.unusedSimpArgs false
set_option linter.unusedVariables false

theorem frz_pair {bl bl0 : Int → Option Blk} {g : Int} {ns : List Int} {b : Bool} (h0 : 0 ≤ g ∨ ns = []) (hg : bl0 g = none) (hb : bl g = some ⟨1, iv ns⟩) : frz (dropB bl bl0) 2 (.agg [.bool b, .lsl g 1 0 ns.length]) = some (.agg [.bool b, .sl (iv ns)]) := by
  have h1 := frz_any h0 hg hb
  have h2 : frz (dropB bl bl0) 1 (.bool b) = some (.bool b) := by simp [frz]
  rw [frz_agg]
  simp only [List.mapM_cons, List.mapM_nil, h1, h2]
  rfl
theorem l03Make_ro (neg : Bool) (m : Nat) (hm : (lim m).length ≤ 60) : RO Tryz.prog 254 [.bool neg, .sl (iv (lim m))] (.agg (biC (sg neg m))) := by
  have hall : ((iv (lim m)).all fun c => c.length == 1 && c.all V.one) = true := by simp [iv]
  refine ro_of2 Tryz.func254 rfl rfl (by rw [Tryz.ntmps254]; simp) fun bl => ?_
  rw [Tryz.ntmps254, Tryz.results254]
  refine AW_run ?_
  simp
  intro g hg0 hg
  refine callP_ro (l02Cap_ro (lim m) (lim_dig m) (by omega)) ?_
  rw [val_lim, if_pos hm]
  simp
  cases neg
  all_goals
    refine AW_region (Ops_of ?_)
    simp
    intro g1 hg1 h1g hb1
    simp [h1g, Ne.symm h1g, appV, elsV, Int.not_lt.2 hg1, hall]
    refine ⟨by omega, fun g2 hg2 hb2 => ?_⟩
    have h2g : g2 ≠ g := by grind
    have hb2' : bl g2 = none := by grind
    have hnn : 0 ≤ g2 ∨ lim m = [] := hg2.imp id (fun h => by simpa [iv] using h)
    simp [h1g, Ne.symm h1g, h2g, Ne.symm h2g]
  · refine retRO [.agg [.bool false, .lsl g2 1 0 (lim m).length]] 2 (by simp [h1g, Ne.symm h1g, h2g, Ne.symm h2g]) ?_ (by simp [hg, hb1, hb2', h1g, h2g])
    rw [biC_sg]
    exact frz_pair hnn hb2' (by simp [h2g])
  · refine retRO [.agg [.bool (decide (0 < (lim m).length)), .lsl g2 1 0 (lim m).length]] 2 (by simp [h1g, Ne.symm h1g, h2g, Ne.symm h2g]) ?_ (by simp [hg, hb1, hb2', h1g, h2g])
    rw [biC_sg]
    exact frz_pair hnn hb2' (by simp [h2g])

theorem l03Cmp_ro (x y : Int) (hx : (lim x.natAbs).length ≤ 1048576) (hy : (lim y.natAbs).length ≤ 1048576) : RO Tryz.prog 294 [.agg (biC x), .agg (biC y)] (.int .i64 (cmpZ x y)) := by
  refine ro_of2 Tryz.func294 rfl rfl (by rw [Tryz.ntmps294]; simp) fun bl => ?_
  rw [Tryz.ntmps294, Tryz.results294]
  refine AW_runA ?_
  rw [show biC x = [.bool (decide (x < 0)), .sl (iv (lim x.natAbs))] from rfl, show biC y = [.bool (decide (y < 0)), .sl (iv (lim y.natAbs))] from rfl]
  simp
  intro g hg0 hg g2 hg2 h2g hb2
  refine AW_run ?_
  simp [h2g, Ne.symm h2g]
  by_cases h1 : x < 0 <;> by_cases h2 : y < 0
  · refine AW_way [(2, .loc g 2 0 0), (3, .loc g2 2 0 0)] _ (upd (upd bl g (some ⟨2, [[.bool (decide (x < 0)), .sl (iv (lim x.natAbs))]]⟩)) g2 (some ⟨2, [[.bool (decide (y < 0)), .sl (iv (lim y.natAbs))]]⟩)) 5 (.bool false) (upd (upd bl g (some ⟨2, [[.bool (decide (x < 0)), .sl (iv (lim x.natAbs))]]⟩)) g2 (some ⟨2, [[.bool (decide (y < 0)), .sl (iv (lim y.natAbs))]]⟩)) ⟨rfl, by simp, Sub.refl _⟩ rfl (by simp [h1, h2, h2g, Ne.symm h2g]) ?_
    simp [h1, h2, h2g, Ne.symm h2g]
    refine AW_way [(2, .loc g 2 0 0), (3, .loc g2 2 0 0)] _ (upd (upd bl g (some ⟨2, [[.bool (decide (x < 0)), .sl (iv (lim x.natAbs))]]⟩)) g2 (some ⟨2, [[.bool (decide (y < 0)), .sl (iv (lim y.natAbs))]]⟩)) 13 (.bool false) (upd (upd bl g (some ⟨2, [[.bool (decide (x < 0)), .sl (iv (lim x.natAbs))]]⟩)) g2 (some ⟨2, [[.bool (decide (y < 0)), .sl (iv (lim y.natAbs))]]⟩)) ⟨rfl, by simp, sub_eq (by simp [h1, h2])⟩ rfl (by simp [h1, h2, h2g, Ne.symm h2g]) ?_
    simp [h1, h2, h2g, Ne.symm h2g]
    refine callP_ro (l02Cmp_ro _ _ hy hx) ?_
    simp
    refine retRO [.int .i64 (cmpZ x y)] 0 ?_ (by simp [frz]) (by simp [hg, hb2])
    have : cmpN y.natAbs x.natAbs = cmpZ x y := by unfold cmpN cmpZ; split <;> split <;> (try split) <;> (try split) <;> omega
    simp [this]
  · refine AW_way [(2, .loc g 2 0 0), (3, .loc g2 2 0 0)] _ (upd (upd bl g (some ⟨2, [[.bool (decide (x < 0)), .sl (iv (lim x.natAbs))]]⟩)) g2 (some ⟨2, [[.bool (decide (y < 0)), .sl (iv (lim y.natAbs))]]⟩)) 5 (.bool true) (upd (upd bl g (some ⟨2, [[.bool (decide (x < 0)), .sl (iv (lim x.natAbs))]]⟩)) g2 (some ⟨2, [[.bool (decide (y < 0)), .sl (iv (lim y.natAbs))]]⟩)) ⟨rfl, by simp, Sub.refl _⟩ rfl (by simp [h1, h2, h2g, Ne.symm h2g]) ?_
    simp [h1, h2, h2g, Ne.symm h2g]
    have : cmpZ x y = -1 := by unfold cmpZ; rw [if_pos (by omega)]
    exact retRO [.int .i64 (-1)] 0 (by simp) (by simp [frz, this]) (by simp [hg, hb2])
  · refine AW_way [(2, .loc g 2 0 0), (3, .loc g2 2 0 0)] _ (upd (upd bl g (some ⟨2, [[.bool (decide (x < 0)), .sl (iv (lim x.natAbs))]]⟩)) g2 (some ⟨2, [[.bool (decide (y < 0)), .sl (iv (lim y.natAbs))]]⟩)) 5 (.bool false) (upd (upd bl g (some ⟨2, [[.bool (decide (x < 0)), .sl (iv (lim x.natAbs))]]⟩)) g2 (some ⟨2, [[.bool (decide (y < 0)), .sl (iv (lim y.natAbs))]]⟩)) ⟨rfl, by simp, Sub.refl _⟩ rfl (by simp [h1, h2, h2g, Ne.symm h2g]) ?_
    simp [h1, h2, h2g, Ne.symm h2g]
    refine AW_way [(2, .loc g 2 0 0), (3, .loc g2 2 0 0)] _ (upd (upd bl g (some ⟨2, [[.bool (decide (x < 0)), .sl (iv (lim x.natAbs))]]⟩)) g2 (some ⟨2, [[.bool (decide (y < 0)), .sl (iv (lim y.natAbs))]]⟩)) 13 (.bool true) (upd (upd bl g (some ⟨2, [[.bool (decide (x < 0)), .sl (iv (lim x.natAbs))]]⟩)) g2 (some ⟨2, [[.bool (decide (y < 0)), .sl (iv (lim y.natAbs))]]⟩)) ⟨rfl, by simp, sub_eq (by simp [h1, h2])⟩ rfl (by simp [h1, h2, h2g, Ne.symm h2g]) ?_
    simp [h1, h2, h2g, Ne.symm h2g]
    have : cmpZ x y = 1 := by unfold cmpZ; rw [if_neg (by omega), if_neg (by omega)]
    exact retRO [.int .i64 1] 0 (by simp) (by simp [frz, this]) (by simp [hg, hb2])
  · refine AW_way [(2, .loc g 2 0 0), (3, .loc g2 2 0 0)] _ (upd (upd bl g (some ⟨2, [[.bool (decide (x < 0)), .sl (iv (lim x.natAbs))]]⟩)) g2 (some ⟨2, [[.bool (decide (y < 0)), .sl (iv (lim y.natAbs))]]⟩)) 5 (.bool false) (upd (upd bl g (some ⟨2, [[.bool (decide (x < 0)), .sl (iv (lim x.natAbs))]]⟩)) g2 (some ⟨2, [[.bool (decide (y < 0)), .sl (iv (lim y.natAbs))]]⟩)) ⟨rfl, by simp, Sub.refl _⟩ rfl (by simp [h1, h2, h2g, Ne.symm h2g]) ?_
    simp [h1, h2, h2g, Ne.symm h2g]
    refine AW_way [(2, .loc g 2 0 0), (3, .loc g2 2 0 0)] _ (upd (upd bl g (some ⟨2, [[.bool (decide (x < 0)), .sl (iv (lim x.natAbs))]]⟩)) g2 (some ⟨2, [[.bool (decide (y < 0)), .sl (iv (lim y.natAbs))]]⟩)) 13 (.bool false) (upd (upd bl g (some ⟨2, [[.bool (decide (x < 0)), .sl (iv (lim x.natAbs))]]⟩)) g2 (some ⟨2, [[.bool (decide (y < 0)), .sl (iv (lim y.natAbs))]]⟩)) ⟨rfl, by simp, sub_eq (by simp [h1, h2])⟩ rfl (by simp [h1, h2, h2g, Ne.symm h2g]) ?_
    simp [h1, h2, h2g, Ne.symm h2g]
    refine callP_ro (l02Cmp_ro _ _ hx hy) ?_
    simp
    refine retRO [.int .i64 (cmpZ x y)] 0 ?_ (by simp [frz]) (by simp [hg, hb2])
    have : cmpN x.natAbs y.natAbs = cmpZ x y := by unfold cmpN cmpZ; split <;> split <;> (try split) <;> (try split) <;> omega
    simp [this]

theorem l04One_ro (n : Nat) : RO Tryz.prog 262 [.sl (iv (lim n))] (.bool (decide (n = 1))) := by
  refine ro_of2 Tryz.func262 rfl rfl (by rw [Tryz.ntmps262]; simp) fun bl => ?_
  rw [Tryz.ntmps262, Tryz.results262]
  refine AW_run ?_
  simp
  refine AW_way0 [(0, .sl (iv (lim n)))] _ bl 2 (.bool (decide (n = 1))) ⟨rfl, by simp, Sub.refl _⟩ rfl ?_ ?_
  · simp
    by_cases h : (lim n).length = 1
    · obtain ⟨k1, k2, k3⟩ := len1 h
      simp [h, lv_get n 0 (by omega), k1, eq_dec]
      rw [lim_at (by omega), k1]
      omega
    · have hn : n ≠ 1 := fun e => h (by rw [e, lim1]; rfl)
      have h2 : ¬ ((lim n).length : Int) = 1 := by omega
      simp [h, h2, hn]
  simp
  exact retRO0 (by simp) rfl rfl

theorem l04Cmp_ro (a b : Rat) (ha : fits a) (hb : fits b) : RO Tryz.prog 278 [.agg (rq a).c, .agg (rq b).c] (.int .i64 (cmpR a b)) := by
  obtain ⟨a1, a2⟩ := ha
  obtain ⟨b1, b2⟩ := hb
  have n1 := len_mul a1 b2
  have n2 := len_mul b1 a2
  have e1 : sg (decide (a.num < 0)) (a.num.natAbs * b.den) = a.num * b.den := by
    have := sg_mul a.num b.den
    have h0 : decide (((b.den : Nat) : Int) < 0) = false := decide_eq_false (by omega)
    rw [h0, Bool.bne_false, Int.natAbs_natCast] at this
    exact this
  have e2 : sg (decide (b.num < 0)) (b.num.natAbs * a.den) = b.num * a.den := by
    have := sg_mul b.num a.den
    have h0 : decide (((a.den : Nat) : Int) < 0) = false := decide_eq_false (by omega)
    rw [h0, Bool.bne_false, Int.natAbs_natCast] at this
    exact this
  refine ro_of2 Tryz.func278 rfl rfl (by rw [Tryz.ntmps278]; simp) fun bl => ?_
  rw [Tryz.ntmps278, Tryz.results278]
  refine AW_runA ?_
  rw [rqc_def, rqc_def]
  simp
  intro g hg0 hg g2 hg2 h2g hb2
  refine AW_run ?_
  simp
  refine AW_quiet mixedO (by kernel_rfl) ?_
  simp [h2g, Ne.symm h2g]
  refine hcQ_ro (l02Mul_ro _ _ (by omega) (by omega)) ?_
  simp
  refine hcQ_ro (l03Make_ro _ _ (by omega)) ?_
  rw [e1]
  simp [h2g, Ne.symm h2g]
  refine hcQ_ro (l02Mul_ro _ _ (by omega) (by omega)) ?_
  simp
  refine hcQ_ro (l03Make_ro _ _ (by omega)) ?_
  rw [e2]
  simp
  refine hcQ_ro (l03Cmp_ro _ _ (by rw [← e1, sg_abs]; omega) (by rw [← e2, sg_abs]; omega)) ?_
  simp
  exact retRO [.int .i64 (cmpR a b)] 0 (by simp [cmpR]) (by simp [frz]) (by simp [hg, hb2])

theorem spec_RatOk_ro (r : RT) (hm : r.m.length ≤ 140737488351232) (hd : r.d.length ≤ 140737488351232) : RO Tryz.prog 213 [.agg r.c] (.bool (decide r.ok)) := by
  refine ro_of2 Tryz.func213 rfl rfl (by rw [Tryz.ntmps213]; simp) fun bl => ?_
  rw [Tryz.ntmps213, Tryz.results213]
  refine AW_run ?_
  simp [RT.c]
  intro g hg0 hg
  refine AW_way [(1, .loc g 3 0 0)] _ (upd bl g (some ⟨3, [[.bool r.neg, .sl (iv r.m), .sl (iv r.d)]]⟩)) 31 (.bool r.bad) (upd bl g (some ⟨3, [[.bool r.neg, .sl (iv r.m), .sl (iv r.d)]]⟩)) ⟨rfl, by simp, Sub.refl _⟩ rfl ?_ ?_
  · simp
    refine callP_ro (spec_BigIntOk_ro r.neg r.m hm) ?_
    simp [RT.bad]
    refine ⟨fun h => by simp [h], fun h => ?_⟩
    refine callP_ro (spec_NatOk_ro r.d hd) ?_
    simp [h]
    refine ⟨fun a => by simp [a], fun a => ⟨fun b => by simp [b], fun b => ⟨fun c => .inr (by omega), fun c => ?_⟩⟩⟩
    have c2 : ¬ 24 < r.d.length := by omega
    simp [a, b, c2]
    omega
  simp
  refine ⟨fun h => ?_, fun h => ?_⟩
  · refine retRO [.bool false] 0 (by simp) ?_ (by simp [hg])
    have : ¬ r.ok := fun hk => by have := (RT.ok_iff.1 hk).1; rw [h] at this; cases this
    simp [frz, this]
  · obtain ⟨l1, l2, l3, l4⟩ := RT.lims h
    rw [l1, l2]
    refine callP_ro (l02Gcd_ro (val r.m) (val r.d) (by rw [← l1]; omega) (by rw [← l2]; omega)) ?_
    simp
    refine callP_ro (l04One_ro _) ?_
    simp
    refine retRO [.bool (decide (Nat.gcd (val r.m) (val r.d) = 1))] 0 (by simp) ?_ (by simp [hg])
    simp [frz, RT.ok_iff, h]

/-- The sign of a fraction; 0 for none. -/
def sgq (x : Option Rat) : Int := match x with | some q => q.num.sign | none => 0
theorem RatSign_ro (r : RT) (hm : r.m.length ≤ 140737488351232) (hd : r.d.length ≤ 140737488351232) : RO Tryz.prog 191 [.agg r.c] (.int .i64 (sgq (rd r))) := by
  have key : (decide r.ok = false ∨ r.m = [] → sgq (rd r) = 0) ∧ (r.ok → r.m ≠ [] → sgq (rd r) = if r.neg then -1 else 1) := by
    have none_of : ¬ r.ok → rd r = none := fun h => by unfold rd; rw [if_neg h]
    constructor
    · rintro (h | h)
      · rw [none_of (by simpa using h)]; rfl
      · cases hq : rd r with
        | none => rfl
        | some q =>
          obtain ⟨hr, _⟩ := rd_some hq
          have : q.num = 0 := by
            have : lim q.num.natAbs = [] := by rw [← h, hr]; rfl
            have := lim_nil.1 this; omega
          simp [sgq, this]
    · intro h hm
      obtain ⟨q, hq⟩ : ∃ q, rd r = some q := ⟨_, by unfold rd; rw [if_pos h]⟩
      obtain ⟨hr, _⟩ := rd_some hq
      rw [hq]
      have h1 : q.num ≠ 0 := fun h0 => hm (by rw [hr]; show lim q.num.natAbs = []; rw [h0]; exact lim_zero)
      have h2 : r.neg = decide (q.num < 0) := by rw [hr]; rfl
      rw [h2]
      by_cases h3 : q.num < 0
      · simp [sgq, h3, Int.sign_eq_neg_one_of_neg h3]
      · simp [sgq, h3, Int.sign_eq_one_of_pos (show 0 < q.num by omega)]
  refine ro_of2 Tryz.func191 rfl rfl (by rw [Tryz.ntmps191]; simp) fun bl => ?_
  rw [Tryz.ntmps191, Tryz.results191]
  refine AW_run ?_
  simp [RT.c]
  intro g hg0 hg
  refine AW_way [(1, .loc g 3 0 0)] _ (upd bl g (some ⟨3, [[.bool r.neg, .sl (iv r.m), .sl (iv r.d)]]⟩)) 3 (.bool (!decide r.ok || decide (r.m = []))) (upd bl g (some ⟨3, [[.bool r.neg, .sl (iv r.m), .sl (iv r.d)]]⟩)) ⟨rfl, by simp, Sub.refl _⟩ rfl ?_ ?_
  · simp
    refine callP_ro (spec_RatOk_ro r hm hd) ?_
    simp [len_dec]
    by_cases h : r.ok <;> simp [h]
  simp
  refine ⟨fun h => ?_, fun h1 h2 => ⟨fun h3 => ?_, fun h3 => ?_⟩⟩
  · exact retRO [.int .i64 0] 0 (by simp) (by rw [key.1 (by simpa using h)]; simp [frz]) (by simp [hg])
  · exact retRO [.int .i64 (-1)] 0 (by simp) (by rw [key.2 h1 h2, h3]; simp [frz]) (by simp [hg])
  · exact retRO [.int .i64 1] 0 (by simp) (by rw [key.2 h1 h2, h3]; simp [frz]) (by simp [hg])

end Go.Proofs.YticmgmemnpcbbaaGreat.Vm

namespace Go.Proofs.YticmgmemnpcbbaaGreat.Vm
open Go Go.Proofs
set_option linter.unusedSimpArgs false
set_option linter.unusedVariables false

structure SP where
  lo : RT
  hi : RT
  nl : Bool
  nh : Bool
def SP.c (s : SP) : List V := [.bool s.lo.neg, .sl (iv s.lo.m), .sl (iv s.lo.d), .bool s.hi.neg, .sl (iv s.hi.m), .sl (iv s.hi.d), .bool s.nl, .bool s.nh]
/-- No list of a form is longer than that. -/
def RT.le (r : RT) (k : Nat) : Prop := r.m.length ≤ k ∧ r.d.length ≤ k
def SP.le (s : SP) (k : Nat) : Prop := s.lo.le k ∧ s.hi.le k
def spBad (s : SP) : Bool := match rd s.lo, rd s.hi with
  | some a, some b => (s.nl && decide (a.num.sign ≠ 0)) || (s.nh && decide (b.num.sign ≠ 0))
  | _, _ => true
def spFine (s : SP) : Bool := match rd s.lo, rd s.hi with
  | some a, some b => (s.nl || s.nh) || decide (cmpR a b ≤ 0)
  | _, _ => false
def spOk (s : SP) : Bool := !spBad s && spFine s
/-! ### Spans in the reference -/
end Go.Proofs.YticmgmemnpcbbaaGreat.Vm

namespace Go.Proofs.YticmgmemnpcbbaaGreat.Vm
open Go Go.Proofs
set_option linter.unusedSimpArgs false
set_option linter.unusedVariables false

theorem l03Add_ro (x y : Int) (hx : (lim x.natAbs).length ≤ 59) (hy : (lim y.natAbs).length ≤ 59) : RO Tryz.prog 264 [.agg (biC x), .agg (biC y)] (.agg (biC (x + y))) := by
  have hb := len_add hx hy
  refine ro_of2 Tryz.func264 rfl rfl (by rw [Tryz.ntmps264]; simp) fun bl => ?_
  rw [Tryz.ntmps264, Tryz.results264]
  refine AW_runA ?_
  rw [biC_def x, biC_def y]
  simp
  intro g hg0 hg g2 hg2 h2g hb2 g3 hg3 h32 h3g hb3
  refine AW_run ?_
  simp [h2g, Ne.symm h2g, h32, Ne.symm h32, h3g, Ne.symm h3g]
  refine ⟨fun hs => ?_, fun hs => ?_⟩
  · refine AW_mixedB mixedO (upd (upd bl g (some ⟨2, [[.bool (decide (x < 0)), .sl (iv (lim x.natAbs))]]⟩)) g2 (some ⟨2, [[.bool (decide (y < 0)), .sl (iv (lim y.natAbs))]]⟩)) (by simp [h32, h3g, hb3]) [0, 1, 2, 3, 4, 5, 6, 7] 1 (by kernel_rfl) ?_
    simp [h2g, Ne.symm h2g, h32, Ne.symm h32, h3g, Ne.symm h3g]
    refine hcQ_ro (l02Add_ro _ _ (by omega) (by omega)) ?_
    simp [h2g, Ne.symm h2g, h32, Ne.symm h32, h3g, Ne.symm h3g]
    refine hcQ_ro (l03Make_ro _ _ (by omega)) ?_
    simp [h2g, Ne.symm h2g, h32, Ne.symm h32, h3g, Ne.symm h3g]
    refine DAny_one (i := 8) (by kernel_rfl) rfl rfl ?_
    simp [h2g, Ne.symm h2g, h32, Ne.symm h32, h3g, Ne.symm h3g]
    refine ⟨by simp [h32, h3g, hb3], DAny_done (by kernel_rfl) ?_⟩
    rw [sg_add_same hs]
    simp [h2g, Ne.symm h2g, h32, Ne.symm h32, h3g, Ne.symm h3g]
    exact retRO [.agg (biC (x + y))] 1 (by simp [biC, h2g, Ne.symm h2g, h32, Ne.symm h32, h3g, Ne.symm h3g]) retAgg (by simp [hg, hb2, hb3])

  refine callP_ro (l02Cmp_ro _ _ (by omega) (by omega)) ?_
  simp [h2g, Ne.symm h2g, h32, Ne.symm h32, h3g, Ne.symm h3g, cmpN_ge]
  refine ⟨fun hle => ?_, fun hle => ?_⟩
  · refine AW_mixedB mixedO (upd (upd bl g (some ⟨2, [[.bool (decide (x < 0)), .sl (iv (lim x.natAbs))]]⟩)) g2 (some ⟨2, [[.bool (decide (y < 0)), .sl (iv (lim y.natAbs))]]⟩)) (by simp [h32, h3g, hb3]) [0, 1, 2, 3, 4, 5, 6, 7] 1 (by kernel_rfl) ?_
    simp [h2g, Ne.symm h2g, h32, Ne.symm h32, h3g, Ne.symm h3g]
    refine hcQ_ro (l02Sub_ro _ _ hle (by omega)) ?_
    simp [h2g, Ne.symm h2g, h32, Ne.symm h32, h3g, Ne.symm h3g]
    refine hcQ_ro (l03Make_ro _ _ (len_mono (Nat.sub_le _ _) (by omega))) ?_
    simp [h2g, Ne.symm h2g, h32, Ne.symm h32, h3g, Ne.symm h3g]
    refine DAny_one (i := 8) (by kernel_rfl) rfl rfl ?_
    simp [h2g, Ne.symm h2g, h32, Ne.symm h32, h3g, Ne.symm h3g]
    refine ⟨by simp [h32, h3g, hb3], DAny_done (by kernel_rfl) ?_⟩
    rw [sg_add_left hs hle]
    simp [h2g, Ne.symm h2g, h32, Ne.symm h32, h3g, Ne.symm h3g]
    exact retRO [.agg (biC (x + y))] 1 (by simp [biC, h2g, Ne.symm h2g, h32, Ne.symm h32, h3g, Ne.symm h3g]) retAgg (by simp [hg, hb2, hb3])

  · refine AW_mixedB mixedO (upd (upd bl g (some ⟨2, [[.bool (decide (x < 0)), .sl (iv (lim x.natAbs))]]⟩)) g2 (some ⟨2, [[.bool (decide (y < 0)), .sl (iv (lim y.natAbs))]]⟩)) (by simp [h32, h3g, hb3]) [0, 1, 2, 3, 4, 5, 6, 7] 1 (by kernel_rfl) ?_
    simp [h2g, Ne.symm h2g, h32, Ne.symm h32, h3g, Ne.symm h3g]
    refine hcQ_ro (l02Sub_ro _ _ (by omega) (by omega)) ?_
    simp [h2g, Ne.symm h2g, h32, Ne.symm h32, h3g, Ne.symm h3g]
    refine hcQ_ro (l03Make_ro _ _ (len_mono (Nat.sub_le _ _) (by omega))) ?_
    simp [h2g, Ne.symm h2g, h32, Ne.symm h32, h3g, Ne.symm h3g]
    refine DAny_one (i := 8) (by kernel_rfl) rfl rfl ?_
    simp [h2g, Ne.symm h2g, h32, Ne.symm h32, h3g, Ne.symm h3g]
    refine ⟨by simp [h32, h3g, hb3], DAny_done (by kernel_rfl) ?_⟩
    rw [sg_add_left (x := y) (y := x) (fun hh => hs ⟨hh.2, hh.1⟩) (by omega), Int.add_comm y x]
    simp [h2g, Ne.symm h2g, h32, Ne.symm h32, h3g, Ne.symm h3g]
    exact retRO [.agg (biC (x + y))] 1 (by simp [biC, h2g, Ne.symm h2g, h32, Ne.symm h32, h3g, Ne.symm h3g]) retAgg (by simp [hg, hb2, hb3])

/-- What the reference makes of a sign, a numerator and a denominator. -/
def lowQ (neg : Bool) (a b : Nat) : Option Rat := if b = 0 then none else fit (mkRat (sg neg a) b)
theorem frz_rat {bl bl0 : Int → Option Blk} {g : Int} {ns ms : List Int} {b : Bool} (h0 : 0 ≤ g ∨ ns = []) (hg : bl0 g = none) (hb : bl g = some ⟨1, iv ns⟩) : frz (dropB bl bl0) 2 (.agg [.bool b, .sl (iv ms), .lsl g 1 0 ns.length]) = some (.agg [.bool b, .sl (iv ms), .sl (iv ns)]) := by
  have h1 := frz_any h0 hg hb
  have h2 : frz (dropB bl bl0) 1 (.bool b) = some (.bool b) := by simp [frz]
  have h3 : frz (dropB bl bl0) 1 (.sl (iv ms)) = some (.sl (iv ms)) := by simp [frz]
  rw [frz_agg]
  simp only [List.mapM_cons, List.mapM_nil, h1, h2, h3]
  rfl
theorem rq_low (neg : Bool) (a b : Nat) (hb : b ≠ 0) : (rq (mkRat (sg neg a) b)).c = biC (sg neg (a / Nat.gcd a b)) ++ [.sl (iv (lim (b / Nat.gcd a b)))] := by
  have hg : 0 < Nat.gcd a b := Nat.gcd_pos_of_pos_right _ (by omega)
  rw [rq_mk _ hb, RT.c, sg_abs, biC_def, sg_abs]
  simp only [List.cons_append, List.nil_append]
  rw [sg_neg, sg_neg]
  have : (0 < a / Nat.gcd a b) ↔ 0 < a := by
    constructor
    · intro h; rcases Nat.eq_zero_or_pos a with h0 | h0
      · rw [h0] at h; simp at h
      · exact h0
    · intro h; exact Nat.div_pos (Nat.gcd_le_left _ h) hg
  rw [decide_eq_decide.2 this]
theorem l04Low_ro (neg : Bool) (a b : Nat) (ha : (lim a).length ≤ 60) (hb : (lim b).length ≤ 60) : RO Tryz.prog 265 [.bool neg, .sl (iv (lim a)), .sl (iv (lim b))] (.agg (ro (lowQ neg a b)).c) := by
  have hall : ∀ m, ((iv (lim m)).all fun c => c.length == 1 && c.all V.one) = true := fun m => by simp [iv]
  refine ro_of2 Tryz.func265 rfl rfl (by rw [Tryz.ntmps265]; simp) fun bl => ?_
  rw [Tryz.ntmps265, Tryz.results265]
  refine AW_runA ?_
  simp
  intro g hg0 hg
  refine AW_runA ?_
  simp
  refine callP_ro (l02Trim_ro (lim a) (lim_dig a) (by omega)) ?_
  rw [val_lim]
  simp
  refine AW_runA ?_
  simp
  refine callP_ro (l02Trim_ro (lim b) (lim_dig b) (by omega)) ?_
  rw [val_lim]
  simp
  refine AW_runA ?_
  simp
  refine ⟨fun h => ?_, fun h => ?_⟩
  · have hb0 : b = 0 := by simpa [lim_nil] using h
    exact retRO [.agg [.bool false, .nils, .nils]] 1 (by simp) (by simp [frz, lowQ, hb0, ro, rz, RT.c, V.cl, iv]) (by simp [hg])
  have hb0 : b ≠ 0 := fun e => h (by rw [e, lim_zero])
  have hg1 := Nat.gcd_pos_of_pos_right a (show 0 < b by omega)
  refine AW_mid (fun _ : Unit => [(0, .bool neg), (6, .loc g 3 0 0), (7, .sl (iv (lim (a / Nat.gcd a b)))), (8, .sl (iv (lim (b / Nat.gcd a b))))]) (fun _ => upd bl g (some ⟨3, [[.bool false, .nils, .nils]]⟩)) (fun _ => True) 55 ?_ ?_
  · refine AW_run ?_
    simp
    refine callP_ro (l04One_ro _) ?_
    simp
    refine ⟨fun h1 => ?_, fun h1 => ?_⟩
    · refine callP_ro (l02Gcd_ro _ _ (by omega) (by omega)) ?_
      simp
      refine callP_ro (l04One_ro _) ?_
      simp
      refine ⟨fun h2 => ?_, fun h2 => ?_⟩
      · have hgl := gcd_len ha hb
        refine callP_ro (l02Div_ro a (Nat.gcd a b) hg1 (by omega) (by omega)) ?_
        simp
        refine callP_ro (l02Div_ro b (Nat.gcd a b) hg1 (by omega) (by omega)) ?_
        simp [midQ_normal]
        exact ⟨rfl, by simp, Sub.refl _⟩
      · simp [midQ_normal]
        exact ⟨rfl, by simp [h2], Sub.refl _⟩
    · have h2 : Nat.gcd a b = 1 := by rw [h1]; exact Nat.gcd_one_right a
      simp [midQ_normal]
      exact ⟨rfl, by simp [h2], Sub.refl _⟩
  intro _ _
  have e2 := rq_low neg a b hb0
  have hx : (lim (a / Nat.gcd a b)).length ≤ 60 := len_mono (Nat.div_le_self _ _) ha
  have hy : (lim (b / Nat.gcd a b)).length ≤ 60 := len_mono (Nat.div_le_self _ _) hb
  have hr : ro (lowQ neg a b) = if (lim (a / Nat.gcd a b)).length ≤ 24 ∧ (lim (b / Nat.gcd a b)).length ≤ 24 then rq (mkRat (sg neg a) b) else rz := by
    have e3 := rq_mk (sg neg a) hb0
    have e4 : fits (mkRat (sg neg a) b) ↔ (lim (a / Nat.gcd a b)).length ≤ 24 ∧ (lim (b / Nat.gcd a b)).length ≤ 24 := by
      have e5 := congrArg RT.m e3
      have e6 := congrArg RT.d e3
      simp only [rq, sg_abs] at e5 e6
      unfold fits
      rw [e5, e6]
    unfold lowQ fit
    rw [if_neg hb0]
    by_cases hf : fits (mkRat (sg neg a) b)
    · rw [if_pos hf, if_pos (e4.1 hf)]; rfl
    · rw [if_neg hf, if_neg (fun h => hf (e4.2 h))]; rfl
  obtain ⟨x, ex⟩ : ∃ x, a / Nat.gcd a b = x := ⟨_, rfl⟩
  obtain ⟨y, ey⟩ : ∃ y, b / Nat.gcd a b = y := ⟨_, rfl⟩
  rw [ex, ey] at hr e2
  rw [ex] at hx
  rw [ey] at hy
  rw [ex, ey, hr]
  refine AW_run ?_
  simp
  refine AW_way [(0, .bool neg), (6, .loc g 3 0 0), (7, .sl (iv (lim x))), (8, .sl (iv (lim y)))] _ _ 46 (.bool (!decide ((lim x).length ≤ 24 ∧ (lim y).length ≤ 24))) (upd bl g (some ⟨3, [[.bool false, .nils, .nils]]⟩)) ⟨rfl, by simp, Sub.refl _⟩ rfl ?_ ?_
  · simp
    refine ⟨fun h => ?_, fun h => ?_⟩
    · omega
    · rw [Bool.eq_iff_iff]
      simp
      omega
  by_cases hc : (lim x).length ≤ 24 ∧ (lim y).length ≤ 24
  · simp only [hc, and_self, decide_true, Bool.not_true, if_true]
    simp
    refine callP_ro (l03Make_ro neg x (by omega)) ?_
    simp
    intro g1 hg1 h1g hb1
    simp [h1g, Ne.symm h1g, appV, elsV, Int.not_lt.2 hg1, hall]
    refine ⟨by omega, fun g2 hg2 hb2 => ?_⟩
    have h2g : g2 ≠ g := by grind
    have hb2' : bl g2 = none := by grind
    have hnn : 0 ≤ g2 ∨ lim y = [] := hg2.imp id (fun h => by simpa [iv] using h)
    simp [h1g, Ne.symm h1g, h2g, Ne.symm h2g, biC_def, sg_abs]
    refine retRO [.agg [.bool (decide (sg neg x < 0)), .sl (iv (lim x)), .lsl g2 1 0 (lim y).length]] 2 (by simp [h1g, Ne.symm h1g, h2g, Ne.symm h2g]) ?_ (by simp [hg, hb1, hb2', h1g, h2g])
    rw [e2, biC_def, sg_abs]
    exact frz_rat hnn hb2' (by simp [h2g])
  · simp only [hc, decide_false, Bool.not_false, if_false]
    simp
    exact retRO [.agg [.bool false, .nils, .nils]] 1 (by simp) (by simp [frz, rz, RT.c, V.cl, iv]) (by simp [hg])

/-! ### Numerators and denominators of what may be none -/
def nm (x : Option Rat) : Int := match x with | some q => q.num | none => 0
def dn (x : Option Rat) : Nat := match x with | some q => q.den | none => 0
theorem ro_c (x : Option Rat) : (ro x).c = [.bool (decide (nm x < 0)), .sl (iv (lim (nm x).natAbs)), .sl (iv (lim (dn x)))] := by
  cases x
  · show rz.c = _
    rw [show nm none = 0 from rfl, show dn none = 0 from rfl, Int.natAbs_zero, lim_zero]; rfl
  · rfl
theorem okQ_len {x : Option Rat} (h : okQ x) : (lim (nm x).natAbs).length ≤ 24 ∧ (lim (dn x)).length ≤ 24 := by
  cases x with
  | none => rw [show nm none = 0 from rfl, show dn none = 0 from rfl, Int.natAbs_zero, lim_zero]; simp
  | some q => exact h q rfl
theorem okQ_neg {x : Option Rat} (h : okQ x) : okQ (x.map (- ·)) := by
  intro q hq
  cases x with
  | none => cases hq
  | some a =>
    cases hq
    have := h a rfl
    unfold fits at this ⊢
    rw [show (-a).num = -a.num from rfl, show (-a).den = a.den from rfl, Int.natAbs_neg]; exact this
theorem nm_neg (x : Option Rat) : nm (x.map (- ·)) = - nm x := by cases x with | none => rfl | some q => rfl
theorem dn_neg (x : Option Rat) : dn (x.map (- ·)) = dn x := by cases x with | none => rfl | some q => rfl

theorem l04Neg_ro (x : Option Rat) (hx : okQ x) : RO Tryz.prog 202 [.agg (ro x).c] (.agg (ro (x.map (- ·))).c) := by
  obtain ⟨hm, hd⟩ := okQ_len hx
  have hall : ∀ m, ((iv (lim m)).all fun c => c.length == 1 && c.all V.one) = true := fun m => by simp [iv]
  refine ro_of2 Tryz.func202 rfl rfl (by rw [Tryz.ntmps202]; simp) fun bl => ?_
  rw [Tryz.ntmps202, Tryz.results202]
  refine AW_runA ?_
  rw [ro_c x]
  simp
  intro g hg0 hg g2 hg2 h2g hb2
  refine AW_run ?_
  simp
  refine AW_mixedB mixedO (upd bl g (some ⟨3, [[.bool (decide (nm x < 0)), .sl (iv (lim (nm x).natAbs)), .sl (iv (lim (dn x)))]]⟩)) (by simp [h2g, hb2]) [0, 1, 2, 3, 4, 5, 6, 7, 9, 10] 4 (by kernel_rfl) ?_
  simp [h2g, Ne.symm h2g]
  refine hcQ_ro (l03Make_ro _ _ (by omega)) ?_
  rw [sg_opp]
  simp [h2g, Ne.symm h2g]
  refine DAny_one (i := 8) (by kernel_rfl) rfl rfl ?_
  simp [h2g, Ne.symm h2g]
  intro g3 hg3 h32 h3g hb3
  refine ⟨by simp [h2g, Ne.symm h2g, hb2, h3g, h32, hb3], DAny_one (i := 11) (by kernel_rfl) rfl rfl ?_⟩
  simp [h2g, Ne.symm h2g, h3g, Ne.symm h3g, h32, Ne.symm h32, appV, elsV, Int.not_lt.2 hg3, hall]
  refine ⟨by omega, fun g4 hg4 hb4 => ?_⟩
  have h4g : g4 ≠ g := by grind
  have h42 : g4 ≠ g2 := by grind
  have hb4' : bl g4 = none := by grind
  have hnn : 0 ≤ g4 ∨ lim (dn x) = [] := hg4.imp id (fun h => by simpa [iv] using h)
  refine ⟨by simp [h2g, Ne.symm h2g, hb2, h3g, h32, hb3, h4g, h42, hb4'], DAny_one (i := 12) (by kernel_rfl) rfl rfl ?_⟩
  simp [h2g, Ne.symm h2g, h3g, Ne.symm h3g, h32, Ne.symm h32, h4g, Ne.symm h4g, h42, Ne.symm h42, biC_def]
  refine ⟨by simp [h2g, Ne.symm h2g, hb2, h3g, h32, hb3, h4g, h42, hb4'], DAny_one (i := 13) (by kernel_rfl) rfl rfl ?_⟩
  simp [h2g, Ne.symm h2g, h3g, Ne.symm h3g, h32, Ne.symm h32, h4g, Ne.symm h4g, h42, Ne.symm h42]
  refine ⟨by simp [h2g, Ne.symm h2g, hb2, h3g, h32, hb3, h4g, h42, hb4'], DAny_done (by kernel_rfl) ?_⟩
  simp
  refine retRO [.agg [.bool (decide (-nm x < 0)), .sl (iv (lim (nm x).natAbs)), .lsl g4 1 0 (lim (dn x)).length]] 2 (by simp [h2g, Ne.symm h2g, h4g, Ne.symm h4g, h42, Ne.symm h42]) ?_ (by simp [hg, hb2, hb3, hb4', h2g, h4g, h42])
  rw [ro_c, nm_neg, dn_neg, Int.natAbs_neg]
  exact frz_rat hnn hb4' (by simp [h4g, h42])

theorem l04Mul_ro (x y : Option Rat) (hx : okQ x) (hy : okQ y) : RO Tryz.prog 279 [.agg (ro x).c, .agg (ro y).c] (.agg (ro (op2 (· * ·) x y)).c) := by
  obtain ⟨hm, hd⟩ := okQ_len hx
  obtain ⟨hm2, hd2⟩ := okQ_len hy
  have n1 := len_mul hm hm2
  have n2 := len_mul hd hd2
  have e : lowQ (decide (nm x < 0) != decide (nm y < 0)) ((nm x).natAbs * (nm y).natAbs) (dn x * dn y) = op2 (· * ·) x y := by
    unfold lowQ op2
    rw [sg_mul]
    cases x with
    | none => simp [dn]
    | some a =>
      cases y with
      | none => simp [dn]
      | some b =>
        rw [if_neg (show ¬ dn (some a) * dn (some b) = 0 from Nat.mul_ne_zero a.den_nz b.den_nz)]
        simp only [nm, dn]
        rw [← Rat.mul_def']
  refine ro_of2 Tryz.func279 rfl rfl (by rw [Tryz.ntmps279]; simp) fun bl => ?_
  rw [Tryz.ntmps279, Tryz.results279]
  refine AW_runA ?_
  rw [ro_c x, ro_c y]
  simp
  intro g hg0 hg g2 hg2 h2g hb2 g3 hg3 h32 h3g hb3
  refine AW_run ?_
  simp
  refine AW_mixedB mixedO (upd (upd bl g (some ⟨3, [[.bool (decide (nm x < 0)), .sl (iv (lim (nm x).natAbs)), .sl (iv (lim (dn x)))]]⟩)) g2 (some ⟨3, [[.bool (decide (nm y < 0)), .sl (iv (lim (nm y).natAbs)), .sl (iv (lim (dn y)))]]⟩)) (by simp [h32, h3g, hb3]) [0, 1, 2, 3, 4, 5, 6, 7, 8, 9, 10, 11, 12, 13, 14, 15, 16, 17, 18, 19] 1 (by kernel_rfl) ?_
  simp [h2g, Ne.symm h2g, h32, Ne.symm h32, h3g, Ne.symm h3g]
  refine hcQ_ro (l02Mul_ro _ _ (by omega) (by omega)) ?_
  simp [h2g, Ne.symm h2g, h32, Ne.symm h32, h3g, Ne.symm h3g]
  refine hcQ_ro (l02Mul_ro _ _ (by omega) (by omega)) ?_
  simp [h2g, Ne.symm h2g, h32, Ne.symm h32, h3g, Ne.symm h3g]
  refine hcQ_ro (l04Low_ro _ _ _ (by omega) (by omega)) ?_
  rw [e]
  simp [h2g, Ne.symm h2g, h32, Ne.symm h32, h3g, Ne.symm h3g]
  refine DAny_one (i := 20) (by kernel_rfl) rfl rfl ?_
  rw [ro_c (op2 _ x y)]
  simp [h2g, Ne.symm h2g, h32, Ne.symm h32, h3g, Ne.symm h3g]
  refine ⟨by simp [h32, h3g, hb3], DAny_done (by kernel_rfl) ?_⟩
  simp [h2g, Ne.symm h2g, h32, Ne.symm h32, h3g, Ne.symm h3g]
  exact retRO [.agg (ro (op2 (· * ·) x y)).c] 1 (by rw [ro_c (op2 _ x y)]; simp [h2g, Ne.symm h2g, h32, Ne.symm h32, h3g, Ne.symm h3g]) (by rw [ro_c (op2 _ x y)]; simp [frz, V.cl]) (by simp [hg, hb2, hb3])

theorem l04Add_ro (x y : Option Rat) (hx : okQ x) (hy : okQ y) : RO Tryz.prog 214 [.agg (ro x).c, .agg (ro y).c] (.agg (ro (op2 (· + ·) x y)).c) := by
  obtain ⟨hm, hd⟩ := okQ_len hx
  obtain ⟨hm2, hd2⟩ := okQ_len hy
  have n1 := len_mul hm hd2
  have n2 := len_mul hm2 hd
  have n3 := len_mul hd hd2
  have e0 : ∀ (a : Int) (b : Nat), sg (decide (a < 0)) (a.natAbs * b) = a * b := fun a b => by
    have := sg_mul a b
    have h0 : decide (((b : Nat) : Int) < 0) = false := decide_eq_false (by omega)
    rw [h0, Bool.bne_false, Int.natAbs_natCast] at this
    exact this
  have e : ∀ n : Int, n = nm x * dn y + nm y * dn x → lowQ (decide (n < 0)) n.natAbs (dn x * dn y) = op2 (· + ·) x y := fun n hn => by
    unfold lowQ op2
    rw [sg_self, hn]
    cases x with
    | none => simp [dn]
    | some a =>
      cases y with
      | none => simp [dn]
      | some b =>
        rw [if_neg (show ¬ dn (some a) * dn (some b) = 0 from Nat.mul_ne_zero a.den_nz b.den_nz)]
        simp only [nm, dn]
        rw [← Rat.add_def']
  have o1 := l04One_ro (dn x)
  have o2 := l04One_ro (dn y)
  refine ro_of2 Tryz.func214 rfl rfl (by rw [Tryz.ntmps214]; simp) fun bl => ?_
  rw [Tryz.ntmps214, Tryz.results214]
  refine AW_runA ?_
  rw [ro_c x, ro_c y]
  simp
  intro g hg0 hg g2 hg2 h2g hb2 g3 hg3 h32 h3g hb3
  refine AW_run ?_
  simp
  refine AW_way [(2, .loc g 3 0 0), (3, .loc g2 3 0 0), (4, .loc g3 3 0 0)] _ _ 16 (.bool (decide (dn x = 1) && decide (dn y = 1))) (upd (upd (upd bl g (some ⟨3, [[.bool (decide (nm x < 0)), .sl (iv (lim (nm x).natAbs)), .sl (iv (lim (dn x)))]]⟩)) g2 (some ⟨3, [[.bool (decide (nm y < 0)), .sl (iv (lim (nm y).natAbs)), .sl (iv (lim (dn y)))]]⟩)) g3 (some ⟨3, [[.bool false, .nils, .nils]]⟩)) ⟨rfl, by simp, Sub.refl _⟩ rfl ?_ ?_
  · simp [h2g, Ne.symm h2g, h32, Ne.symm h32, h3g, Ne.symm h3g]
    refine callP_ro o1 ?_
    simp [h2g, Ne.symm h2g, h32, Ne.symm h32, h3g, Ne.symm h3g]
    refine ⟨fun h => ?_, fun h => ?_⟩
    · refine callP_ro o2 ?_
      simp [h]
    · simp [h]
  have w : ro (op2 (· + ·) x y) = ro (op2 (· + ·) x y) := rfl
  by_cases hone : dn x = 1 ∧ dn y = 1
  · have e1 := e (nm x + nm y) (by rw [hone.1, hone.2]; simp)
    rw [hone.1, hone.2] at e1
    have l1 : (lim (nm x + nm y).natAbs).length ≤ 25 := len_mono (Int.natAbs_add_le _ _) (len_add hm hm2)
    simp [hone.1, hone.2, h2g, Ne.symm h2g, h32, Ne.symm h32, h3g, Ne.symm h3g]
    refine callP_ro (l03Add_ro (nm x) (nm y) (by omega) (by omega)) ?_
    simp [h2g, Ne.symm h2g, h32, Ne.symm h32, h3g, Ne.symm h3g]
    intro g4 hg4
    intros
    have h4g : ¬ g4 = g := by assumption
    have h42 : ¬ g4 = g2 := by assumption
    have h43 : ¬ g4 = g3 := by assumption
    have hb4 : bl g4 = none := by assumption
    simp [h2g, Ne.symm h2g, h32, Ne.symm h32, h3g, Ne.symm h3g, h4g, Ne.symm h4g, h42, Ne.symm h42, h43, Ne.symm h43, biC_def]
    intro g5 hg5
    intros
    have h5g : ¬ g5 = g := by assumption
    have h52 : ¬ g5 = g2 := by assumption
    have h53 : ¬ g5 = g3 := by assumption
    have h54 : ¬ g5 = g4 := by assumption
    have hb5 : bl g5 = none := by assumption
    refine callP_gro 1 (upd (upd (upd (upd bl g (some ⟨3, [[.bool (decide (nm x < 0)), .sl (iv (lim (nm x).natAbs)), .sl (iv (lim 1))]]⟩)) g2 (some ⟨3, [[.bool (decide (nm y < 0)), .sl (iv (lim (nm y).natAbs)), .sl (iv (lim 1))]]⟩)) g3 (some ⟨3, [[.bool false, .nils, .nils]]⟩)) g4 (some ⟨2, [[.bool (decide (nm x + nm y < 0)), .sl (iv (lim (nm x + nm y).natAbs))]]⟩)) [.bool (decide (nm x + nm y < 0)), .sl (iv (lim (nm x + nm y).natAbs)), .sl (iv (lim 1))] (by simp [h2g, Ne.symm h2g, h32, Ne.symm h32, h3g, Ne.symm h3g, h4g, Ne.symm h4g, h42, Ne.symm h42, h43, Ne.symm h43, h5g, Ne.symm h5g, h52, Ne.symm h52, h53, Ne.symm h53, h54, Ne.symm h54, hb5]) (by simp [frz, dropB, V.cl, lim1, iv, Int.not_lt.2 hg5, h2g, Ne.symm h2g, h32, Ne.symm h32, h3g, Ne.symm h3g, h4g, Ne.symm h4g, h42, Ne.symm h42, h43, Ne.symm h43, h5g, Ne.symm h5g, h52, Ne.symm h52, h53, Ne.symm h53, h54, Ne.symm h54, hb5]) (l04Low_ro _ _ 1 (by omega) (by rw [lim1]; simp)) ?_
    rw [show lowQ (decide (nm x + nm y < 0)) (nm x + nm y).natAbs 1 = op2 (· + ·) x y from e1, ro_c (op2 _ x y)]
    simp [h2g, Ne.symm h2g, h32, Ne.symm h32, h3g, Ne.symm h3g, h4g, Ne.symm h4g, h42, Ne.symm h42, h43, Ne.symm h43, h5g, Ne.symm h5g, h52, Ne.symm h52, h53, Ne.symm h53, h54, Ne.symm h54]
    exact retRO [.agg (ro (op2 (· + ·) x y)).c] 1 (by rw [ro_c (op2 _ x y)]; simp [h2g, Ne.symm h2g, h32, Ne.symm h32, h3g, Ne.symm h3g, h4g, Ne.symm h4g, h42, Ne.symm h42, h43, Ne.symm h43, h5g, Ne.symm h5g, h52, Ne.symm h52, h53, Ne.symm h53, h54, Ne.symm h54]) (by rw [ro_c (op2 _ x y)]; simp [frz, V.cl]) (by simp [hg, hb2, hb3, hb4, hb5])
  · have hone2 : (decide (dn x = 1) && decide (dn y = 1)) = false := by
      rw [Bool.eq_false_iff]; simpa using hone
    rw [hone2]
    simp
    refine AW_mixedB mixedO (upd (upd (upd bl g (some ⟨3, [[.bool (decide (nm x < 0)), .sl (iv (lim (nm x).natAbs)), .sl (iv (lim (dn x)))]]⟩)) g2 (some ⟨3, [[.bool (decide (nm y < 0)), .sl (iv (lim (nm y).natAbs)), .sl (iv (lim (dn y)))]]⟩)) g3 (some ⟨3, [[.bool false, .nils, .nils]]⟩)) (Sub.refl _) [0, 1, 2, 3, 4, 5, 6, 7, 8, 9] 2 (by kernel_rfl) ?_
    simp [h2g, Ne.symm h2g, h32, Ne.symm h32, h3g, Ne.symm h3g]
    refine hcQ_ro (l02Mul_ro _ _ (by omega) (by omega)) ?_
    simp [h2g, Ne.symm h2g, h32, Ne.symm h32, h3g, Ne.symm h3g]
    refine hcQ_ro (l03Make_ro _ _ (by omega)) ?_
    rw [e0]
    simp [h2g, Ne.symm h2g, h32, Ne.symm h32, h3g, Ne.symm h3g]
    refine DAny_one (i := 10) (by kernel_rfl) rfl rfl ?_
    simp [h2g, Ne.symm h2g, h32, Ne.symm h32, h3g, Ne.symm h3g]
    intro g4 hg4
    intros
    have h4g : ¬ g4 = g := by assumption
    have h42 : ¬ g4 = g2 := by assumption
    have h43 : ¬ g4 = g3 := by assumption
    have hb4 : bl g4 = none := by assumption
    refine ⟨by simp [h2g, Ne.symm h2g, h32, Ne.symm h32, h3g, Ne.symm h3g, h4g, Ne.symm h4g, h42, Ne.symm h42, h43, Ne.symm h43, hb2, hb3, hb4], DAny_one (i := 11) (by kernel_rfl) rfl rfl ?_⟩
    simp [h2g, Ne.symm h2g, h32, Ne.symm h32, h3g, Ne.symm h3g, h4g, Ne.symm h4g, h42, Ne.symm h42, h43, Ne.symm h43, biC_def]
    refine ⟨by simp [h2g, Ne.symm h2g, h32, Ne.symm h32, h3g, Ne.symm h3g, h4g, Ne.symm h4g, h42, Ne.symm h42, h43, Ne.symm h43, hb2, hb3, hb4], DAny_done (by kernel_rfl) ?_⟩
    simp [h2g, Ne.symm h2g, h32, Ne.symm h32, h3g, Ne.symm h3g, h4g, Ne.symm h4g, h42, Ne.symm h42, h43, Ne.symm h43]
    refine AW_run ?_
    refine AW_mixedB mixedO (upd (upd (upd (upd bl g (some ⟨3, [[.bool (decide (nm x < 0)), .sl (iv (lim (nm x).natAbs)), .sl (iv (lim (dn x)))]]⟩)) g2 (some ⟨3, [[.bool (decide (nm y < 0)), .sl (iv (lim (nm y).natAbs)), .sl (iv (lim (dn y)))]]⟩)) g3 (some ⟨3, [[.bool false, .nils, .nils]]⟩)) g4 (some ⟨2, [[.bool (decide (nm x * dn y < 0)), .sl (iv (lim (nm x * dn y).natAbs))]]⟩)) (Sub.refl _) [0, 1, 2, 3, 4, 5, 6, 7, 8, 9] 2 (by kernel_rfl) ?_
    simp [h2g, Ne.symm h2g, h32, Ne.symm h32, h3g, Ne.symm h3g, h4g, Ne.symm h4g, h42, Ne.symm h42, h43, Ne.symm h43]
    refine hcQ_ro (l02Mul_ro _ _ (by omega) (by omega)) ?_
    simp [h2g, Ne.symm h2g, h32, Ne.symm h32, h3g, Ne.symm h3g, h4g, Ne.symm h4g, h42, Ne.symm h42, h43, Ne.symm h43]
    refine hcQ_ro (l03Make_ro _ _ (by omega)) ?_
    rw [e0]
    simp [h2g, Ne.symm h2g, h32, Ne.symm h32, h3g, Ne.symm h3g, h4g, Ne.symm h4g, h42, Ne.symm h42, h43, Ne.symm h43]
    refine DAny_one (i := 10) (by kernel_rfl) rfl rfl ?_
    simp [h2g, Ne.symm h2g, h32, Ne.symm h32, h3g, Ne.symm h3g, h4g, Ne.symm h4g, h42, Ne.symm h42, h43, Ne.symm h43]
    intro g5 hg5
    intros
    have h5g : ¬ g5 = g := by assumption
    have h52 : ¬ g5 = g2 := by assumption
    have h53 : ¬ g5 = g3 := by assumption
    have h54 : ¬ g5 = g4 := by assumption
    have hb5 : bl g5 = none := by assumption
    refine ⟨by simp [h2g, Ne.symm h2g, h32, Ne.symm h32, h3g, Ne.symm h3g, h4g, Ne.symm h4g, h42, Ne.symm h42, h43, Ne.symm h43, h5g, Ne.symm h5g, h52, Ne.symm h52, h53, Ne.symm h53, h54, Ne.symm h54, hb2, hb3, hb4, hb5], DAny_one (i := 11) (by kernel_rfl) rfl rfl ?_⟩
    simp [h2g, Ne.symm h2g, h32, Ne.symm h32, h3g, Ne.symm h3g, h4g, Ne.symm h4g, h42, Ne.symm h42, h43, Ne.symm h43, h5g, Ne.symm h5g, h52, Ne.symm h52, h53, Ne.symm h53, h54, Ne.symm h54, biC_def]
    refine ⟨by simp [h2g, Ne.symm h2g, h32, Ne.symm h32, h3g, Ne.symm h3g, h4g, Ne.symm h4g, h42, Ne.symm h42, h43, Ne.symm h43, h5g, Ne.symm h5g, h52, Ne.symm h52, h53, Ne.symm h53, h54, Ne.symm h54, hb2, hb3, hb4, hb5], DAny_done (by kernel_rfl) ?_⟩
    simp [h2g, Ne.symm h2g, h32, Ne.symm h32, h3g, Ne.symm h3g, h4g, Ne.symm h4g, h42, Ne.symm h42, h43, Ne.symm h43, h5g, Ne.symm h5g, h52, Ne.symm h52, h53, Ne.symm h53, h54, Ne.symm h54]
    refine callP_ro (l03Add_ro (nm x * dn y) (nm y * dn x) (by rw [Int.natAbs_mul, Int.natAbs_natCast]; omega) (by rw [Int.natAbs_mul, Int.natAbs_natCast]; omega)) ?_
    simp [h2g, Ne.symm h2g, h32, Ne.symm h32, h3g, Ne.symm h3g, h4g, Ne.symm h4g, h42, Ne.symm h42, h43, Ne.symm h43, h5g, Ne.symm h5g, h52, Ne.symm h52, h53, Ne.symm h53, h54, Ne.symm h54, biC_def]
    intro g6 hg6
    intros
    have h6g : ¬ g6 = g := by assumption
    have h62 : ¬ g6 = g2 := by assumption
    have h63 : ¬ g6 = g3 := by assumption
    have h64 : ¬ g6 = g4 := by assumption
    have h65 : ¬ g6 = g5 := by assumption
    have hb6 : bl g6 = none := by assumption
    try simp [h2g, Ne.symm h2g, h32, Ne.symm h32, h3g, Ne.symm h3g, h4g, Ne.symm h4g, h42, Ne.symm h42, h43, Ne.symm h43, h5g, Ne.symm h5g, h52, Ne.symm h52, h53, Ne.symm h53, h54, Ne.symm h54, h6g, Ne.symm h6g, h62, Ne.symm h62, h63, Ne.symm h63, h64, Ne.symm h64, h65, Ne.symm h65]
    refine AW_run ?_
    refine AW_mixedB mixedO (upd (upd (upd (upd (upd bl g (some ⟨3, [[.bool (decide (nm x < 0)), .sl (iv (lim (nm x).natAbs)), .sl (iv (lim (dn x)))]]⟩)) g2 (some ⟨3, [[.bool (decide (nm y < 0)), .sl (iv (lim (nm y).natAbs)), .sl (iv (lim (dn y)))]]⟩)) g4 (some ⟨2, [[.bool (decide (nm x * dn y < 0)), .sl (iv (lim (nm x * dn y).natAbs))]]⟩)) g5 (some ⟨2, [[.bool (decide (nm y * dn x < 0)), .sl (iv (lim (nm y * dn x).natAbs))]]⟩)) g6 (some ⟨2, [[.bool (decide (nm x * dn y + nm y * dn x < 0)), .sl (iv (lim (nm x * dn y + nm y * dn x).natAbs))]]⟩)) (by intro z b hz; simp only [upd_apply] at hz ⊢; grind) [0, 1, 2, 3, 4, 5, 6, 7, 8, 9] 1 (by kernel_rfl) ?_
    simp [h2g, Ne.symm h2g, h32, Ne.symm h32, h3g, Ne.symm h3g, h4g, Ne.symm h4g, h42, Ne.symm h42, h43, Ne.symm h43, h5g, Ne.symm h5g, h52, Ne.symm h52, h53, Ne.symm h53, h54, Ne.symm h54, h6g, Ne.symm h6g, h62, Ne.symm h62, h63, Ne.symm h63, h64, Ne.symm h64, h65, Ne.symm h65]
    refine hcQ_ro (l02Mul_ro _ _ (by omega) (by omega)) ?_
    simp [h2g, Ne.symm h2g, h32, Ne.symm h32, h3g, Ne.symm h3g, h4g, Ne.symm h4g, h42, Ne.symm h42, h43, Ne.symm h43, h5g, Ne.symm h5g, h52, Ne.symm h52, h53, Ne.symm h53, h54, Ne.symm h54, h6g, Ne.symm h6g, h62, Ne.symm h62, h63, Ne.symm h63, h64, Ne.symm h64, h65, Ne.symm h65]
    refine hcQ_ro (l04Low_ro _ _ _ ?_ (by omega)) ?_
    · exact len_mono (Int.natAbs_add_le _ _) (by rw [Int.natAbs_mul, Int.natAbs_mul, Int.natAbs_natCast, Int.natAbs_natCast]; have := len_add n1 n2; omega)
    rw [e _ rfl, ro_c (op2 _ x y)]
    simp [h2g, Ne.symm h2g, h32, Ne.symm h32, h3g, Ne.symm h3g, h4g, Ne.symm h4g, h42, Ne.symm h42, h43, Ne.symm h43, h5g, Ne.symm h5g, h52, Ne.symm h52, h53, Ne.symm h53, h54, Ne.symm h54, h6g, Ne.symm h6g, h62, Ne.symm h62, h63, Ne.symm h63, h64, Ne.symm h64, h65, Ne.symm h65]
    refine DAny_one (i := 10) (by kernel_rfl) rfl rfl ?_
    simp [h2g, Ne.symm h2g, h32, Ne.symm h32, h3g, Ne.symm h3g, h4g, Ne.symm h4g, h42, Ne.symm h42, h43, Ne.symm h43, h5g, Ne.symm h5g, h52, Ne.symm h52, h53, Ne.symm h53, h54, Ne.symm h54, h6g, Ne.symm h6g, h62, Ne.symm h62, h63, Ne.symm h63, h64, Ne.symm h64, h65, Ne.symm h65]
    refine ⟨by intro z b hz; simp only [upd_apply] at hz ⊢; grind, DAny_done (by kernel_rfl) ?_⟩
    simp [h2g, Ne.symm h2g, h32, Ne.symm h32, h3g, Ne.symm h3g, h4g, Ne.symm h4g, h42, Ne.symm h42, h43, Ne.symm h43, h5g, Ne.symm h5g, h52, Ne.symm h52, h53, Ne.symm h53, h54, Ne.symm h54, h6g, Ne.symm h6g, h62, Ne.symm h62, h63, Ne.symm h63, h64, Ne.symm h64, h65, Ne.symm h65]
    exact retRO [.agg (ro (op2 (· + ·) x y)).c] 1 (by rw [ro_c (op2 _ x y)]; simp [h2g, Ne.symm h2g, h32, Ne.symm h32, h3g, Ne.symm h3g, h4g, Ne.symm h4g, h42, Ne.symm h42, h43, Ne.symm h43, h5g, Ne.symm h5g, h52, Ne.symm h52, h53, Ne.symm h53, h54, Ne.symm h54, h6g, Ne.symm h6g, h62, Ne.symm h62, h63, Ne.symm h63, h64, Ne.symm h64, h65, Ne.symm h65]) (by rw [ro_c (op2 _ x y)]; simp [frz, V.cl]) (by simp [hg, hb2, hb3, hb4, hb5, hb6])

end Go.Proofs.YticmgmemnpcbbaaGreat.Vm

namespace Go.Proofs.YticmgmemnpcbbaaGreat.Vm
open Go Go.Proofs
set_option linter.unusedSimpArgs false
set_option linter.unusedVariables false

theorem u64_in2 {n : Int} (h0 : 0 ≤ n) (h1 : n ≤ 18446744073709551615) : IntKind.u64.wrap n = n := IntWalk.u64_in _ ⟨by omega, by omega⟩
theorem integer_ro (n : Int) (hn : -9223372036854775808 ≤ n ∧ n ≤ 9223372036854775807) : RO Tryz.prog 160 [.int .i64 n] (.agg (biC n)) := by
  refine ro_of2 Tryz.func160 rfl rfl (by rw [Tryz.ntmps160]; simp) fun bl => ?_
  rw [Tryz.ntmps160, Tryz.results160]
  refine AW_run ?_
  simp
  intro g hg0 hg
  refine ⟨fun h => ?_, fun h => ?_⟩
  · have e : IntKind.u64.wrap (IntKind.u64.wrap (IntKind.i64.wrap (-IntKind.i64.wrap (n + 1))) + 1) = (n.natAbs : Int) := by
      have w1 : IntKind.i64.wrap (n + 1) = n + 1 := i64_in (by omega) (by omega)
      have w2 : IntKind.i64.wrap (-(n + 1)) = -(n + 1) := i64_in (by omega) (by omega)
      have w3 : IntKind.u64.wrap (-(n + 1)) = -(n + 1) := u64_in2 (by omega) (by omega)
      have w4 : IntKind.u64.wrap (-(n + 1) + 1) = -(n + 1) + 1 := u64_in2 (by omega) (by omega)
      rw [w1, w2, w3, w4]
      omega
    rw [e]
    refine callP_ro (limbsOf_ro n.natAbs (by omega)) ?_
    simp
    refine callP_ro (signed_ro true n.natAbs) ?_
    have e2 : sg true n.natAbs = n := by unfold sg; simp; omega
    rw [e2, biC_def]
    simp
    exact retRO [.agg (biC n)] 1 (by simp [biC_def]) (by simp [frz, biC_def, V.cl]) (by simp [hg])
  · have e : IntKind.u64.wrap n = (n.natAbs : Int) := by rw [u64_in2 (by omega) (by omega)]; omega
    rw [e]
    refine callP_ro (limbsOf_ro n.natAbs (by omega)) ?_
    simp
    refine callP_ro (signed_ro false n.natAbs) ?_
    have e2 : sg false n.natAbs = n := by unfold sg; simp; omega
    rw [e2, biC_def]
    simp
    exact retRO [.agg (biC n)] 1 (by simp [biC_def]) (by simp [frz, biC_def, V.cl]) (by simp [hg])
theorem BigIntOf_ro (n : Int) (hn : -9223372036854775808 < n ∧ n ≤ 9223372036854775807) : RO Tryz.prog 215 [.int .i64 n] (.agg (biC n)) := by
  have hl : (lim n.natAbs).length ≤ 60 := lim_length_le.2 (Nat.lt_of_le_of_lt (show n.natAbs ≤ 9223372036854775808 by omega) (by decide +kernel))
  refine ro_of2 Tryz.func215 rfl rfl (by rw [Tryz.ntmps215]; simp) fun bl => ?_
  rw [Tryz.ntmps215, Tryz.results215]
  refine AW_run ?_
  simp
  intro g hg0 hg
  have h0 : ¬ n = -9223372036854775808 := by omega
  simp [h0]
  refine ⟨fun h => ?_, fun h => ?_⟩
  · have e : IntKind.i64.wrap (-n) = (n.natAbs : Int) := by rw [i64_in (by omega) (by omega)]; omega
    try rw [e]
    refine callP_ro (spec_NatOf_ro n.natAbs (by omega)) ?_
    simp
    refine callP_ro (l03Make_ro true n.natAbs hl) ?_
    have e2 : sg true n.natAbs = n := by unfold sg; simp; omega
    rw [e2, biC_def]
    simp
    exact retRO [.agg (biC n)] 1 (by simp [biC_def]) (by simp [frz, biC_def, V.cl]) (by simp [hg])
  · have e : n = (n.natAbs : Int) := by omega
    have hN := spec_NatOf_ro n.natAbs (by omega)
    rw [← e] at hN
    refine callP_ro hN ?_
    simp
    refine callP_ro (l03Make_ro false n.natAbs hl) ?_
    have e2 : sg false n.natAbs = n := by unfold sg; simp; omega
    rw [e2, biC_def]
    simp
    exact retRO [.agg (biC n)] 1 (by simp [biC_def]) (by simp [frz, biC_def, V.cl]) (by simp [hg])

theorem rq_int (n : Int) : (rq (n : Rat)).c = [.bool (decide (n < 0)), .sl (iv (lim n.natAbs)), .sl [[.int .i64 1]]] := by
  rw [rqc_def]
  show [V.bool (decide (n < 0)), V.sl (iv (lim n.natAbs)), V.sl (iv (lim 1))] = _
  rw [lim1]; rfl
theorem RatFromInt_ro (n : Int) (hn : -9223372036854775808 < n ∧ n ≤ 9223372036854775807) : RO Tryz.prog 138 [.int .i64 n] (.agg (ro (some (n : Rat))).c) := by
  refine ro_of2 Tryz.func138 rfl rfl (by rw [Tryz.ntmps138]; simp) fun bl => ?_
  rw [Tryz.ntmps138, Tryz.results138]
  refine AW_run ?_
  rw [show (ro (some (n : Rat))).c = _ from rq_int n]
  simp
  intro g hg0 hg
  refine callP_ro (BigIntOf_ro n hn) ?_
  simp [biC_def]
  intro g1 hg1 h1g hb1
  simp [h1g, Ne.symm h1g]
  refine retRO [.agg [.bool (decide (n < 0)), .sl (iv (lim n.natAbs)), .lsl g1 1 0 1]] 2 (by simp [h1g, Ne.symm h1g]) ?_ (by simp [hg, hb1])
  exact frz_rat (ns := [1]) (.inl hg1) hb1 (by simp [h1g, iv])
end Go.Proofs.YticmgmemnpcbbaaGreat.Vm

namespace Go.Proofs.YticmgmemnpcbbaaGreat.Vm
open Go Go.Proofs
set_option linter.unusedSimpArgs false
set_option linter.unusedVariables false

theorem celT_int : Tryz.prog.cellsOf 3 = 1 := by kernel_rfl
theorem celT_bool : Tryz.prog.cellsOf 4 = 1 := by kernel_rfl
theorem celT_string : Tryz.prog.cellsOf 9 = 1 := by kernel_rfl
theorem celT_Joint : Tryz.prog.cellsOf 207 = 4 := by kernel_rfl

theorem len2 {cs : List V} (h : cs.length = 2) : ∃ a b, cs = [a, b] := by
  match cs, h with
  | [a, b], _ => exact ⟨a, b, rfl⟩
theorem len3 {cs : List V} (h : cs.length = 3) : ∃ a b c, cs = [a, b, c] := by
  match cs, h with
  | [a, b, c], _ => exact ⟨a, b, c, rfl⟩
theorem len4 {cs : List V} (h : cs.length = 4) : ∃ a b c d, cs = [a, b, c, d] := by
  match cs, h with
  | [a, b, c, d], _ => exact ⟨a, b, c, d, rfl⟩

theorem j_of_co {cs : List V} (h : CO Tryz.prog 207 cs) : ∃ j : J, cs = j.c ∧ j.fit := by
  obtain ⟨hl, hf⟩ := co_struct Tryz.underlying207 h
  rw [celT_Joint] at hl
  obtain ⟨a, b, c, d, rfl⟩ := len4 hl
  simp [celT_int, celT_bool, celT_string] at hf
  obtain ⟨h0, h1, h2, h3⟩ := hf
  obtain ⟨s, h0, hs⟩ := co_str Tryz.underlying9 h0
  obtain ⟨x, h1, hx⟩ := co_int Tryz.underlying3 h1
  obtain ⟨y, h2, hy⟩ := co_int Tryz.underlying3 h2
  obtain ⟨f, h3⟩ := co_bool Tryz.underlying4 h3
  cases h0; cases h1; cases h2; cases h3
  exact ⟨⟨s, x, y, f⟩, rfl, hs, wf_i64 hx, wf_i64 hy⟩

theorem bytes_int : Tryz.prog.bytesOf 3 = 8 := by kernel_rfl

theorem iv_of_co {cs : List V} (h : CO Tryz.prog 27 cs) : ∃ ns : List Int, cs = [.sl (iv ns)] ∧ ns.length ≤ 17592186043904 ∧ ∀ n, n ∈ ns → -9223372036854775808 ≤ n ∧ n ≤ 9223372036854775807 := by
  obtain ⟨xs, rfl, hx, hl⟩ := co_slice Tryz.underlying27 h
  rw [bytes_int] at hl
  have : ∃ ns : List Int, xs = iv ns ∧ ∀ n, n ∈ ns → -9223372036854775808 ≤ n ∧ n ≤ 9223372036854775807 := by
    clear hl h
    induction xs with
    | nil => exact ⟨[], rfl, fun n hn => by cases hn⟩
    | cons x xs ih =>
      obtain ⟨ns, rfl, hns⟩ := ih fun y hy => hx y (List.mem_cons_of_mem _ hy)
      obtain ⟨n, rfl, hn⟩ := co_int Tryz.underlying3 (hx x List.mem_cons_self)
      refine ⟨n :: ns, rfl, fun m hm => ?_⟩
      rcases List.mem_cons.1 hm with rfl | hm
      · exact wf_i64 hn
      · exact hns m hm
  obtain ⟨ns, rfl, hns⟩ := this
  exact ⟨ns, rfl, by simp at hl; omega, hns⟩

end Go.Proofs.YticmgmemnpcbbaaGreat.Vm

namespace Go.Proofs.YticmgmemnpcbbaaGreat.Vm
open Go Go.Proofs
set_option linter.unusedSimpArgs false
set_option linter.unusedVariables false

theorem celT_Member : Tryz.prog.cellsOf 217 = 3 := by kernel_rfl
theorem celT_Structure : Tryz.prog.cellsOf 71 = 2 := by kernel_rfl
theorem celT_Joints : Tryz.prog.cellsOf 68 = 1 := by kernel_rfl
theorem celT_Members : Tryz.prog.cellsOf 69 = 1 := by kernel_rfl
theorem bytes_Joint : 1 ≤ Tryz.prog.bytesOf 207 := by
  have : Tryz.prog.bytesOf 207 = 40 := by kernel_rfl
  omega
theorem bytes_Member : 1 ≤ Tryz.prog.bytesOf 217 := by
  have : Tryz.prog.bytesOf 217 = 24 := by kernel_rfl
  omega

def In64 (n : Int) : Prop := -9223372036854775808 ≤ n ∧ n ≤ 9223372036854775807
structure Mb.fit (m : Mb) : Prop where
  a : In64 m.a
  b : In64 m.b
  kind : In64 m.kind
structure Str.fit (s : Str) : Prop where
  js : s.js.length ≤ 140737488351232
  ms : s.ms.length ≤ 140737488351232
  names : ∀ j, j ∈ s.js → j.name.size ≤ 140737488351232
  joints : ∀ j, j ∈ s.js → j.fit
  members : ∀ m, m ∈ s.ms → m.fit

theorem m_of_co {cs : List V} (h : CO Tryz.prog 217 cs) : ∃ m : Mb, cs = m.c ∧ m.fit := by
  obtain ⟨hl, hf⟩ := co_struct Tryz.underlying217 h
  rw [celT_Member] at hl
  obtain ⟨a, b, c, rfl⟩ := len3 hl
  simp [celT_int, celT_bool, celT_string] at hf
  obtain ⟨h0, h1, h2⟩ := hf
  obtain ⟨x, h0, hx⟩ := co_int Tryz.underlying3 h0
  obtain ⟨y, h1, hy⟩ := co_int Tryz.underlying3 h1
  obtain ⟨z, h2, hz⟩ := co_int Tryz.underlying3 h2
  cases h0; cases h1; cases h2
  exact ⟨⟨x, y, z⟩, rfl, wf_i64 hx, wf_i64 hy, wf_i64 hz⟩

theorem jv_of {xs : List (List V)} (hx : ∀ x, x ∈ xs → CO Tryz.prog 207 x) : ∃ js : List J, xs = jv js ∧ ∀ j, j ∈ js → j.fit := by
  induction xs with
  | nil => exact ⟨[], rfl, fun n hn => by cases hn⟩
  | cons x xs ih =>
    obtain ⟨ns, rfl, hns⟩ := ih fun y hy => hx y (List.mem_cons_of_mem _ hy)
    obtain ⟨n, rfl, hn⟩ := j_of_co (hx x List.mem_cons_self)
    refine ⟨n :: ns, rfl, fun m hm => ?_⟩
    rcases List.mem_cons.1 hm with rfl | hm
    · exact hn
    · exact hns m hm
theorem mv_of {xs : List (List V)} (hx : ∀ x, x ∈ xs → CO Tryz.prog 217 x) : ∃ js : List Mb, xs = mv js ∧ ∀ j, j ∈ js → j.fit := by
  induction xs with
  | nil => exact ⟨[], rfl, fun n hn => by cases hn⟩
  | cons x xs ih =>
    obtain ⟨ns, rfl, hns⟩ := ih fun y hy => hx y (List.mem_cons_of_mem _ hy)
    obtain ⟨n, rfl, hn⟩ := m_of_co (hx x List.mem_cons_self)
    refine ⟨n :: ns, rfl, fun m hm => ?_⟩
    rcases List.mem_cons.1 hm with rfl | hm
    · exact hn
    · exact hns m hm

theorem len_of {xs : List (List V)} {b n : Nat} (hl : xs.length * b ≤ n) (hb : 1 ≤ b) : xs.length ≤ n := Nat.le_trans (Nat.le_mul_of_pos_right _ hb) hl

theorem str_of_co {cs : List V} (h : CO Tryz.prog 71 cs) : ∃ s : Str, cs = s.c ∧ s.fit := by
  obtain ⟨hl, hf⟩ := co_struct Tryz.underlying71 h
  rw [celT_Structure] at hl
  obtain ⟨a, b, rfl⟩ := len2 hl
  simp [celT_Joints, celT_Members] at hf
  obtain ⟨h0, h1⟩ := hf
  obtain ⟨x, h0, hx, hlx⟩ := co_slice Tryz.underlying68 h0
  obtain ⟨y, h1, hy, hly⟩ := co_slice Tryz.underlying69 h1
  cases h0; cases h1
  obtain ⟨js, rfl, hjs⟩ := jv_of hx
  obtain ⟨ms, rfl, hms⟩ := mv_of hy
  exact ⟨⟨js, ms⟩, rfl, by simpa using len_of hlx bytes_Joint, by simpa using len_of hly bytes_Member, fun j hj => (hjs j hj).1, hjs, hms⟩

end Go.Proofs.YticmgmemnpcbbaaGreat.Vm

namespace Go.Proofs.YticmgmemnpcbbaaGreat.Vm
open Go Go.Proofs
set_option linter.unusedSimpArgs false
set_option linter.unusedVariables false

def szR (r : RT) (left : Int) : Int := if less left r.m.length < 0 then -1 else less (less left r.m.length) r.d.length
def szSp (s : SP) (left : Int) : Int := if szR s.lo left < 0 then -1 else szR s.hi (szR s.lo left)
end Go.Proofs.YticmgmemnpcbbaaGreat.Vm

namespace Go.Proofs.YticmgmemnpcbbaaGreat.Vm
open Go Go.Proofs
set_option linter.unusedSimpArgs false
set_option linter.unusedVariables false

theorem own_pair {bl : Int → Option Blk} {d e : D} {vs : List V} {gs : List Int} : OwnL bl [d, e] vs gs ↔ ∃ v w g1 g2, vs = [v, w] ∧ gs = g1 ++ g2 ∧ (∀ g, g ∈ g1 → g ∉ g2) ∧ OwnD bl d v g1 ∧ OwnD bl e w g2 := by
  rw [OwnL]
  constructor
  · rintro ⟨v, vs', g1, g2, rfl, rfl, h1, h2, h3⟩
    rw [OwnL] at h3
    obtain ⟨w, vs'', g3, g4, rfl, rfl, h4, h5, h6⟩ := h3
    rw [OwnL] at h6
    obtain ⟨rfl, rfl⟩ := h6
    rw [List.append_nil] at h1 ⊢
    exact ⟨v, w, g1, g3, rfl, rfl, h1, h2, h5⟩
  · rintro ⟨v, w, g1, g2, rfl, rfl, h1, h2, h3⟩
    refine ⟨v, [w], g1, g2, rfl, rfl, h1, h2, ?_⟩
    rw [OwnL]
    exact ⟨w, [], g2, [], rfl, by simp, by simp, h3, by rw [OwnL]; exact ⟨rfl, rfl⟩⟩
theorem OwnD.one {bl : Int → Option Blk} {sz : Nat} {rows : List (List V)} {v : V} {gs : List Int} (h : OwnD bl (fl sz rows) v gs) : v.one = true ∧ v.cells = [v] := by
  unfold fl at h
  rw [OwnD] at h
  rcases h with ⟨_, rfl, _⟩ | ⟨g, els, gs', rfl, _⟩ <;> exact ⟨rfl, rfl⟩
theorem frz_iv {bl : Int → Option Blk} {ns : List Int} {v : V} {gs : List Int} (h : OwnD bl (fl 1 (iv ns)) v gs) (n : Nat) : frz bl (n + 1) v = some (.sl (iv ns)) := by
  rw [h.frz (fl_dep _ _ _), fl_fz]
theorem OwnD.keep {bl bl' : Int → Option Blk} {d : D} {v : V} {gs : List Int} (h : OwnD bl d v gs) (hg : ∀ x, x ∈ gs → ∀ b, bl x = some b → bl' x = some b) : OwnD bl' d v gs := h.frame fun x hx => by
  obtain ⟨b, hb⟩ := h.has x hx
  rw [hb, hg x hx b hb]
theorem OwnL.keep {bl bl' : Int → Option Blk} {d : List D} {v : List V} {gs : List Int} (h : OwnL bl d v gs) (hg : ∀ x, x ∈ gs → ∀ b, bl x = some b → bl' x = some b) : OwnL bl' d v gs := h.frame fun x hx => by
  obtain ⟨b, hb⟩ := h.has x hx
  rw [hb, hg x hx b hb]
theorem OwnL.not {bl : Int → Option Blk} {d : List D} {v : List V} {gs : List Int} (h : OwnL bl d v gs) {g : Int} (hg : bl g = none) : g ∉ gs := fun hh => by
  obtain ⟨b, hb⟩ := h.has g hh
  rw [hg] at hb; cases hb
theorem OwnD.not {bl : Int → Option Blk} {d : D} {v : V} {gs : List Int} (h : OwnD bl d v gs) {g : Int} (hg : bl g = none) : g ∉ gs := fun hh => by
  obtain ⟨b, hb⟩ := h.has g hh
  rw [hg] at hb; cases hb
theorem OwnR.keep {bl bl' : Int → Option Blk} {sz : Nat} {d : List (List D)} {v : List (List V)} {gs : List Int} (h : OwnR bl sz d v gs) (hg : ∀ x, x ∈ gs → ∀ b, bl x = some b → bl' x = some b) : OwnR bl' sz d v gs := h.frame fun x hx => by
  obtain ⟨b, hb⟩ := h.has x hx
  rw [hb, hg x hx b hb]
theorem OwnR.not {bl : Int → Option Blk} {sz : Nat} {d : List (List D)} {v : List (List V)} {gs : List Int} (h : OwnR bl sz d v gs) {g : Int} (hg : bl g = none) : g ∉ gs := fun hh => by
  obtain ⟨b, hb⟩ := h.has g hh
  rw [hg] at hb; cases hb
theorem OwnR.snoc {bl : Int → Option Blk} {sz : Nat} {r : List D} {e : List V} {g2 : List Int} (hr : OwnL bl r e g2) (hl : e.length = sz) (ho : e.all V.one = true) : ∀ {rs : List (List D)} {els : List (List V)} {g1 : List Int}, OwnR bl sz rs els g1 → (∀ x, x ∈ g1 → x ∉ g2) → OwnR bl sz (rs ++ [r]) (els ++ [e]) (g1 ++ g2)
  | [], els, g1, h, hd => by
    rw [OwnR] at h
    obtain ⟨rfl, rfl⟩ := h
    show OwnR bl sz [r] [e] g2
    rw [OwnR]
    exact ⟨e, [], g2, [], rfl, by simp, by simp, hl, ho, hr, by rw [OwnR]; exact ⟨rfl, rfl⟩⟩
  | r1 :: rs, els, g1, h, hd => by
    rw [OwnR] at h
    obtain ⟨e1, els', ga, gb, rfl, rfl, h3, h4, h5, h6, h7⟩ := h
    have ih := OwnR.snoc hr hl ho h7 fun x hx => hd x (by simp [hx])
    show OwnR bl sz (r1 :: (rs ++ [r])) (e1 :: (els' ++ [e])) (ga ++ gb ++ g2)
    rw [OwnR]
    refine ⟨e1, els' ++ [e], ga, gb ++ g2, rfl, by simp, fun x hx hx2 => ?_, h4, h5, h6, ih⟩
    rcases List.mem_append.1 hx2 with hx2 | hx2
    · exact h3 x hx hx2
    · exact hd x (by simp [hx]) hx2
theorem OwnR.at {bl : Int → Option Blk} {sz : Nat} : ∀ {rs : List (List D)} {els : List (List V)} {gs : List Int} (i : Nat) (hi : i < rs.length), OwnR bl sz rs els gs →
    ∃ e gi, els[i]? = some e ∧ OwnL bl rs[i] e gi ∧ e.length = sz ∧ e.all V.one = true ∧ (∀ x, x ∈ gi → x ∈ gs) ∧
      ∀ bl' r' e', OwnL bl' r' e' gi → e'.length = sz → e'.all V.one = true → (∀ x, x ∈ gs → x ∉ gi → ∀ y, bl x = some y → bl' x = some y) → OwnR bl' sz (rs.set i r') (els.set i e') gs
  | [], els, gs, i, hi, _ => by simp at hi
  | r :: rs, els, gs, 0, hi, h => by
    rw [OwnR] at h
    obtain ⟨e, els', g1, g2, rfl, rfl, h3, h4, h5, h6, h7⟩ := h
    refine ⟨e, g1, rfl, h6, h4, h5, fun x hx => by simp [hx], fun bl' r' e' a1 a2 a3 a4 => ?_⟩
    show OwnR bl' sz (r' :: rs) (e' :: els') (g1 ++ g2)
    rw [OwnR]
    exact ⟨e', els', g1, g2, rfl, rfl, h3, a2, a3, a1, h7.keep fun x hx b hb => a4 x (by simp [hx]) (fun h => h3 x h hx) b hb⟩
  | r :: rs, els, gs, i + 1, hi, h => by
    rw [OwnR] at h
    obtain ⟨e, els', g1, g2, rfl, rfl, h3, h4, h5, h6, h7⟩ := h
    obtain ⟨e2, gi, b1, b2, b3, b4, b5, b6⟩ := OwnR.at (rs := rs) i (by simpa using hi) h7
    refine ⟨e2, gi, by simpa using b1, by simpa using b2, b3, b4, fun x hx => by simp [b5 x hx], fun bl' r' e' a1 a2 a3 a4 => ?_⟩
    show OwnR bl' sz (r :: rs.set i r') (e :: els'.set i e') (g1 ++ g2)
    rw [OwnR]
    refine ⟨e, els'.set i e', g1, g2, rfl, rfl, h3, h4, h5, h6.keep fun x hx b hb => a4 x (by simp [hx]) (fun h => h3 x hx (b5 x h)) b hb, b6 bl' r' e' a1 a2 a3 fun x hx hn y hy => a4 x (by simp [hx]) hn y hy⟩
theorem own_single {bl : Int → Option Blk} {d : D} {v : V} {gs : List Int} : OwnL bl [d] [v] gs ↔ OwnD bl d v gs := by
  rw [OwnL]
  constructor
  · rintro ⟨v', vs', g1, g2, h1, rfl, _, h2, h3⟩
    cases h1
    rw [OwnL] at h3
    rw [h3.2, List.append_nil]; exact h2
  · intro h
    exact ⟨v, [], gs, [], rfl, by simp, by simp, h, by rw [OwnL]; exact ⟨rfl, rfl⟩⟩
structure Grow where
  els : List (List V)
  gs : List Int
  b : Int → Option Blk
theorem own_cons {bl : Int → Option Blk} {d : D} {ds : List D} {v : V} {vs : List V} {g1 g2 : List Int} (h1 : OwnD bl d v g1) (h2 : OwnL bl ds vs g2) (hd : ∀ g, g ∈ g1 → g ∉ g2) : OwnL bl (d :: ds) (v :: vs) (g1 ++ g2) := by
  rw [OwnL]; exact ⟨v, vs, g1, g2, rfl, rfl, hd, h1, h2⟩
theorem own_nil {bl : Int → Option Blk} : OwnL bl [] [] [] := by rw [OwnL]; exact ⟨rfl, rfl⟩
theorem own_int {bl : Int → Option Blk} (n : Int) : OwnD bl (.c (.int .i64 n)) (.int .i64 n) [] := by rw [OwnD]; exact ⟨rfl, rfl, rfl⟩
end Go.Proofs.YticmgmemnpcbbaaGreat.Vm

namespace Go.Proofs.YticmgmemnpcbbaaGreat.Vm
open Go Go.Proofs
set_option linter.unusedSimpArgs false
set_option linter.unusedVariables false

/-- Rows written over from the beginning. -/
def over (ys xs : List (List V)) (i : Nat) : List (List V) := ys.take i ++ xs.drop i
@[simp] theorem over_zero (ys xs : List (List V)) : over ys xs 0 = xs := by simp [over]
theorem over_length (ys xs : List (List V)) (i : Nat) (hl : ys.length = xs.length) : (over ys xs i).length = xs.length := by simp [over]; omega
def marks (k : Int) (n : Nat) : List Int := (List.range n).map fun (i : Nat) => k + i
@[simp] theorem marks_length (k : Int) (n : Nat) : (marks k n).length = n := by simp [marks]
@[simp] theorem marks_getE (k : Int) (n i : Nat) (h : i < (marks k n).length) : (marks k n)[i] = k + i := by simp [marks]
theorem marks_at (k : Int) (n i : Nat) (h : i < n) : (iv (marks k n))[i]'(by simpa using h) = [.int .i64 (k + i)] := by simp [marks]

end Go.Proofs.YticmgmemnpcbbaaGreat.Vm

namespace Go.Proofs.YticmgmemnpcbbaaGreat.Vm
open Go Go.Proofs
set_option linter.unusedSimpArgs false
set_option linter.unusedVariables false

def dB (neg : Bool) (m : List Int) : List D := [.c (.bool neg), fl 1 (iv m)]
def dR (r : RT) : List D := [.c (.bool r.neg), fl 1 (iv r.m), fl 1 (iv r.d)]
/-! ### Marks -/
theorem kp_of {bl : Int → Option Blk} {g : Int} (hg : bl g = none) (b : Option Blk) : ∀ x y, bl x = some y → upd bl g b x = some y := fun x y hx => by rw [upd_apply, if_neg (fun e => by rw [e, hg] at hx; cases hx)]; exact hx
def mkR (k : Nat) (r : RT) : RT := ⟨r.neg, marks k r.m.length, marks (k + r.m.length : Nat) r.d.length⟩
def mkRN (k : Nat) (r : RT) : Nat := k + r.m.length + r.d.length
/-! ### Spans -/
def dS (s : SP) : List D := dR s.lo ++ (dR s.hi ++ [.c (.bool s.nl), .c (.bool s.nh)])
def mkSN (k : Nat) (s : SP) : Nat := mkRN (mkRN k s.lo) s.hi
end Go.Proofs.YticmgmemnpcbbaaGreat.Vm

namespace Go.Proofs.YticmgmemnpcbbaaGreat.Vm
open Go Go.Proofs
set_option linter.unusedSimpArgs false
set_option linter.unusedVariables false

end Go.Proofs.YticmgmemnpcbbaaGreat.Vm

namespace Go.Proofs.YticmgmemnpcbbaaGreat.Vm
open Go Go.Proofs
set_option linter.unusedSimpArgs false
set_option linter.unusedVariables false

def rv (rs : List RT) : List (List V) := rs.map RT.c
@[simp] theorem rv_length (rs : List RT) : (rv rs).length = rs.length := by simp [rv]
@[simp] theorem rv_getE (rs : List RT) (i : Nat) (h : i < (rv rs).length) : (rv rs)[i] = (rs[i]'(by simpa using h)).c := by simp [rv]
theorem RT.c_len (r : RT) : r.c.length = 3 := rfl
def dRs (rs : List RT) : D := .s 3 (rs.map dR)
/-! ### Sizes -/
def szTo : List RT → Int → Int
  | [], left => left
  | r :: rs, left => if szR r left < 0 then -1 else szTo rs (szR r left)
def szQs (rs : List RT) (left : Int) : Int := if less left rs.length < 0 then -1 else szTo rs (less left rs.length)
/-- The sizes of a list's fractions fit. -/
def fitQ (rs : List RT) (k : Nat) : Prop := rs.length ≤ k ∧ ∀ r, r ∈ rs → r.le k
def sumQ (rs : List RT) : Nat := (rs.map fun r => r.m.length + r.d.length).sum
/-! ### Marks -/
def mkQ (k : Nat) (r : RT) : RT := ⟨(k : Int).tmod 3 == 0, marks (k + 1 : Nat) r.m.length, marks (k + 1 + r.m.length : Nat) r.d.length⟩
def mkQN (k : Nat) (r : RT) : Nat := k + 1 + r.m.length + r.d.length
def mkQs : Nat → List RT → List RT
  | _, [] => []
  | k, r :: rs => mkQ k r :: mkQs (mkQN k r) rs
def mkQsN (k : Nat) (rs : List RT) : Nat := rs.foldl mkQN k
@[simp] theorem mkQs_length : ∀ (k : Nat) (rs : List RT), (mkQs k rs).length = rs.length
  | _, [] => rfl
  | k, r :: rs => by rw [mkQs, List.length_cons, List.length_cons, mkQs_length]
/-- Rows from which on they are as before. -/
structure Mk where
  i : Nat
  els : List (List V)
  b : Int → Option Blk
/-! ### Arguments -/
end Go.Proofs.YticmgmemnpcbbaaGreat.Vm

namespace Go.Proofs.YticmgmemnpcbbaaGreat.Vm
open Go Go.Proofs
set_option linter.unusedSimpArgs false
set_option linter.unusedVariables false

def dT (r : RT) (b : Bool) : D := .t [.a (dR r), .c (.bool b)]
/-- The width of a span, if it has one. -/
def widQ (s : SP) : Option Rat := if spOk s && !s.nl && !s.nh then op2 (· - ·) (rd s.hi) (rd s.lo) else none
end Go.Proofs.YticmgmemnpcbbaaGreat.Vm

namespace Go.Proofs.YticmgmemnpcbbaaGreat.Vm
open Go Go.Proofs
set_option linter.unusedSimpArgs false
set_option linter.unusedVariables false

/-! ### Lists of fractions that may be none -/
def fvs (xs : List (Option Rat)) : List (List V) := xs.map fun x => [fv x]
@[simp] theorem fvs_length (xs : List (Option Rat)) : (fvs xs).length = xs.length := by simp [fvs]
@[simp] theorem fvs_getE (xs : List (Option Rat)) (i : Nat) (h : i < (fvs xs).length) : (fvs xs)[i] = [fv (xs[i]'(by simpa using h))] := by simp [fvs]
@[simp] theorem fv_cl (x : Option Rat) : (fv x).cl = true := by cases x <;> rfl
@[simp] theorem fv_one (x : Option Rat) : (fv x).one = true := by cases x <;> rfl
@[simp] theorem fv_cells (x : Option Rat) : (fv x).cells = [fv x] := by cases x <;> rfl
theorem fvs_cl (xs : List (Option Rat)) : (fvs xs).all (fun r => r.all V.cl) = true := by simp [fvs]
def okL (xs : List (Option Rat)) : Prop := ∀ x, x ∈ xs → okQ x
/-- A list and whether it is one. -/
def dL (xs : List (Option Rat)) (b : Bool) : D := .t [fl 1 (fvs xs), .c (.bool b)]
def allOk (rs : List RT) : Bool := rs.all fun r => (rd r).isSome
def rdAll (rs : List RT) : List (Option Rat) := rs.map rd
@[simp] theorem rdAll_length (rs : List RT) : (rdAll rs).length = rs.length := by simp [rdAll]
theorem rdAll_ok (rs : List RT) : okL (rdAll rs) := by
  intro x hx
  obtain ⟨r, _, rfl⟩ := List.mem_map.1 hx
  exact okQ_rd r

def vecOk (rs : List RT) : Bool := decide (rs.length ≤ 24) && allOk rs
/-! ### Handing back -/
def allSome (xs : List (Option Rat)) : Bool := xs.all Option.isSome
def roAll (xs : List (Option Rat)) : List RT := xs.map ro
@[simp] theorem roAll_length (xs : List (Option Rat)) : (roAll xs).length = xs.length := by simp [roAll]
/-- Fractions handed back, and whether all are some. -/
def stQ (xs : List (Option Rat)) : List RT := if allSome xs = true then roAll xs else []
def dV (rs : List RT) (b : Bool) : D := .t [dRs rs, .c (.bool b)]
theorem rv_cl (rs : List RT) : (rv rs).all (fun r => r.all V.cl) = true := by simp [rv, RT.c, V.cl]
theorem rv_append (a b : List RT) : rv (a ++ b) = rv a ++ rv b := by simp [rv]
end Go.Proofs.YticmgmemnpcbbaaGreat.Vm

namespace Go.Proofs.YticmgmemnpcbbaaGreat.Vm
open Go Go.Proofs
set_option linter.unusedSimpArgs false
set_option linter.unusedVariables false

def fitsQ (s : Str) (q : List RT) : Bool := (sOk s && decide (q.length = s.ms.length)) && allOk q
/-- Does a density have the wrong sign for its member? -/
def sgnBad (m : Mb) (x : Option Rat) : Bool := (decide (m.kind = 1) && decide (sgq x < 0)) || (decide (m.kind = 2) && decide (0 < sgq x))
def sgnsTo (ms : List Mb) (q : List RT) (n : Nat) : Prop := ∀ k (h1 : k < ms.length) (h2 : k < q.length), k < n → sgnBad ms[k] (rd q[k]) = false
def hasS (s : Str) (q : List RT) : Bool := fitsQ s q && (List.zip s.ms q).all fun p => !sgnBad p.1 (rd p.2)
end Go.Proofs.YticmgmemnpcbbaaGreat.Vm

namespace Go.Proofs.YticmgmemnpcbbaaGreat.Vm
open Go Go.Proofs
set_option linter.unusedSimpArgs false
set_option linter.unusedVariables false

/-- The sum over the members before n that touch joint j. -/
def pTo (e : Mb → Int) (s : Str) (q : List (Option Rat)) (j : Int) : Nat → Option Rat
  | 0 => some 0
  | n + 1 => if j = (mat s n).a ∨ j = (mat s n).b then op2 (· + ·) (pTo e s q j n) (op2 (· * ·) (q.getD n none) (some (e (mat s n) : Rat))) else pTo e s q j n
def pX (s : Str) (q : List (Option Rat)) (j : Int) : Option Rat := pTo (eqX s j) s q j s.ms.length
def pY (s : Str) (q : List (Option Rat)) (j : Int) : Option Rat := pTo (eqY s j) s q j s.ms.length
theorem zero_cast : ((0 : Int) : Rat) = 0 := rfl
end Go.Proofs.YticmgmemnpcbbaaGreat.Vm

namespace Go.Proofs.YticmgmemnpcbbaaGreat.Vm
open Go Go.Proofs
set_option linter.unusedSimpArgs false
set_option linter.unusedVariables false

def pullOk (s : Str) (q : List RT) (j : Int) : Bool := fitsQ s q && (decide (0 ≤ j) && decide (j < s.js.length))
def pqs (s : Str) (q : List RT) (j : Int) : List (Option Rat) := if pullOk s q j = true then [pX s (rdAll q) j, pY s (rdAll q) j] else [none]
end Go.Proofs.YticmgmemnpcbbaaGreat.Vm

namespace Go.Proofs.YticmgmemnpcbbaaGreat.Vm
open Go Go.Proofs
set_option linter.unusedSimpArgs false
set_option linter.unusedVariables false

/-- A structure of the call's own. -/
def dStr (s : Str) : List D := [fl 4 (jv s.js), fl 3 (mv s.ms)]

/-- The names and sizes of a structure fit. -/
structure Str.sz (s : Str) : Prop where
  js : s.js.length ≤ 140737488351232
  ms : s.ms.length ≤ 140737488351232
  nm : ∀ j, j ∈ s.js → j.name.size ≤ 140737488351232
end Go.Proofs.YticmgmemnpcbbaaGreat.Vm

namespace Go.Proofs.YticmgmemnpcbbaaGreat.Vm
open Go Go.Proofs
set_option linter.unusedSimpArgs false
set_option linter.unusedVariables false

/-! ### Texts of marks -/
def digs (k : Nat) (out : ByteArray) : ByteArray := if h : k = 0 then out else digs (k / 10) (toBytes [IntKind.u8.wrap (IntKind.i64.wrap (48 + (k : Int).tmod 10))] ++ out)
termination_by k
decreasing_by omega
def mtext (k : Nat) : ByteArray := if k = 0 then { data := #[109, 48] } else ({ data := #[109] } : ByteArray) ++ digs k { data := #[] }
/-! ### Joints and members -/
def mkJ (k n : Nat) : List J := (List.range n).map fun i => ⟨mtext (k + 4 * i), (k + 4 * i + 1 : Nat), (k + 4 * i + 2 : Nat), ((k + 4 * i + 3 : Nat) : Int).tmod 3 == 0⟩
@[simp] theorem mkJ_length (k n : Nat) : (mkJ k n).length = n := by simp [mkJ]
@[simp] theorem mkJ_getE (k n i : Nat) (h : i < (mkJ k n).length) : (mkJ k n)[i] = ⟨mtext (k + 4 * i), (k + 4 * i + 1 : Nat), (k + 4 * i + 2 : Nat), ((k + 4 * i + 3 : Nat) : Int).tmod 3 == 0⟩ := by simp [mkJ]
def mkM (k n : Nat) : List Mb := (List.range n).map fun i => ⟨(k + 3 * i : Nat), (k + 3 * i + 1 : Nat), (k + 3 * i + 2 : Nat)⟩
@[simp] theorem mkM_length (k n : Nat) : (mkM k n).length = n := by simp [mkM]
@[simp] theorem mkM_getE (k n i : Nat) (h : i < (mkM k n).length) : (mkM k n)[i] = ⟨(k + 3 * i : Nat), (k + 3 * i + 1 : Nat), (k + 3 * i + 2 : Nat)⟩ := by simp [mkM]

/-- The marks of a structure from k on. -/
def mkS (k : Nat) (s : Str) : Str := ⟨mkJ k s.js.length, mkM (k + 4 * s.js.length) s.ms.length⟩
def mkN (k : Nat) (s : Str) : Nat := k + 4 * s.js.length + 3 * s.ms.length

end Go.Proofs.YticmgmemnpcbbaaGreat.Vm

namespace Go.Proofs.YticmgmemnpcbbaaGreat.Vm
open Go Go.Proofs
set_option linter.unusedSimpArgs false
set_option linter.unusedVariables false

end Go.Proofs.YticmgmemnpcbbaaGreat.Vm

namespace Go.Proofs.YticmgmemnpcbbaaGreat.Vm
open Go Go.Proofs
set_option linter.unusedSimpArgs false
set_option linter.unusedVariables false

def noLoad (s : Str) : List Int := if sOk s = true then List.replicate (2 * s.js.length) 0 else []

end Go.Proofs.YticmgmemnpcbbaaGreat.Vm

namespace Go.Proofs.YticmgmemnpcbbaaGreat.Vm
open Go Go.Proofs
set_option linter.unusedSimpArgs false
set_option linter.unusedVariables false

def freeL (s : Str) : List Int := if sOk s = true then frees s.js else []
theorem freeJoints_ro (s : Str) (hj : s.js.length ≤ 1048576) : RO Tryz.prog 74 [.ptr s.c] (.sl (iv (frees s.js))) := by
  have := ro_of_nw 1 (freeJoints_nw s hj) (fl_dep _ _ 0)
  simpa using this

theorem l12Free_nw (s : Str) (hj : s.js.length ≤ 1048576) : NW Tryz.prog 93 [.agg s.c] (fl 1 (iv (frees s.js))) := by
  refine nw_of Tryz.func93 rfl rfl (by rw [Tryz.ntmps93]; simp) fun bl => ?_
  rw [Tryz.ntmps93, Tryz.results93]
  refine AW_run ?_
  simp [Str.c]
  intro gs hgs0 hgs g00 hg00 hgs1 hb00
  simp [hgs1, Ne.symm hgs1]
  refine AW_for (fun p : Nat × Int => [(3, .lsl p.2 1 0 (freesTo s.js p.1).length), (8, .sl (jv s.js)), (9, .int .i64 s.js.length), (10, .int .i64 p.1)]) (fun p => upd bl p.2 (some ⟨1, iv (freesTo s.js p.1)⟩)) (fun p => p.1 ≤ s.js.length ∧ bl p.2 = none ∧ (p.2 < 0 → freesTo s.js p.1 = [])) (fun p => s.js.length - p.1) _ (0, g00) ⟨Nat.zero_le _, hb00, fun _ => rfl⟩ (by refine ⟨rfl, by simp [freesTo], ?_⟩; exact sub_put (by simp [freesTo, iv]) (by simp [hgs])) ?_
  rintro ⟨i, g⟩ ⟨hi, hg, h0⟩
  simp only at hi hg h0
  have hl := freesTo_le s.js i
  refine AW_run ?_
  simp
  refine ⟨fun h => ?_, fun h => ?_⟩
  · simp [h, J.c]
    intro g1 hg1 h1g hb1
    refine ⟨fun hf => ?_, fun hf => ?_⟩
    · intro g2 hg2 h21 h2g hb2
      simp [h1g, h21, h2g, Ne.symm h1g, Ne.symm h21, Ne.symm h2g, appV, elsV, Int.not_lt.2 hg2]
      refine ⟨by omega, fun g3 hg3 hb3 => ?_⟩
      have hb3' : bl g3 = none := by grind
      simp (disch := omega) [i64_in, loopQ_normal]
      have hjf : (s.js.getD i default).fixed = false := by simpa [h] using hf
      have hs1 : freesTo s.js (i + 1) = freesTo s.js i ++ [(i : Int)] := by rw [freesTo_succ, hjf]; rfl
      refine ⟨i + 1, g3, ⟨by omega, hb3', by omega⟩, by omega, rfl, by simp [hs1], ?_⟩
      rw [hs1, iv_append]
      exact sub_put (by rw [iv_takeall]; rfl) (by simp [hg, hb1, hb2, h1g, h21, h2g])
    · simp (disch := omega) [i64_in, loopQ_normal]
      have hjf : (s.js.getD i default).fixed = true := by simpa [h] using hf
      have hs1 : freesTo s.js (i + 1) = freesTo s.js i := by rw [freesTo_succ, hjf]; simp
      refine ⟨i + 1, g, ⟨by omega, hg, by rw [hs1]; exact h0⟩, by omega, rfl, by simp [hs1], ?_⟩
      rw [hs1]
      simp [hb1, h1g]
  · have hi : i = s.js.length := by omega
    subst hi
    refine retNW [.lsl g 1 0 (freesTo s.js s.js.length).length] [g] (by simp) ?_ (by simpa using hg) (by simp [hg])
    refine own_iv.2 (.inr ⟨g, rfl, rfl, by simp [frees], h0⟩)
theorem l12Free_ro (s : Str) (hj : s.js.length ≤ 1048576) : RO Tryz.prog 93 [.agg s.c] (.sl (iv (frees s.js))) := by
  have := ro_of_nw 1 (l12Free_nw s hj) (fl_dep _ _ 0)
  simpa using this

def degOf (s : Str) : Int := if sOk s = true then s.ms.length - 2 * (frees s.js).length else 0

end Go.Proofs.YticmgmemnpcbbaaGreat.Vm

namespace Go.Proofs.YticmgmemnpcbbaaGreat.Vm
open Go Go.RowKit
set_option linter.unusedSimpArgs false
set_option linter.unusedVariables false

theorem Hoist_append {P : Program} {ops : Array Oper} {blK : Int → Option Blk} {K : St → Prop} : ∀ (is js : List Nat) (σ : St), Hoist P ops blK is (fun σ' => Hoist P ops blK js K σ') σ → Hoist P ops blK (is ++ js) K σ
  | [], js, σ, h => h
  | i :: is, js, σ, h => by
    rw [List.cons_append]
    unfold Hoist at h ⊢
    split at h
    · obtain ⟨v, h1, h2⟩ := h
      exact ⟨v, h1, Hoist_append is js _ h2⟩
    · exact h.elim
theorem HoistF_mono {P : Program} {ds : List (Option Tmp)} {blK : Int → Option Blk} {K K' : St → Prop} (hK : ∀ σ, K σ → K' σ) : ∀ (l : List Oper) (σ : St), HoistF P ds blK l K σ → HoistF P ds blK l K' σ
  | [], σ, h => hK σ h
  | o :: rest, σ, h => by
    have next : ∀ v, HoistF P ds blK rest K (σ.put o.dst v) → HoistF P ds blK rest K' (σ.put o.dst v) := fun v hv => HoistF_mono hK rest _ hv
    unfold HoistF at h ⊢
    cases hg : o.guard with
    | none =>
      simp only [hg] at h ⊢
      split at h
      · obtain ⟨p, h1, v, n, ys, h2, h3⟩ := h
        exact ⟨p, h1, v, n, ys, h2, next v h3⟩
      · obtain ⟨v, h1, h2⟩ := h
        exact ⟨v, h1, next v h2⟩
    | some jb =>
      obtain ⟨j, b⟩ := jb
      simp only [hg] at h ⊢
      split at h
      · rename_i d hd
        split at h
        · split at h
          · rename_i hq
            obtain ⟨v, h1, h2⟩ := h
            rw [if_pos hq]
            exact ⟨v, h1, next v h2⟩
          · rename_i hq
            rw [if_neg hq]
            exact next _ h
        · exact next _ h
        · exact h.elim
      · exact h.elim
/-- One operation, guarded or not, as what it yields. -/
def HStep (P : Program) (ops : Array Oper) (blK : Int → Option Blk) (i : Nat) (K : St → Prop) (σ : St) : Prop := match ops[i]? with
  | some o => ∃ v, DY P ops blK o σ v ∧ K (σ.put o.dst v)
  | none => False
/-- As AW_mixedB, with the guarded call i between the lists is1 and is2. -/
theorem AW_mixedC {P : Program} {id : Nat} {ops : Array Oper} {K : Ex → St → Prop} {σ : St} (hm : P.follows .mixedOrders = true) (blK : Int → Option Blk) (hs : Sub blK σ.bl) (is1 : List Nat) (i : Nat) (is2 : List Nat) (fuel : Nat)
    (hn : (ops.size == fuel + (is1 ++ i :: is2).length && (is1 ++ i :: is2).all (fun i => decide (i < ops.size)) && hoistB ops (is1 ++ i :: is2) (Array.replicate ops.size false)) = true)
    (h : HoistF P (ops.toList.map (·.dst)) blK (is1.filterMap fun i => ops[i]?) (HStep P ops blK i (HoistF P (ops.toList.map (·.dst)) blK (is2.filterMap fun i => ops[i]?) (DAny P ops blK (fun _ => false) (K .normal) fuel (setAll (is1 ++ i :: is2) (Array.replicate ops.size false))))) σ) : AW P (.region id ops true) K σ := by
  simp only [Bool.and_eq_true, beq_iff_eq] at hn
  have hall := List.all_eq_true.1 hn.1.2
  have f1 : is1.all (fun i => decide (i < ops.size)) = true := List.all_eq_true.2 fun x hx => hall x (List.mem_append_left _ hx)
  have f2 : is2.all (fun i => decide (i < ops.size)) = true := List.all_eq_true.2 fun x hx => hall x (List.mem_append_right _ (List.mem_cons_of_mem _ hx))
  refine AW_draw_mixed hm (is1 ++ i :: is2) fuel blK hs hn.1.1 hn.2 (tl := fun _ => false) (fun _ _ _ _ h => by cases h) (Hoist_append is1 (i :: is2) σ (Hoist_is _ is1 σ (filter_some is1 f1) ?_))
  refine HoistF_mono (fun σ' h' => ?_) _ _ h
  unfold HStep at h'
  unfold Hoist
  split at h'
  · rename_i o ho
    obtain ⟨v, h1, h2⟩ := h'
    rw [ho]
    exact ⟨v, h1, Hoist_is _ is2 _ (filter_some is2 f2) h2⟩
  · exact h'.elim

/-- AW_mixedB where the last operations may store. -/
theorem AW_mixedBT {P : Program} {id : Nat} {ops : Array Oper} {K : Ex → St → Prop} {σ : St} (hm : P.follows .mixedOrders = true) (blK : Int → Option Blk) (hs : Sub blK σ.bl) (is : List Nat) (fuel n : Nat) (hn : (ops.size == fuel + is.length && is.all (fun i => decide (i < ops.size)) && hoistB ops is (Array.replicate ops.size false) && tailB ops (fun j => decide (n ≤ j)) is) = true)
    (h : HoistF P (ops.toList.map (·.dst)) blK (is.filterMap fun i => ops[i]?) (DAny P ops blK (fun j => decide (n ≤ j)) (K .normal) fuel (setAll is (Array.replicate ops.size false))) σ) : AW P (.region id ops true) K σ := by
  simp only [Bool.and_eq_true, beq_iff_eq] at hn
  exact AW_draw_mixed hm is fuel blK hs hn.1.1.1 hn.1.2 (tl := fun j => decide (n ≤ j)) (tailB_spec hn.2) (Hoist_is _ is σ (filter_some is hn.1.1.2) h)

end Go.Proofs.YticmgmemnpcbbaaGreat.Vm

namespace Go.Proofs.YticmgmemnpcbbaaGreat.Vm
open Go Go.Proofs
set_option linter.unusedSimpArgs false
set_option linter.unusedVariables false

def lN (l : List Int) (k : Nat) : Int := l.getD k 0
def fX (s : Str) (l : List Int) (q : List (Option Rat)) (i : Nat) : Option Rat := op2 (· + ·) (pX s q i) (some (lN l (2 * i) : Rat))
def fY (s : Str) (l : List Int) (q : List (Option Rat)) (i : Nat) : Option Rat := op2 (· + ·) (pY s q i) (some (lN l (2 * i + 1) : Rat))
def isZ (x : Option Rat) : Bool := x.isSome && decide (sgq x = 0)
def balJ (s : Str) (l : List Int) (q : List (Option Rat)) (i : Nat) : Bool := isZ (fX s l q i) && isZ (fY s l q i)
/-- All free joints before n are in balance. -/
def isBal (s : Str) (l : List Int) (q : List RT) : Bool := (fitsQ s q && fitsL s.js l) && (frees s.js).all fun j => balJ s l (rdAll q) j.toNat
/-! ### In the reference -/
def frcL (s : Str) (l : List Int) (q : List RT) (i : Nat) : List RT := if allSome [pX s (rdAll q) i, pY s (rdAll q) i] = true then [ro (fX s l (rdAll q) i), ro (fY s l (rdAll q) i)] else []
def frcB (s : Str) (l : List Int) (q : List RT) (i : Nat) : Bool := allSome [fX s l (rdAll q) i, fY s l (rdAll q) i]
end Go.Proofs.YticmgmemnpcbbaaGreat.Vm

namespace Go.Proofs.YticmgmemnpcbbaaGreat.Vm
open Go Go.Proofs
set_option linter.unusedSimpArgs false
set_option linter.unusedVariables false

def reOk (s : Str) (l : List Int) (q : List RT) (j : Int) : Bool := (fitsQ s q && fitsL s.js l) && ((decide (0 ≤ j) && decide (j < s.js.length)) && (s.js.getD j.toNat default).fixed)
def reQs (s : Str) (l : List Int) (q : List RT) (j : Int) : List (Option Rat) := if reOk s l q j = true then [(fX s l (rdAll q) j.toNat).map (- ·), (fY s l (rdAll q) j.toNat).map (- ·)] else [none]
end Go.Proofs.YticmgmemnpcbbaaGreat.Vm

namespace Go.Proofs.YticmgmemnpcbbaaGreat.Vm
open Go Go.Proofs
set_option linter.unusedSimpArgs false
set_option linter.unusedVariables false

/-- The number of free joints before joint i. -/
def idx (js : List J) (i : Nat) : Nat := (freesTo js i).length
def fxd (js : List J) (i : Nat) : Bool := (js.getD i default).fixed
/-- The list of displacements after t free joints. -/
def dAt (js : List J) (d : List (Option Rat)) (t p : Nat) : Option Rat := if fxd js (p / 2) = true then some 0 else if idx js (p / 2) < t then d.getD (2 * idx js (p / 2) + p % 2) none else some 0
def dsp (js : List J) (d : List (Option Rat)) (t : Nat) : List (Option Rat) := (List.range (2 * js.length)).map (dAt js d t)
@[simp] theorem dsp_length (js : List J) (d : List (Option Rat)) (t : Nat) : (dsp js d t).length = 2 * js.length := by simp [dsp]
theorem dsp_get (js : List J) (d : List (Option Rat)) (t p : Nat) (h : p < (dsp js d t).length) : (dsp js d t)[p] = dAt js d t p := by simp [dsp]
def dspF (js : List J) (d : List (Option Rat)) : List (Option Rat) := dsp js d (frees js).length
@[simp] theorem dspF_length (js : List J) (d : List (Option Rat)) : (dspF js d).length = 2 * js.length := dsp_length _ _ _
def dX (js : List J) (d : List (Option Rat)) (i : Nat) : Option Rat := if fxd js i = true then some 0 else d.getD (2 * idx js i) none
def dY (js : List J) (d : List (Option Rat)) (i : Nat) : Option Rat := if fxd js i = true then some 0 else d.getD (2 * idx js i + 1) none
def movOk (s : Str) (d : List RT) : Bool := (sOk s && decide (d.length = 2 * (frees s.js).length)) && allOk d
end Go.Proofs.YticmgmemnpcbbaaGreat.Vm

namespace Go.Proofs.YticmgmemnpcbbaaGreat.Vm
open Go Go.Proofs
set_option linter.unusedSimpArgs false
set_option linter.unusedVariables false

def sqOf (s : Str) (k : Int) : Int := IntKind.i64.wrap (IntKind.i64.wrap (vecX s k * vecX s k) + IntKind.i64.wrap (vecY s k * vecY s k))
end Go.Proofs.YticmgmemnpcbbaaGreat.Vm

namespace Go.Proofs.YticmgmemnpcbbaaGreat.Vm
open Go Go.Proofs
set_option linter.unusedSimpArgs false
set_option linter.unusedVariables false

/-- A number of a load. -/
def lat (l : List Int) (i : Nat) : Int := l.getD i 0
theorem iv_at {l : List Int} {i : Nat} (h : i < l.length) : (iv l)[i]? = some [.int .i64 (lat l i)] := by simp [lat, h]
structure LOk (s : Str) (l : List Int) : Prop where
  sok : SOk s
  n : l.length = 2 * s.js.length
  f : ∀ i, i < l.length → -100 ≤ lat l i ∧ lat l i ≤ 100
theorem fitsL_of {js : List J} {l : List Int} (h : fitsL js l = true) : l.length = 2 * js.length ∧ ∀ i, i < l.length → -100 ≤ lat l i ∧ lat l i ≤ 100 := by
  unfold fitsL at h
  simp only [Bool.and_eq_true, decide_eq_true_eq] at h
  refine ⟨h.1, fun i hi => ?_⟩
  have := List.all_eq_true.1 h.2 l[i] (List.getElem_mem hi)
  simp [forceOk] at this
  simpa [lat, hi] using this
theorem lOk_of {s : Str} {l : List Int} (h : lOk s l = true) : LOk s l := by
  unfold lOk at h
  simp only [Bool.and_eq_true] at h
  obtain ⟨h1, h2⟩ := fitsL_of h.2
  exact ⟨sOk_of h.1, h1, h2⟩

def sumX (l : List Int) : Nat → Int
  | 0 => 0
  | n + 1 => sumX l n + lat l (2 * n)
def sumY (l : List Int) : Nat → Int
  | 0 => 0
  | n + 1 => sumY l n + lat l (2 * n + 1)
def totX (s : Str) (l : List Int) : Int := if lOk s l = true then sumX l s.js.length else 0
def totY (s : Str) (l : List Int) : Int := if lOk s l = true then sumY l s.js.length else 0

def momTo (s : Str) (l : List Int) (x y : Int) : Nat → Int
  | 0 => 0
  | n + 1 => momTo s l x y n + ((jat s.js n).x - x) * lat l (2 * n + 1) - ((jat s.js n).y - y) * lat l (2 * n)
def momOk (s : Str) (l : List Int) (x y : Int) : Bool := lOk s l && (decide (-1000 ≤ x) && decide (x ≤ 1000)) && (decide (-1000 ≤ y) && decide (y ≤ 1000))
def momOf (s : Str) (l : List Int) (x y : Int) : Int := if momOk s l x y = true then momTo s l x y s.js.length else 0
end Go.Proofs.YticmgmemnpcbbaaGreat.Vm

namespace Go.Proofs.YticmgmemnpcbbaaGreat.Vm
open Go Go.Proofs
set_option linter.unusedSimpArgs false
set_option linter.unusedVariables false

theorem Index_ints_ro (l : List Int) (k : Int) (hl : l.length ≤ 140737488351232) : RO Tryz.prog 281 [.sl (iv l), .int .i64 k] (.int .i64 (ixf (fun x => decide (k = x)) l)) := by
  refine ro_of2 Tryz.func281 rfl rfl (by rw [Tryz.ntmps281]; simp) fun bl => ?_
  rw [Tryz.ntmps281, Tryz.results281]
  refine AW_run ?_
  simp
  refine AW_for (fun i : Nat => [(0, .sl (iv l)), (1, .int .i64 k), (7, .int .i64 l.length), (8, .int .i64 i)]) (fun _ => bl) (fun i => i ≤ l.length ∧ ∀ j (h1 : j < l.length), j < i → decide (k = l[j]) = false) (fun i => l.length - i) _ 0 ⟨Nat.zero_le _, fun j _ h0 => by omega⟩ ⟨rfl, by simp, Sub.refl _⟩ ?_
  intro i ⟨hi, hc⟩
  refine AW_run ?_
  simp
  refine ⟨fun h1 => ?_, fun h1 => ?_⟩
  · simp [h1]
    refine ⟨fun h2 => ?_, fun h2 => ?_⟩
    · exact retRO0 (by rw [ixf_here (p := fun x => decide (k = x)) h1 hc (by simpa using h2)]; simp) rfl rfl
    · simp (disch := omega) [i64_in, loopQ_normal]
      refine ⟨i + 1, ⟨by omega, fun j hj1 hji => ?_⟩, by omega, rfl, by simp, Sub.refl _⟩
      rcases Nat.lt_or_ge j i with hlt | hge
      · simpa using hc j hj1 hlt
      · obtain rfl : j = i := by omega
        simpa using h2
  · exact retRO0 (by rw [ixf_none (p := fun x => decide (k = x)) fun j hj => hc j hj (by omega)]; simp) rfl rfl

theorem any_eq (l : List Int) (k : Int) : (l.any fun x => decide (k = x)) = decide (k ∈ l) := by
  rw [Bool.eq_iff_iff]; simp

theorem Contains_ints_ro (l : List Int) (k : Int) (hl : l.length ≤ 140737488351232) : RO Tryz.prog 255 [.sl (iv l), .int .i64 k] (.bool (decide (k ∈ l))) := by
  refine ro_of2 Tryz.func255 rfl rfl (by rw [Tryz.ntmps255]; simp) fun bl => ?_
  rw [Tryz.ntmps255, Tryz.results255]
  refine AW_run ?_
  simp
  refine callP_ro (Index_ints_ro l k hl) ?_
  simp
  exact retRO0 (by simp [ixf_lt, any_eq]) rfl rfl

end Go.Proofs.YticmgmemnpcbbaaGreat.Vm

namespace Go.Proofs.YticmgmemnpcbbaaGreat.Vm
open Go Go.Proofs
set_option linter.unusedSimpArgs false
set_option linter.unusedVariables false

/-- The members before n whose numbers are not in a list. -/
def keptTo (ms : List Mb) (l : List Int) (n : Nat) : List Mb := ((List.range n).filter fun (i : Nat) => !decide ((i : Int) ∈ l)).map fun (i : Nat) => ms.getD i default
def without (s : Str) (l : List Int) : Str := ⟨s.js, keptTo s.ms l s.ms.length⟩

end Go.Proofs.YticmgmemnpcbbaaGreat.Vm

namespace Go.Proofs.YticmgmemnpcbbaaGreat.Vm
open Go Go.Proofs
set_option linter.unusedSimpArgs false
set_option linter.unusedVariables false

end Go.Proofs.YticmgmemnpcbbaaGreat.Vm

namespace Go.Proofs.YticmgmemnpcbbaaGreat.Vm
open Go Go.Proofs
set_option linter.unusedSimpArgs false
set_option linter.unusedVariables false

/-! ### Lists of lists of numbers -/
def ivv (ws : List (List Int)) : List (List V) := ws.map fun w => [.sl (iv w)]
def dII (ws : List (List Int)) : D := .s 1 (ws.map fun w => [fl 1 (iv w)])
@[simp] theorem ivv_length (ws : List (List Int)) : (ivv ws).length = ws.length := by simp [ivv]
@[simp] theorem ivv_getE (ws : List (List Int)) (i : Nat) (h : i < (ivv ws).length) : (ivv ws)[i] = [.sl (iv (ws[i]'(by simpa using h)))] := by simp [ivv]
theorem dII_fz (ws : List (List Int)) : (dII ws).fz = .sl (ivv ws) := by
  unfold dII ivv
  rw [D.fz, fzR_map, List.map_map]
  congr 1
  exact List.map_congr_left fun w _ => by simp
theorem dII_dep (ws : List (List Int)) : (dII ws).dep 2 := by
  unfold dII
  rw [D.dep]
  refine ⟨by omega, ?_⟩
  induction ws with
  | nil => simp [D.depR]
  | cons w ws ih => simp [D.depR, D.depL, fl_dep] at ih ⊢; exact ih
end Go.Proofs.YticmgmemnpcbbaaGreat.Vm

namespace Go.Proofs.YticmgmemnpcbbaaGreat.Vm
open Go Go.Proofs
set_option linter.unusedSimpArgs false
set_option linter.unusedVariables false

def rowX (s : Str) (j : Int) : List Int := s.ms.map (eqX s j)
def rowY (s : Str) (j : Int) : List Int := s.ms.map (eqY s j)
def eqRows (s : Str) : List (List Int) := (frees s.js).flatMap fun j => [rowX s j, rowY s j]
def eqTo (s : Str) (n : Nat) : List (List Int) := ((frees s.js).take n).flatMap fun j => [rowX s j, rowY s j]
theorem eqTo_succ (s : Str) (n : Nat) (h : n < (frees s.js).length) : eqTo s (n + 1) = eqTo s n ++ [rowX s (frees s.js)[n], rowY s (frees s.js)[n]] := by
  unfold eqTo
  rw [List.take_add_one, List.getElem?_eq_getElem h, List.flatMap_append]
  simp
theorem eqTo_length (s : Str) : ∀ n, n ≤ (frees s.js).length → (eqTo s n).length = 2 * n
  | 0, _ => by simp [eqTo]
  | n + 1, h => by
    rw [eqTo_succ s n (by omega), List.length_append, eqTo_length s n (by omega)]
    simp; omega
@[simp] theorem rowX_length (s : Str) (j : Int) : (rowX s j).length = s.ms.length := by simp [rowX]
@[simp] theorem rowY_length (s : Str) (j : Int) : (rowY s j).length = s.ms.length := by simp [rowY]
theorem mat_nat {s : Str} {k : Nat} (h : k < s.ms.length) : mat s k = s.ms[k] := by simp [mat, h]
theorem v_le {s : Str} (hs : SOk s) {m : Mb} (hm : m ∈ s.ms) : (-100 ≤ vx s m ∧ vx s m ≤ 100) ∧ (-100 ≤ vy s m ∧ vy s m ≤ 100) := by
  obtain ⟨⟨a1, a2⟩, ⟨b1, b2⟩⟩ := hs.ix _ hm
  have ca := hs.at a1 a2
  have cb := hs.at b1 b2
  unfold vx vy
  omega

structure GrowG where
  i : Nat
  g : Int
  els : List (List V)
  gs : List Int
  b : Int → Option Blk

theorem part_next (xs : List (List V)) (z : List V) (i : Nat) (h : i < xs.length) (hz : xs[i] = z) : part xs z i = part xs z (i + 1) := by
  rw [← part_set xs z i h z hz.symm]
  have := part_get xs z i h
  apply List.ext_getElem?
  intro j
  rw [List.getElem?_set]
  split
  · rename_i e; subst e; rw [if_pos (by rw [part_length]; exact h)]; exact this
  · rfl

def eqInv (bl : Int → Option Blk) (s : Str) (p : GrowG) : Prop :=
  p.i ≤ (frees s.js).length ∧ p.b p.g = some ⟨1, p.els⟩ ∧ p.els.length = 2 * p.i ∧ OwnR p.b 1 ((eqTo s p.i).map fun w => [fl 1 (iv w)]) p.els p.gs ∧ p.g ∉ p.gs ∧ bl p.g = none ∧ (∀ x, x ∈ p.gs → bl x = none) ∧ Sub bl p.b ∧ (p.g < 0 → p.els = [])

theorem eqInv_next {bl : Int → Option Blk} {s : Str} {i : Nat} {g : Int} {els : List (List V)} {gs : List Int} {b : Int → Option Blk} (H : eqInv bl s ⟨i, g, els, gs, b⟩) (h : i < (frees s.js).length)
    {ga gb gp gn : Int} (hga : 0 ≤ ga) (hba : b ga = none) (hgb : 0 ≤ gb) (hab : ¬gb = ga) (hbb : b gb = none) (hpa : ¬gp = ga) (hpb : ¬gp = gb) (hbp : b gp = none) (hgn : 0 ≤ gn)
    (hbn : ¬gn = g → ¬gn = gp ∧ ¬gn = gb ∧ ¬gn = ga ∧ b gn = none) :
    eqInv bl s ⟨i + 1, gn, els ++ [[.lsl ga 1 0 s.ms.length]] ++ [[.lsl gb 1 0 s.ms.length]], gs ++ [ga] ++ [gb],
      upd (rem (upd (upd (upd b ga (some ⟨1, iv (rowX s (frees s.js)[i])⟩)) gb (some ⟨1, iv (rowY s (frees s.js)[i])⟩)) gp (some ⟨1, [[.lsl ga 1 0 s.ms.length], [.lsl gb 1 0 s.ms.length]]⟩)) g) gn
        (some ⟨1, els.take (2 * i) ++ [[.lsl ga 1 0 s.ms.length], [.lsl gb 1 0 s.ms.length]]⟩)⟩ := by
  obtain ⟨hi, hb, hel, ho, hn, hg, hf, hsb, hneg⟩ := H
  simp only at hi hb hel ho hn hg hf hsb hneg
  have nga : ga ≠ g := fun e => by rw [e, hb] at hba; cases hba
  have ngb : gb ≠ g := fun e => by rw [e, hb] at hbb; cases hbb
  have ngp : gp ≠ g := fun e => by rw [e, hb] at hbp; cases hbp
  have fa := fresh_of hsb hba
  have fb := fresh_of hsb hbb
  have fp := fresh_of hsb hbp
  have na : gn ≠ ga := fun e => by
    by_cases c : gn = g
    · exact nga (e.symm.trans c)
    · exact (hbn c).2.2.1 e
  have nb : gn ≠ gb := fun e => by
    by_cases c : gn = g
    · exact ngb (e.symm.trans c)
    · exact (hbn c).2.1 e
  have fn : bl gn = none := by
    by_cases c : gn = g
    · rw [c]; exact hg
    · exact fresh_of hsb (hbn c).2.2.2
  have nn : gn ∉ gs := by
    by_cases c : gn = g
    · rw [c]; exact hn
    · exact ho.not (hbn c).2.2.2
  have key : ∀ (B : Int → Option Blk) (u v w z : Option Blk), B = upd (rem (upd (upd (upd b ga u) gb v) gp w) g) gn z → ∀ x y, x ≠ g → x ≠ gn → b x = some y → B x = some y := by
    intro B u v w z hB x y c1 c2 hx
    have c3 : x ≠ ga := fun e => by rw [e, hba] at hx; cases hx
    have c4 : x ≠ gb := fun e => by rw [e, hbb] at hx; cases hx
    have c5 : x ≠ gp := fun e => by rw [e, hbp] at hx; cases hx
    rw [hB]; simp [c1, c2, c3, c4, c5, hx]
  have vx1 : ∀ xs : List Int, (iv xs).all (fun r => r.all V.cl) = true := fun xs => by simp [iv, V.cl]
  have vx2 : ∀ (xs : List Int) r, r ∈ iv xs → r.length = 1 := fun xs r hr => by
    simp [iv] at hr
    obtain ⟨_, _, rfl⟩ := hr; rfl
  have et : els.take (2 * i) = els := List.take_of_length_le (by omega)
  refine ⟨by simp only; omega, by simp [et], by simp [hel]; omega, ?_, ?_, fn, ?_, ?_, fun e => by simp only at e; omega⟩
  · simp only
    rw [eqTo_succ s i h, List.map_append, show (∀ (A : List (List D)) (x y : List Int), A ++ [x, y].map (fun w => [fl 1 (iv w)]) = A ++ [[fl 1 (iv x)]] ++ [[fl 1 (iv y)]]) from fun A x y => by simp]
    generalize hB : upd (rem (upd (upd (upd b ga (some ⟨1, iv (rowX s (frees s.js)[i])⟩)) gb (some ⟨1, iv (rowY s (frees s.js)[i])⟩)) gp (some ⟨1, [[.lsl ga 1 0 s.ms.length], [.lsl gb 1 0 s.ms.length]]⟩)) g) gn
        (some ⟨1, els.take (2 * i) ++ [[.lsl ga 1 0 s.ms.length], [.lsl gb 1 0 s.ms.length]]⟩) = B
    have o0 := ho.keep fun x hx y hy => key _ _ _ _ _ hB.symm x y (fun e => hn (e ▸ hx)) (fun e => nn (e ▸ hx)) hy
    have oa : OwnD B (fl 1 (iv (rowX s (frees s.js)[i]))) (.lsl ga 1 0 s.ms.length) [ga] := (own_fl (vx1 _) (vx2 _)).2 (.inr ⟨ga, by simp, rfl, by rw [← hB]; simp [Ne.symm na, Ne.symm hpa, Ne.symm hab, nga], by omega⟩)
    have ob : OwnD B (fl 1 (iv (rowY s (frees s.js)[i]))) (.lsl gb 1 0 s.ms.length) [gb] := (own_fl (vx1 _) (vx2 _)).2 (.inr ⟨gb, by simp, rfl, by rw [← hB]; simp [Ne.symm nb, Ne.symm hpb, ngb], by omega⟩)
    refine OwnR.snoc (own_single.2 ob) rfl (by simp) (OwnR.snoc (own_single.2 oa) rfl (by simp) o0 ?_) ?_
    · intro x hx hx2
      rw [List.mem_singleton] at hx2
      exact ho.not hba (hx2 ▸ hx)
    · intro x hx hx2
      rw [List.mem_singleton] at hx2
      subst hx2
      rcases List.mem_append.1 hx with hx | hx
      · exact ho.not hbb hx
      · rw [List.mem_singleton] at hx; exact hab hx
  · simp [nn, na, nb]
  · intro x hx
    simp at hx
    rcases hx with hx | hx | hx
    · exact hf x hx
    · rw [hx]; exact fa
    · rw [hx]; exact fb
  · intro x y hx
    exact key _ _ _ _ _ rfl x y (fun e => by rw [e, hg] at hx; cases hx) (fun e => by rw [e, fn] at hx; cases hx) (hsb x y hx)

set_option maxHeartbeats 2000000 in
theorem equilibrium_nw (s : Str) (hs : SOk s) : NW Tryz.prog 148 [.ptr s.c] (dII (eqRows s)) := by
  have h6 := hs.nj
  have h8 := hs.nm
  have hfr := freesTo_le s.js s.js.length
  change (frees s.js).length ≤ s.js.length at hfr
  refine nw_of Tryz.func148 rfl rfl (by rw [Tryz.ntmps148]; simp) fun bl => ?_
  rw [Tryz.ntmps148, Tryz.results148]
  refine AW_run ?_
  simp
  refine callP_ro (freeJoints_ro s (by omega)) ?_
  simp
  refine AW_ghost 3 1 (by simp) fun g00 hg00 => ?_
  simp at hg00
  refine AW_for (fun p : GrowG => [(0, .ptr s.c), (3, .lsl p.g 1 0 (2 * p.i)), (13, .sl (iv (frees s.js))), (14, .int .i64 (frees s.js).length), (15, .int .i64 p.i)]) (fun p => p.b)
    (eqInv bl s)
    (fun p => (frees s.js).length - p.i) 82 ⟨0, g00, [], [], upd bl g00 (some ⟨1, []⟩)⟩ ⟨Nat.zero_le _, by simp, rfl, by simp [eqTo, OwnR], by simp, hg00, by simp, by simp [hg00], fun _ => rfl⟩ ⟨rfl, by simp, by simp⟩ ?_
  rintro ⟨i, g, els, gs, b⟩ ⟨hi, hb, hel, ho, hn, hg, hf, hsb, hneg⟩
  simp only at hi hb hel ho hn hg hf hsb hneg
  refine AW_run ?_
  simp
  refine ⟨fun h => ?_, fun h => ?_⟩
  · have q := iv_get (frees s.js) i h
    simp [h]
    obtain ⟨j, hj⟩ : ∃ j, (frees s.js)[i] = j := ⟨_, rfl⟩
    rw [hj]
    refine AW_mixed mixedO [0, 1, 2, 3, 4, 6, 7, 8, 9, 10] 4 (by kernel_rfl) ?_
    simp [Str.c]
    refine DAny_two (i := 5) (j := 11) (by kernel_rfl) rfl rfl rfl rfl ?_ ?_
    · simp
      refine ⟨by omega, by unfold maxLen; omega, fun ga hga hba => ⟨by simp [hba], ?_⟩⟩
      refine DAny_two (i := 11) (j := 12) (by kernel_rfl) rfl rfl rfl rfl ?_ ?_
      · simp
        refine ⟨by omega, by unfold maxLen; omega, fun gb hgb hab hbb => ⟨by simp [hba, hbb, hab], ?_⟩⟩
        refine DAny_one (i := 12) (by kernel_rfl) rfl rfl ?_
        simp
        refine ⟨by simp [hba, hbb, hab], DAny_one (i := 13) (by kernel_rfl) rfl rfl ?_⟩
        simp
        refine ⟨by simp [hba, hbb, hab], DAny_done (by kernel_rfl) ?_⟩
        simp [Str.c]
        -- the state behind the region
        have nga : ga ≠ g := fun e => by rw [e, hb] at hba; cases hba
        have ngb : gb ≠ g := fun e => by rw [e, hb] at hbb; cases hbb
        have fa := fresh_of hsb hba
        have fb := fresh_of hsb hbb
        have er : List.replicate s.ms.length [V.int IntKind.i64 0] = part (iv (rowX s j)) [.int .i64 0] 0 := by simp
        have er' : List.replicate s.ms.length [V.int IntKind.i64 0] = part (iv (rowY s j)) [.int .i64 0] 0 := by simp
        refine AW_for (fun k : Nat => [(0, .ptr s.c), (3, .lsl g 1 0 (2 * i)), (5, .int .i64 j), (6, .lsl ga 1 0 s.ms.length), (7, .lsl gb 1 0 s.ms.length), (13, .sl (iv (frees s.js))), (14, .int .i64 (frees s.js).length), (15, .int .i64 i), (34, .sl (mv s.ms)), (35, .int .i64 s.ms.length), (36, .int .i64 k)])
          (fun k => upd (upd b ga (some ⟨1, part (iv (rowX s j)) [.int .i64 0] k⟩)) gb (some ⟨1, part (iv (rowY s j)) [.int .i64 0] k⟩)) (fun k => k ≤ s.ms.length) (fun k => s.ms.length - k) 82 0 (Nat.zero_le _) ⟨rfl, by simp [Str.c], ?_⟩ ?_
        · intro x y hx
          simp only [upd_apply, part_zero, iv_length, rowX_length, rowY_length] at hx ⊢
          grind
        intro k hk
        refine AW_run ?_
        simp
        refine ⟨fun hkl => ?_, fun hkl => ?_⟩
        · have hv := v_le hs (List.getElem_mem hkl)
          have hm : mat s (k : Int) = s.ms[k] := mat_nat hkl
          have hvec := vector_ro s k hs (by omega) (by omega)
          rw [hm] at hvec
          have hx : k < (iv (rowX s j)).length := by simpa using hkl
          have hy : k < (iv (rowY s j)).length := by simpa using hkl
          have w1 : IntKind.i64.wrap ((k : Int) + 1) = k + 1 := i64_in (by omega) (by omega)
          have nx : IntKind.i64.wrap (-vx s s.ms[k]) = -vx s s.ms[k] := i64_in (by omega) (by omega)
          have ny : IntKind.i64.wrap (-vy s s.ms[k]) = -vy s s.ms[k] := i64_in (by omega) (by omega)
          have px := part_get (iv (rowX s j)) [.int .i64 0] k hx
          have py := part_get (iv (rowY s j)) [.int .i64 0] k hy
          simp [hkl, Mb.c]
          intro g9 hg9 h9b h9a hb9
          refine callP_ro hvec ?_
          simp
          refine ⟨fun e1 => ?_, fun e1 => ?_⟩
          · simp [hab, Ne.symm hab, h9a, h9b, Ne.symm h9a, Ne.symm h9b, hkl, px, py, w1, loopQ_normal]
            have sx := part_set (iv (rowX s j)) [.int .i64 0] k hx [.int .i64 (vx s s.ms[k])] (by simp [rowX, eqX, e1])
            have sy := part_set (iv (rowY s j)) [.int .i64 0] k hy [.int .i64 (vy s s.ms[k])] (by simp [rowY, eqY, e1])
            refine ⟨k + 1, by omega, by omega, rfl, by simp, ?_⟩
            intro x y hx'
            rw [← sx, ← sy] at hx'
            simp only [upd_apply] at hx' ⊢
            grind
          · simp [hab, Ne.symm hab, h9a, h9b, Ne.symm h9a, Ne.symm h9b, hkl, px, py, w1, nx, ny, loopQ_normal]
            refine ⟨fun e2 => ?_, fun e2 => ?_⟩
            · have fx : eqX s j s.ms[k] = -vx s s.ms[k] := by rw [eqX, if_neg e1, if_pos e2]
              have fy : eqY s j s.ms[k] = -vy s s.ms[k] := by rw [eqY, if_neg e1, if_pos e2]
              have sx := part_set (iv (rowX s j)) [.int .i64 0] k hx [.int .i64 (-vx s s.ms[k])] (by simp [rowX, fx])
              have sy := part_set (iv (rowY s j)) [.int .i64 0] k hy [.int .i64 (-vy s s.ms[k])] (by simp [rowY, fy])
              refine ⟨k + 1, by omega, by omega, rfl, by simp, ?_⟩
              intro x y hx'
              rw [← sx, ← sy] at hx'
              simp only [upd_apply] at hx' ⊢
              grind
            · have sx := part_next (iv (rowX s j)) [.int .i64 0] k hx (by simp [rowX, eqX, e1, e2])
              have sy := part_next (iv (rowY s j)) [.int .i64 0] k hy (by simp [rowY, eqY, e1, e2])
              refine ⟨k + 1, by omega, by omega, rfl, by simp, ?_⟩
              intro x y hx'
              rw [← sx, ← sy] at hx'
              simp only [upd_apply] at hx' ⊢
              grind
        · have : k = s.ms.length := by omega
          subst this
          rw [part_all _ _ _ (by simp), part_all _ _ _ (by simp)]
          intro gp hgp hpb hpa hbp
          have npg : gp ≠ g := fun e => by rw [e, hb] at hbp; cases hbp
          have er2 : List.range 2 = [0, 1] := rfl
          simp [er2, appV, elsV, Int.not_lt.2 hgp, hpb, hpa, Ne.symm hpb, Ne.symm hpa, nga, ngb, Ne.symm nga, Ne.symm ngb, npg, Ne.symm npg, hb, hel]
          refine ⟨by omega, fun gn hgn hbn => ?_⟩
          have w9 : IntKind.i64.wrap ((i : Int) + 1) = i + 1 := i64_in (by omega) (by omega)
          rw [loopQ_normal]
          subst hj
          have nx := eqInv_next ⟨hi, hb, hel, ho, hn, hg, hf, hsb, hneg⟩ h hga hba hgb hab hbb hpa hpb hbp hgn hbn
          refine ⟨_, nx, by simp only; omega, rfl, ?_, sub_eq rfl⟩
          simp [w9]; exact ⟨rfl, by omega⟩
      · simp
        refine ⟨by simp [hba], DAny_one (i := 11) (by kernel_rfl) rfl rfl ?_⟩
        simp
        refine ⟨by omega, by unfold maxLen; omega, fun gb hgb hab hbb => ⟨by simp [hba, hbb, hab], ?_⟩⟩
        refine DAny_one (i := 13) (by kernel_rfl) rfl rfl ?_
        simp
        refine ⟨by simp [hba, hbb, hab], DAny_done (by kernel_rfl) ?_⟩
        simp [Str.c]
        -- the state behind the region
        have nga : ga ≠ g := fun e => by rw [e, hb] at hba; cases hba
        have ngb : gb ≠ g := fun e => by rw [e, hb] at hbb; cases hbb
        have fa := fresh_of hsb hba
        have fb := fresh_of hsb hbb
        have er : List.replicate s.ms.length [V.int IntKind.i64 0] = part (iv (rowX s j)) [.int .i64 0] 0 := by simp
        have er' : List.replicate s.ms.length [V.int IntKind.i64 0] = part (iv (rowY s j)) [.int .i64 0] 0 := by simp
        refine AW_for (fun k : Nat => [(0, .ptr s.c), (3, .lsl g 1 0 (2 * i)), (5, .int .i64 j), (6, .lsl ga 1 0 s.ms.length), (7, .lsl gb 1 0 s.ms.length), (13, .sl (iv (frees s.js))), (14, .int .i64 (frees s.js).length), (15, .int .i64 i), (34, .sl (mv s.ms)), (35, .int .i64 s.ms.length), (36, .int .i64 k)])
          (fun k => upd (upd b ga (some ⟨1, part (iv (rowX s j)) [.int .i64 0] k⟩)) gb (some ⟨1, part (iv (rowY s j)) [.int .i64 0] k⟩)) (fun k => k ≤ s.ms.length) (fun k => s.ms.length - k) 82 0 (Nat.zero_le _) ⟨rfl, by simp [Str.c], ?_⟩ ?_
        · intro x y hx
          simp only [upd_apply, part_zero, iv_length, rowX_length, rowY_length] at hx ⊢
          grind
        intro k hk
        refine AW_run ?_
        simp
        refine ⟨fun hkl => ?_, fun hkl => ?_⟩
        · have hv := v_le hs (List.getElem_mem hkl)
          have hm : mat s (k : Int) = s.ms[k] := mat_nat hkl
          have hvec := vector_ro s k hs (by omega) (by omega)
          rw [hm] at hvec
          have hx : k < (iv (rowX s j)).length := by simpa using hkl
          have hy : k < (iv (rowY s j)).length := by simpa using hkl
          have w1 : IntKind.i64.wrap ((k : Int) + 1) = k + 1 := i64_in (by omega) (by omega)
          have nx : IntKind.i64.wrap (-vx s s.ms[k]) = -vx s s.ms[k] := i64_in (by omega) (by omega)
          have ny : IntKind.i64.wrap (-vy s s.ms[k]) = -vy s s.ms[k] := i64_in (by omega) (by omega)
          have px := part_get (iv (rowX s j)) [.int .i64 0] k hx
          have py := part_get (iv (rowY s j)) [.int .i64 0] k hy
          simp [hkl, Mb.c]
          intro g9 hg9 h9b h9a hb9
          refine callP_ro hvec ?_
          simp
          refine ⟨fun e1 => ?_, fun e1 => ?_⟩
          · simp [hab, Ne.symm hab, h9a, h9b, Ne.symm h9a, Ne.symm h9b, hkl, px, py, w1, loopQ_normal]
            have sx := part_set (iv (rowX s j)) [.int .i64 0] k hx [.int .i64 (vx s s.ms[k])] (by simp [rowX, eqX, e1])
            have sy := part_set (iv (rowY s j)) [.int .i64 0] k hy [.int .i64 (vy s s.ms[k])] (by simp [rowY, eqY, e1])
            refine ⟨k + 1, by omega, by omega, rfl, by simp, ?_⟩
            intro x y hx'
            rw [← sx, ← sy] at hx'
            simp only [upd_apply] at hx' ⊢
            grind
          · simp [hab, Ne.symm hab, h9a, h9b, Ne.symm h9a, Ne.symm h9b, hkl, px, py, w1, nx, ny, loopQ_normal]
            refine ⟨fun e2 => ?_, fun e2 => ?_⟩
            · have fx : eqX s j s.ms[k] = -vx s s.ms[k] := by rw [eqX, if_neg e1, if_pos e2]
              have fy : eqY s j s.ms[k] = -vy s s.ms[k] := by rw [eqY, if_neg e1, if_pos e2]
              have sx := part_set (iv (rowX s j)) [.int .i64 0] k hx [.int .i64 (-vx s s.ms[k])] (by simp [rowX, fx])
              have sy := part_set (iv (rowY s j)) [.int .i64 0] k hy [.int .i64 (-vy s s.ms[k])] (by simp [rowY, fy])
              refine ⟨k + 1, by omega, by omega, rfl, by simp, ?_⟩
              intro x y hx'
              rw [← sx, ← sy] at hx'
              simp only [upd_apply] at hx' ⊢
              grind
            · have sx := part_next (iv (rowX s j)) [.int .i64 0] k hx (by simp [rowX, eqX, e1, e2])
              have sy := part_next (iv (rowY s j)) [.int .i64 0] k hy (by simp [rowY, eqY, e1, e2])
              refine ⟨k + 1, by omega, by omega, rfl, by simp, ?_⟩
              intro x y hx'
              rw [← sx, ← sy] at hx'
              simp only [upd_apply] at hx' ⊢
              grind
        · have : k = s.ms.length := by omega
          subst this
          rw [part_all _ _ _ (by simp), part_all _ _ _ (by simp)]
          intro gp hgp hpb hpa hbp
          have npg : gp ≠ g := fun e => by rw [e, hb] at hbp; cases hbp
          have er2 : List.range 2 = [0, 1] := rfl
          simp [er2, appV, elsV, Int.not_lt.2 hgp, hpb, hpa, Ne.symm hpb, Ne.symm hpa, nga, ngb, Ne.symm nga, Ne.symm ngb, npg, Ne.symm npg, hb, hel]
          refine ⟨by omega, fun gn hgn hbn => ?_⟩
          have w9 : IntKind.i64.wrap ((i : Int) + 1) = i + 1 := i64_in (by omega) (by omega)
          rw [loopQ_normal]
          subst hj
          have nx := eqInv_next ⟨hi, hb, hel, ho, hn, hg, hf, hsb, hneg⟩ h hga hba hgb hab hbb hpa hpb hbp hgn hbn
          refine ⟨_, nx, by simp only; omega, rfl, ?_, sub_eq rfl⟩
          simp [w9]; exact ⟨rfl, by omega⟩
    · simp
      refine ⟨by omega, by unfold maxLen; omega, fun gb hgb hbb => ⟨by simp [hbb], ?_⟩⟩
      refine DAny_one (i := 5) (by kernel_rfl) rfl rfl ?_
      simp
      refine ⟨by omega, by unfold maxLen; omega, fun ga hga hab hba => ⟨by simp [hba, hbb, hab], ?_⟩⟩
      refine DAny_one (i := 12) (by kernel_rfl) rfl rfl ?_
      simp
      refine ⟨by simp [hba, hbb, hab], DAny_one (i := 13) (by kernel_rfl) rfl rfl ?_⟩
      simp
      refine ⟨by simp [hba, hbb, hab], DAny_done (by kernel_rfl) ?_⟩
      simp [Str.c]
      -- the state behind the region
      have nga : ga ≠ g := fun e => by rw [e, hb] at hba; cases hba
      have ngb : gb ≠ g := fun e => by rw [e, hb] at hbb; cases hbb
      have fa := fresh_of hsb hba
      have fb := fresh_of hsb hbb
      have er : List.replicate s.ms.length [V.int IntKind.i64 0] = part (iv (rowX s j)) [.int .i64 0] 0 := by simp
      have er' : List.replicate s.ms.length [V.int IntKind.i64 0] = part (iv (rowY s j)) [.int .i64 0] 0 := by simp
      refine AW_for (fun k : Nat => [(0, .ptr s.c), (3, .lsl g 1 0 (2 * i)), (5, .int .i64 j), (6, .lsl ga 1 0 s.ms.length), (7, .lsl gb 1 0 s.ms.length), (13, .sl (iv (frees s.js))), (14, .int .i64 (frees s.js).length), (15, .int .i64 i), (34, .sl (mv s.ms)), (35, .int .i64 s.ms.length), (36, .int .i64 k)])
        (fun k => upd (upd b ga (some ⟨1, part (iv (rowX s j)) [.int .i64 0] k⟩)) gb (some ⟨1, part (iv (rowY s j)) [.int .i64 0] k⟩)) (fun k => k ≤ s.ms.length) (fun k => s.ms.length - k) 82 0 (Nat.zero_le _) ⟨rfl, by simp [Str.c], ?_⟩ ?_
      · intro x y hx
        simp only [upd_apply, part_zero, iv_length, rowX_length, rowY_length] at hx ⊢
        grind
      intro k hk
      refine AW_run ?_
      simp
      refine ⟨fun hkl => ?_, fun hkl => ?_⟩
      · have hv := v_le hs (List.getElem_mem hkl)
        have hm : mat s (k : Int) = s.ms[k] := mat_nat hkl
        have hvec := vector_ro s k hs (by omega) (by omega)
        rw [hm] at hvec
        have hx : k < (iv (rowX s j)).length := by simpa using hkl
        have hy : k < (iv (rowY s j)).length := by simpa using hkl
        have w1 : IntKind.i64.wrap ((k : Int) + 1) = k + 1 := i64_in (by omega) (by omega)
        have nx : IntKind.i64.wrap (-vx s s.ms[k]) = -vx s s.ms[k] := i64_in (by omega) (by omega)
        have ny : IntKind.i64.wrap (-vy s s.ms[k]) = -vy s s.ms[k] := i64_in (by omega) (by omega)
        have px := part_get (iv (rowX s j)) [.int .i64 0] k hx
        have py := part_get (iv (rowY s j)) [.int .i64 0] k hy
        simp [hkl, Mb.c]
        intro g9 hg9 h9b h9a hb9
        refine callP_ro hvec ?_
        simp
        refine ⟨fun e1 => ?_, fun e1 => ?_⟩
        · simp [hab, Ne.symm hab, h9a, h9b, Ne.symm h9a, Ne.symm h9b, hkl, px, py, w1, loopQ_normal]
          have sx := part_set (iv (rowX s j)) [.int .i64 0] k hx [.int .i64 (vx s s.ms[k])] (by simp [rowX, eqX, e1])
          have sy := part_set (iv (rowY s j)) [.int .i64 0] k hy [.int .i64 (vy s s.ms[k])] (by simp [rowY, eqY, e1])
          refine ⟨k + 1, by omega, by omega, rfl, by simp, ?_⟩
          intro x y hx'
          rw [← sx, ← sy] at hx'
          simp only [upd_apply] at hx' ⊢
          grind
        · simp [hab, Ne.symm hab, h9a, h9b, Ne.symm h9a, Ne.symm h9b, hkl, px, py, w1, nx, ny, loopQ_normal]
          refine ⟨fun e2 => ?_, fun e2 => ?_⟩
          · have fx : eqX s j s.ms[k] = -vx s s.ms[k] := by rw [eqX, if_neg e1, if_pos e2]
            have fy : eqY s j s.ms[k] = -vy s s.ms[k] := by rw [eqY, if_neg e1, if_pos e2]
            have sx := part_set (iv (rowX s j)) [.int .i64 0] k hx [.int .i64 (-vx s s.ms[k])] (by simp [rowX, fx])
            have sy := part_set (iv (rowY s j)) [.int .i64 0] k hy [.int .i64 (-vy s s.ms[k])] (by simp [rowY, fy])
            refine ⟨k + 1, by omega, by omega, rfl, by simp, ?_⟩
            intro x y hx'
            rw [← sx, ← sy] at hx'
            simp only [upd_apply] at hx' ⊢
            grind
          · have sx := part_next (iv (rowX s j)) [.int .i64 0] k hx (by simp [rowX, eqX, e1, e2])
            have sy := part_next (iv (rowY s j)) [.int .i64 0] k hy (by simp [rowY, eqY, e1, e2])
            refine ⟨k + 1, by omega, by omega, rfl, by simp, ?_⟩
            intro x y hx'
            rw [← sx, ← sy] at hx'
            simp only [upd_apply] at hx' ⊢
            grind
      · have : k = s.ms.length := by omega
        subst this
        rw [part_all _ _ _ (by simp), part_all _ _ _ (by simp)]
        intro gp hgp hpb hpa hbp
        have npg : gp ≠ g := fun e => by rw [e, hb] at hbp; cases hbp
        have er2 : List.range 2 = [0, 1] := rfl
        simp [er2, appV, elsV, Int.not_lt.2 hgp, hpb, hpa, Ne.symm hpb, Ne.symm hpa, nga, ngb, Ne.symm nga, Ne.symm ngb, npg, Ne.symm npg, hb, hel]
        refine ⟨by omega, fun gn hgn hbn => ?_⟩
        have w9 : IntKind.i64.wrap ((i : Int) + 1) = i + 1 := i64_in (by omega) (by omega)
        rw [loopQ_normal]
        subst hj
        have nx := eqInv_next ⟨hi, hb, hel, ho, hn, hg, hf, hsb, hneg⟩ h hga hba hgb (Ne.symm hab) hbb hpa hpb hbp hgn hbn
        refine ⟨_, nx, by simp only; omega, rfl, ?_, sub_eq rfl⟩
        simp [w9]; exact ⟨rfl, by omega⟩
  · have : i = (frees s.js).length := by omega
    subst this
    refine retNW [.lsl g 1 0 (2 * (frees s.js).length)] (g :: gs) (by simp) ?_ ?_ hsb
    · unfold dII
      rw [OwnD]
      have e : eqRows s = eqTo s (frees s.js).length := by simp [eqTo, eqRows]
      refine .inr ⟨g, els, gs, by rw [e, List.length_map, eqTo_length s _ (Nat.le_refl _)]; rfl, rfl, hn, hb, hneg, ?_⟩
      rw [e]; exact ho
    · intro x hx
      rcases List.mem_cons.1 hx with rfl | hx
      · exact hg
      · exact hf x hx

end Go.Proofs.YticmgmemnpcbbaaGreat.Vm

namespace Go.Proofs.YticmgmemnpcbbaaGreat.Vm
open Go Go.Proofs
set_option linter.unusedSimpArgs false
set_option linter.unusedVariables false

def colK (m : Mb) (k : Nat) : List (Int × Int) := (if m.kind = 2 then [] else [((k : Int), 1)]) ++ (if m.kind = 1 then [] else [((k : Int), -1)])
def colsTo (ms : List Mb) (n : Nat) : List (Int × Int) := (List.range n).flatMap fun k => colK (ms.getD k default) k
def cols (ms : List Mb) : List (Int × Int) := colsTo ms ms.length
def cv (cs : List (Int × Int)) : List (List V) := cs.map fun p => [.int .i64 p.1, .int .i64 p.2]
theorem colsTo_succ (ms : List Mb) (n : Nat) : colsTo ms (n + 1) = colsTo ms n ++ colK (ms.getD n default) n := by
  unfold colsTo
  rw [List.range_succ, List.flatMap_append]; simp
theorem colK_le (m : Mb) (k : Nat) : (colK m k).length ≤ 2 := by
  unfold colK; split <;> split <;> simp
theorem colsTo_le (ms : List Mb) : ∀ n, (colsTo ms n).length ≤ 2 * n
  | 0 => by simp [colsTo]
  | n + 1 => by
    rw [colsTo_succ, List.length_append]
    have := colsTo_le ms n
    have := colK_le (ms.getD n default) n
    omega
theorem cv_append (a b : List (Int × Int)) : cv (a ++ b) = cv a ++ cv b := by simp [cv]
@[simp] theorem cv_length (a : List (Int × Int)) : (cv a).length = a.length := by simp [cv]
theorem cv_takeall (a : List (Int × Int)) : (cv a).take a.length = cv a := by rw [← cv_length a, List.take_length]
theorem cv_cl (a : List (Int × Int)) : (cv a).all (fun e => e.all V.cl) = true := by simp [cv, V.cl]
theorem cv_clen (a : List (Int × Int)) : ∀ r, r ∈ cv a → r.length = 2 := by
  intro r hr
  obtain ⟨n, _, rfl⟩ := List.mem_map.1 hr
  rfl
theorem own_cv {bl : Int → Option Blk} {ns : List (Int × Int)} {v : V} {gs : List Int} : OwnD bl (fl 2 (cv ns)) v gs ↔ (ns = [] ∧ v = .nils ∧ gs = []) ∨ ∃ g, v = .lsl g 2 0 ns.length ∧ gs = [g] ∧ bl g = some ⟨2, cv ns⟩ ∧ (g < 0 → ns = []) := by
  rw [own_fl (cv_cl ns) (cv_clen ns)]
  simp [cv]

theorem columns_nw (s : Str) (hm : s.ms.length ≤ 8) : NW Tryz.prog 146 [.ptr s.c] (fl 2 (cv (cols s.ms))) := by
  refine nw_of Tryz.func146 rfl rfl (by rw [Tryz.ntmps146]; simp) fun bl => ?_
  rw [Tryz.ntmps146, Tryz.results146]
  refine AW_run ?_
  simp [Str.c]
  refine AW_ghost 3 2 (by simp) fun g00 hg00 => ?_
  refine AW_for (fun p : Nat × Int => [(3, .lsl p.2 2 0 (colsTo s.ms p.1).length), (9, .sl (mv s.ms)), (10, .int .i64 s.ms.length), (11, .int .i64 p.1)]) (fun p => upd bl p.2 (some ⟨2, cv (colsTo s.ms p.1)⟩)) (fun p => p.1 ≤ s.ms.length ∧ bl p.2 = none ∧ (p.2 < 0 → colsTo s.ms p.1 = [])) (fun p => s.ms.length - p.1) _ (0, g00) ⟨Nat.zero_le _, hg00, fun _ => rfl⟩ ⟨rfl, by simp [colsTo], sub_eq (by simp [colsTo, cv])⟩ ?_
  rintro ⟨i, g⟩ ⟨hi, hg, h0⟩
  simp only at hi hg h0
  have hl := colsTo_le s.ms i
  refine AW_run ?_
  simp
  refine ⟨fun h => ?_, fun h => ?_⟩
  · have w1 : IntKind.i64.wrap ((i : Int) + 1) = i + 1 := i64_in (by omega) (by omega)
    have hsc := colsTo_succ s.ms i
    rw [getD_at _ _ _ h] at hsc
    simp [h, Mb.c]
    intro g1 hg1 h1g hb1
    refine ⟨fun hf => ?_, fun hf => ?_⟩
    · intro g2 hg2 h21 h2g hb2
      simp [h1g, h21, h2g, Ne.symm h1g, Ne.symm h21, Ne.symm h2g, appV, elsV, Int.not_lt.2 hg2]
      refine ⟨by omega, fun g3 hg3 hb3 => ?_⟩
      have h31 : g3 ≠ g1 := by grind
      have hb3' : bl g3 = none := by grind
      simp [h31, Ne.symm h31, h1g, h21, Ne.symm h1g, Ne.symm h21]
      refine ⟨fun hf2 => ?_, fun hf2 => ?_⟩
      · intro g4 hg4 h43 h42
        simp [h43, Ne.symm h43, h31, Ne.symm h31, appV, elsV, Int.not_lt.2 hg4]
        refine ⟨by omega, fun g5 hg5 hb5 => ?_⟩
        have hb5' : bl g5 = none := by grind
        have hb4 : bl g4 = none := by grind
        have hs1 : colsTo s.ms (i + 1) = colsTo s.ms i ++ [((i : Int), 1)] ++ [((i : Int), -1)] := by rw [hsc, colK, if_neg hf, if_neg hf2, List.append_assoc]
        simp [w1, loopQ_normal]
        refine ⟨i + 1, g5, ⟨by omega, hb5', by omega⟩, by omega, rfl, by simp [hs1], ?_⟩
        rw [hs1, cv_append, cv_append]
        exact sub_put (by rw [cv_takeall, List.take_of_length_le (by simp)]; rfl) (by simp [hg, hb1, hb2, hb3', hb4, h1g, h21, h2g])
      · have hs1 : colsTo s.ms (i + 1) = colsTo s.ms i ++ [((i : Int), 1)] := by rw [hsc, colK, if_neg hf, if_pos hf2, List.append_nil]
        simp [w1, loopQ_normal]
        refine ⟨i + 1, g3, ⟨by omega, hb3', by omega⟩, by omega, rfl, by simp [hs1], ?_⟩
        rw [hs1, cv_append]
        exact sub_put (by rw [cv_takeall]; rfl) (by simp [hg, hb1, hb2, h1g, h21, h2g])
    · refine ⟨fun hf2 => ?_, fun hf2 => ?_⟩
      · intro g2 hg2 h21 h2g hb2
        simp [h1g, h21, h2g, Ne.symm h1g, Ne.symm h21, Ne.symm h2g, appV, elsV, Int.not_lt.2 hg2]
        refine ⟨by omega, fun g3 hg3 hb3 => ?_⟩
        have hb3' : bl g3 = none := by grind
        have hs1 : colsTo s.ms (i + 1) = colsTo s.ms i ++ [((i : Int), -1)] := by rw [hsc, colK, if_pos hf, if_neg hf2, List.nil_append]
        simp [w1, loopQ_normal]
        refine ⟨i + 1, g3, ⟨by omega, hb3', by omega⟩, by omega, rfl, by simp [hs1], ?_⟩
        rw [hs1, cv_append]
        exact sub_put (by rw [cv_takeall]; rfl) (by simp [hg, hb1, hb2, h1g, h21, h2g])
      · omega
  · have hi : i = s.ms.length := by omega
    subst hi
    refine retNW [.lsl g 2 0 (colsTo s.ms s.ms.length).length] [g] (by simp) ?_ (by simpa using hg) (by simp [hg])
    refine own_cv.2 (.inr ⟨g, rfl, rfl, by simp [cols], h0⟩)

theorem iv_two (a b : Int) : iv [a, b] = [[.int .i64 a], [.int .i64 b]] := rfl
theorem iv_one (a : Int) : iv [a] = [[.int .i64 a]] := rfl

def who (s : Str) : List Int := (cols s.ms).map (·.1)
def sgn (s : Str) : List Int := (cols s.ms).map (·.2)
def dWS (s : Str) : D := .t [fl 1 (iv (who s)), fl 1 (iv (sgn s))]
structure Two where
  i : Nat
  g : Int
  h : Int
  b : Int → Option Blk
def twoInv (bl : Int → Option Blk) (A B : Nat → List Int) (n : Nat) (p : Two) : Prop :=
  p.i ≤ n ∧ p.g ≠ p.h ∧ p.b p.g = some ⟨1, iv (A p.i)⟩ ∧ p.b p.h = some ⟨1, iv (B p.i)⟩ ∧ bl p.g = none ∧ bl p.h = none ∧ Sub bl p.b ∧ (p.g < 0 → A p.i = []) ∧ (p.h < 0 → B p.i = [])

set_option maxHeartbeats 1000000 in
theorem l15Columns_nw (s : Str) (hm : s.ms.length ≤ 8) : NW Tryz.prog 192 [.agg s.c] (dWS s) := by
  refine nw_of Tryz.func192 rfl rfl (by rw [Tryz.ntmps192]; simp) fun bl => ?_
  rw [Tryz.ntmps192, Tryz.results192]
  refine AW_run ?_
  simp [Str.c]
  intro gs hgs0 hgs ga hga0 hgas hbga gb hgb0 hgba hgbs hbgb
  simp [hgas, Ne.symm hgas, hgba, Ne.symm hgba, hgbs, Ne.symm hgbs]
  refine AW_for (fun p : Two => [(4, .lsl p.g 1 0 (colsTo s.ms p.i).length), (5, .lsl p.h 1 0 (colsTo s.ms p.i).length), (11, .sl (mv s.ms)), (12, .int .i64 s.ms.length), (13, .int .i64 p.i)]) (fun p => p.b) (twoInv bl (fun n => (colsTo s.ms n).map (·.1)) (fun n => (colsTo s.ms n).map (·.2)) s.ms.length) (fun p => s.ms.length - p.i) 41 ⟨0, ga, gb, upd (upd (upd bl gs (some ⟨2, [[.sl (jv s.js), .sl (mv s.ms)]]⟩)) ga (some ⟨1, []⟩)) gb (some ⟨1, []⟩)⟩ ⟨Nat.zero_le _, Ne.symm hgba, by simp [Ne.symm hgba, colsTo, iv], by simp [colsTo, iv], hbga, hbgb, by simp [hgs, hbga, hbgb], fun _ => rfl, fun _ => rfl⟩ ⟨rfl, by simp [colsTo], sub_eq (by simp)⟩ ?_
  rintro ⟨i, g, h', b⟩ ⟨hi, hgh, hbg, hbh, hg, hh, hsb, h0, h1⟩
  simp only at hi hgh hbg hbh hg hh hsb h0 h1
  have hl := colsTo_le s.ms i
  have fr : ∀ x, b x = none → bl x = none := fun x hx => fresh_of hsb hx
  refine AW_run ?_
  simp
  refine ⟨fun h => ?_, fun h => ?_⟩
  · have w1 : IntKind.i64.wrap ((i : Int) + 1) = i + 1 := i64_in (by omega) (by omega)
    have hsc := colsTo_succ s.ms i
    rw [getD_at _ _ _ h] at hsc
    have tkA : List.take (colsTo s.ms i).length (iv ((colsTo s.ms i).map (·.1))) = iv ((colsTo s.ms i).map (·.1)) := List.take_of_length_le (by simp)
    have tkA2 : ∀ x : List V, List.take ((colsTo s.ms i).length + 1) (iv ((colsTo s.ms i).map (·.1)) ++ [x]) = iv ((colsTo s.ms i).map (·.1)) ++ [x] := fun x => List.take_of_length_le (by simp)
    have tkB2 : ∀ x : List V, List.take ((colsTo s.ms i).length + 1) (iv ((colsTo s.ms i).map (·.2)) ++ [x]) = iv ((colsTo s.ms i).map (·.2)) ++ [x] := fun x => List.take_of_length_le (by simp)
    have tkB : List.take (colsTo s.ms i).length (iv ((colsTo s.ms i).map (·.2))) = iv ((colsTo s.ms i).map (·.2)) := List.take_of_length_le (by simp)
    simp [h, Mb.c]
    intro g1 hg1 hb1
    have n1g : g1 ≠ g := fun e => by rw [e, hbg] at hb1; cases hb1
    have n1h : g1 ≠ h' := fun e => by rw [e, hbh] at hb1; cases hb1
    refine ⟨fun hf => ?_, fun hf => ?_⟩
    · intro g2 hg2 h21 hb2
      have n2g : g2 ≠ g := fun e => by rw [e, hbg] at hb2; cases hb2
      have n2h : g2 ≠ h' := fun e => by rw [e, hbh] at hb2; cases hb2
      simp [hbg, n1g, h21, n2g, Ne.symm n1g, Ne.symm h21, Ne.symm n2g, appV, elsV, Int.not_lt.2 hg2]
      refine ⟨by omega, fun g3 hg3 hb3 => ?_⟩
      have n31 : g3 ≠ g1 := by grind
      have n3h : g3 ≠ h' := by grind
      simp [n31, Ne.symm n31, n3h, Ne.symm n3h]
      intro g4 hg4 h43 hb4
      have n41 : g4 ≠ g1 := by grind
      have n4h : g4 ≠ h' := by grind
      simp [hgh, Ne.symm hgh, hbh, n1h, Ne.symm n1h, n2h, Ne.symm n2h, n31, Ne.symm n31, n3h, Ne.symm n3h, n41, Ne.symm n41, n4h, Ne.symm n4h, h43, Ne.symm h43, appV, elsV, Int.not_lt.2 hg4]
      refine ⟨by omega, fun g5 hg5 hb5 => ?_⟩
      have n51 : g5 ≠ g1 := by grind
      have n53 : g5 ≠ g3 := by grind
      simp [hgh, Ne.symm hgh, n1h, Ne.symm n1h, n31, Ne.symm n31, n51, Ne.symm n51, n41, Ne.symm n41, h21, Ne.symm h21, n1g, Ne.symm n1g]
      refine ⟨fun hf2 => ?_, fun hf2 => ?_⟩
      · intro g6 hg6 n65 hb6
        have n61 : g6 ≠ g1 := by grind
        have n63 : g6 ≠ g3 := by grind
        simp [n3h, Ne.symm n3h, n1g, Ne.symm n1g, n31, Ne.symm n31, hgh, Ne.symm hgh, n65, Ne.symm n65, n61, Ne.symm n61, n63, Ne.symm n63, n53, Ne.symm n53, h43, Ne.symm h43, appV, elsV, Int.not_lt.2 hg6, tkA, tkB]
        refine ⟨by omega, fun g7 hg7 hb7 => ?_⟩
        have n71 : g7 ≠ g1 := by grind
        have n75 : g7 ≠ g5 := by grind
        simp [n71, Ne.symm n71, n75, Ne.symm n75]
        intro g8 hg8 n87 hb8
        have n81 : g8 ≠ g1 := by grind
        have n85 : g8 ≠ g5 := by grind
        simp [n71, Ne.symm n71, n75, Ne.symm n75, n81, Ne.symm n81, n85, Ne.symm n85, n87, Ne.symm n87, n65, Ne.symm n65, n53, Ne.symm n53, appV, elsV, Int.not_lt.2 hg8, tkA, tkB]
        refine ⟨by omega, fun g9 hg9 hb9 => ?_⟩
        have n91 : g9 ≠ g1 := by grind
        have n97 : g9 ≠ g7 := by grind
        have e1 : colsTo s.ms (i + 1) = colsTo s.ms i ++ [((i : Int), 1)] ++ [((i : Int), -1)] := by rw [hsc, colK, if_neg hf, if_neg hf2, List.append_assoc]
        simp [w1, loopQ_normal]
        refine ⟨⟨i + 1, g7, g9, _⟩, ⟨by simp only; omega, by simp only; grind, ?_, ?_, by simp only; grind, by simp only; grind, ?_, fun e => by simp only at e; omega, fun e => by simp only at e; omega⟩, by simp only; omega, rfl, by simp [e1], sub_eq rfl⟩
        · simp [hgh, Ne.symm hgh, n1h, Ne.symm n1h, n31, Ne.symm n31, n51, Ne.symm n51, n53, Ne.symm n53, n41, Ne.symm n41, h43, Ne.symm h43, n71, Ne.symm n71, n75, Ne.symm n75, n61, Ne.symm n61, n63, Ne.symm n63, n81, n87, n85, Ne.symm n81, Ne.symm n85, Ne.symm n87, n91, n97, Ne.symm n91, Ne.symm n97, n3h, Ne.symm n3h, n4h, Ne.symm n4h, e1, iv_append, iv_one, iv_two, tkA, tkB, tkA2, tkB2]
        · simp [hgh, Ne.symm hgh, n1h, Ne.symm n1h, n31, Ne.symm n31, n51, Ne.symm n51, n53, Ne.symm n53, n41, Ne.symm n41, h43, Ne.symm h43, n71, Ne.symm n71, n75, Ne.symm n75, n61, Ne.symm n61, n63, Ne.symm n63, n81, n87, n85, Ne.symm n81, Ne.symm n85, Ne.symm n87, n91, n97, Ne.symm n91, Ne.symm n97, n3h, Ne.symm n3h, n4h, Ne.symm n4h, e1, iv_append, iv_one, iv_two, tkA, tkB, tkA2, tkB2]
        · intro x y hx
          have hbx := hsb x y hx
          have ng : x ≠ g := fun e => by rw [e, hg] at hx; cases hx
          have nh : x ≠ h' := fun e => by rw [e, hh] at hx; cases hx
          simp [upd_apply, rem_apply]
          grind
      · skip
        have e1 : colsTo s.ms (i + 1) = colsTo s.ms i ++ [((i : Int), 1)] := by rw [hsc, colK, if_neg hf, if_pos hf2, List.append_nil]
        simp [w1, loopQ_normal]
        refine ⟨⟨i + 1, g3, g5, _⟩, ⟨by simp only; omega, by simp only; grind, ?_, ?_, by simp only; grind, by simp only; grind, ?_, fun e => by simp only at e; omega, fun e => by simp only at e; omega⟩, by simp only; omega, rfl, by simp [e1], sub_eq rfl⟩
        · simp [hgh, Ne.symm hgh, n1h, Ne.symm n1h, n31, Ne.symm n31, n51, Ne.symm n51, n53, Ne.symm n53, n41, Ne.symm n41, h43, Ne.symm h43, n3h, Ne.symm n3h, n4h, Ne.symm n4h, e1, iv_append, iv_one, iv_two, tkA, tkB, tkA2, tkB2]
        · simp [hgh, Ne.symm hgh, n1h, Ne.symm n1h, n31, Ne.symm n31, n51, Ne.symm n51, n53, Ne.symm n53, n41, Ne.symm n41, h43, Ne.symm h43, n3h, Ne.symm n3h, n4h, Ne.symm n4h, e1, iv_append, iv_one, iv_two, tkA, tkB, tkA2, tkB2]
        · intro x y hx
          have hbx := hsb x y hx
          have ng : x ≠ g := fun e => by rw [e, hg] at hx; cases hx
          have nh : x ≠ h' := fun e => by rw [e, hh] at hx; cases hx
          simp [upd_apply, rem_apply]
          grind
    · refine ⟨fun hf2 => ?_, fun hf2 => ?_⟩
      · intro g2 hg2 h21 hb2
        have n2g : g2 ≠ g := fun e => by rw [e, hbg] at hb2; cases hb2
        have n2h : g2 ≠ h' := fun e => by rw [e, hbh] at hb2; cases hb2
        simp [hbg, n1g, h21, n2g, Ne.symm n1g, Ne.symm h21, Ne.symm n2g, appV, elsV, Int.not_lt.2 hg2]
        refine ⟨by omega, fun g3 hg3 hb3 => ?_⟩
        have n31 : g3 ≠ g1 := by grind
        have n3h : g3 ≠ h' := by grind
        simp [n31, Ne.symm n31, n3h, Ne.symm n3h]
        intro g4 hg4 h43 hb4
        have n41 : g4 ≠ g1 := by grind
        have n4h : g4 ≠ h' := by grind
        simp [hgh, Ne.symm hgh, hbh, n1h, Ne.symm n1h, n2h, Ne.symm n2h, n31, Ne.symm n31, n3h, Ne.symm n3h, n41, Ne.symm n41, n4h, Ne.symm n4h, h43, Ne.symm h43, appV, elsV, Int.not_lt.2 hg4]
        refine ⟨by omega, fun g5 hg5 hb5 => ?_⟩
        have n51 : g5 ≠ g1 := by grind
        have n53 : g5 ≠ g3 := by grind
        have e1 : colsTo s.ms (i + 1) = colsTo s.ms i ++ [((i : Int), -1)] := by rw [hsc, colK, if_pos hf, if_neg hf2, List.nil_append]
        simp [w1, loopQ_normal]
        refine ⟨⟨i + 1, g3, g5, _⟩, ⟨by simp only; omega, by simp only; grind, ?_, ?_, by simp only; grind, by simp only; grind, ?_, fun e => by simp only at e; omega, fun e => by simp only at e; omega⟩, by simp only; omega, rfl, by simp [e1], sub_eq rfl⟩
        · simp [hgh, Ne.symm hgh, n1h, Ne.symm n1h, n31, Ne.symm n31, n51, Ne.symm n51, n53, Ne.symm n53, n41, Ne.symm n41, h43, Ne.symm h43, n3h, Ne.symm n3h, n4h, Ne.symm n4h, e1, iv_append, iv_one, iv_two, tkA, tkB, tkA2, tkB2]
        · simp [hgh, Ne.symm hgh, n1h, Ne.symm n1h, n31, Ne.symm n31, n51, Ne.symm n51, n53, Ne.symm n53, n41, Ne.symm n41, h43, Ne.symm h43, n3h, Ne.symm n3h, n4h, Ne.symm n4h, e1, iv_append, iv_one, iv_two, tkA, tkB, tkA2, tkB2]
        · intro x y hx
          have hbx := hsb x y hx
          have ng : x ≠ g := fun e => by rw [e, hg] at hx; cases hx
          have nh : x ≠ h' := fun e => by rw [e, hh] at hx; cases hx
          simp [upd_apply, rem_apply]
          grind
      · omega
  · have hi : i = s.ms.length := by omega
    subst hi
    refine retNW [.lsl g 1 0 (colsTo s.ms s.ms.length).length, .lsl h' 1 0 (colsTo s.ms s.ms.length).length] [g, h'] (by simp) ?_ (by simp [hg, hh]) hsb
    unfold dWS
    rw [OwnD]
    exact ⟨_, rfl, own_pair.2 ⟨_, _, [g], [h'], rfl, rfl, by simpa using hgh, own_iv.2 (.inr ⟨g, by simp [who, cols], rfl, hbg, h0⟩), own_iv.2 (.inr ⟨h', by simp [sgn, cols], rfl, hbh, h1⟩)⟩⟩
theorem l15Columns_ro (s : Str) (hm : s.ms.length ≤ 8) : RO Tryz.prog 192 [.agg s.c] (.tup [.sl (iv (who s)), .sl (iv (sgn s))]) := by
  have := ro_of_nw 2 (l15Columns_nw s hm) (by simp [dWS, D.dep, D.depL, fl_dep])
  simpa [dWS, D.fz, D.fzL] using this
theorem columns_ro (s : Str) (hm : s.ms.length ≤ 8) : RO Tryz.prog 146 [.ptr s.c] (.sl (cv (cols s.ms))) := by
  have := ro_of_nw 1 (columns_nw s hm) (fl_dep _ _ 0)
  simpa using this

end Go.Proofs.YticmgmemnpcbbaaGreat.Vm

namespace Go.Proofs.YticmgmemnpcbbaaGreat.Vm
open Go Go.Proofs
set_option linter.unusedSimpArgs false
set_option linter.unusedVariables false

def vsg (p : Int) (x : Option Rat) : Option Rat := if p < 0 then x.map (- ·) else x
def stI (acc : List (Option Rat)) (p : Int × Int) (x : Option Rat) : List (Option Rat) :=
  acc.set p.1.toNat (if (acc.getD p.1.toNat none).isSome = true then op2 (· + ·) (acc.getD p.1.toNat none) (vsg p.2 x) else vsg p.2 x)
def stS (acc : List (Option Rat)) (p : Int × Int) (x : Option Rat) : List (Option Rat) :=
  acc.set p.1.toNat (if 0 < p.2 then op2 (· + ·) (acc.getD p.1.toNat none) x else op2 (· - ·) (acc.getD p.1.toNat none) x)
def runI (ms : List Mb) (d : List (Option Rat)) (t : Nat) : List (Option Rat) := (List.range t).foldl (fun acc j => stI acc ((cols ms).getD j (0, 0)) (d.getD j none)) (List.replicate ms.length none)
def runS (ms : List Mb) (d : List (Option Rat)) (t : Nat) : List (Option Rat) := (List.range t).foldl (fun acc j => stS acc ((cols ms).getD j (0, 0)) (d.getD j none)) (List.replicate ms.length (some 0))
theorem getD_set_ne {xs : List (Option Rat)} {i k : Nat} (h : i ≠ k) (x : Option Rat) : (xs.set i x).getD k none = xs.getD k none := by
  rw [List.getD_eq_getElem?_getD, List.getElem?_set_ne h, List.getD_eq_getElem?_getD]
def denInv (ms : List Mb) (A B : List (Option Rat)) (n : Nat) : Prop := ∀ k, k < ms.length → (k < n → A.getD k none = B.getD k none) ∧ (n ≤ k → A.getD k none = none ∧ B.getD k none = some 0)
end Go.Proofs.YticmgmemnpcbbaaGreat.Vm

namespace Go.Proofs.YticmgmemnpcbbaaGreat.Vm
open Go Go.Proofs
set_option linter.unusedSimpArgs false
set_option linter.unusedVariables false

end Go.Proofs.YticmgmemnpcbbaaGreat.Vm

namespace Go.Proofs.YticmgmemnpcbbaaGreat.Vm
open Go Go.Proofs
set_option linter.unusedSimpArgs false
set_option linter.unusedVariables false

def apX (s : Str) (d : List (Option Rat)) (m : Mb) : Option Rat := op2 (· - ·) (dX s.js d m.b.toNat) (dX s.js d m.a.toNat)
def apY (s : Str) (d : List (Option Rat)) (m : Mb) : Option Rat := op2 (· - ·) (dY s.js d m.b.toNat) (dY s.js d m.a.toNat)
def strQ (s : Str) (d : List (Option Rat)) (k : Nat) : Option Rat := op2 (· + ·) (op2 (· * ·) (some (vx s (mat s k) : Rat)) (apX s d (mat s k))) (op2 (· * ·) (some (vy s (mat s k) : Rat)) (apY s d (mat s k)))
/-- The stretch of member k, if there is one. -/
def strOk (s : Str) (k : Int) (d : List RT) : Bool := movOk s d && (decide (0 ≤ k) && decide (k < s.ms.length))
def strW (s : Str) (k : Int) (d : List RT) : Option Rat := if strOk s k d = true then strQ s (rdAll d) k.toNat else none
end Go.Proofs.YticmgmemnpcbbaaGreat.Vm

namespace Go.Proofs.YticmgmemnpcbbaaGreat.Vm
open Go Go.Proofs
set_option linter.unusedSimpArgs false
set_option linter.unusedVariables false

def fineQ (rs : List RT) : Bool := rs.all fun r => !decide (r.d = [])
def pairOk (a b : List RT) : Bool := (vecOk a && vecOk b) && decide (a.length = b.length)
/-! ### Results -/
def addQs (a b : List RT) : List (Option Rat) := if pairOk a b = true then List.zipWith (op2 (· + ·)) (rdAll a) (rdAll b) else [none]
def sclQs (r : RT) (q : List RT) : List (Option Rat) := if (r.ok ∧ vecOk q = true) then (rdAll q).map (op2 (· * ·) (rd r)) else [none]
end Go.Proofs.YticmgmemnpcbbaaGreat.Vm

namespace Go.Proofs.YticmgmemnpcbbaaGreat.Vm
open Go Go.Proofs
set_option linter.unusedSimpArgs false
set_option linter.unusedVariables false

def atW (s : Str) (i : Nat) : Int := if fxd s.js i = true then -1 else (idx s.js i : Int)
end Go.Proofs.YticmgmemnpcbbaaGreat.Vm

namespace Go.Proofs.YticmgmemnpcbbaaGreat.Vm
open Go Go.Proofs
set_option linter.unusedSimpArgs false
set_option linter.unusedVariables false

/-- Two new cells of three. -/
def twoNew (bl : Int → Option Blk) (g6 : Int) (p : Int × Int) : Prop := 0 ≤ p.1 ∧ 0 ≤ p.2 ∧ ¬ p.1 = p.2 ∧ ¬ p.1 = g6 ∧ ¬ p.2 = g6 ∧ bl p.1 = none ∧ bl p.2 = none
end Go.Proofs.YticmgmemnpcbbaaGreat.Vm

namespace Go.Proofs.YticmgmemnpcbbaaGreat.Vm
open Go Go.Proofs
set_option linter.unusedSimpArgs false
set_option linter.unusedVariables false

def refBad (m : Mb) (x : Option Rat) : Bool := (!x.isSome || (decide (m.kind ≠ 2) && decide (0 < sgq x))) || (decide (m.kind ≠ 1) && decide (sgq x < 0))
def memsOk (s : Str) (d : List (Option Rat)) : Bool := (List.range s.ms.length).all fun k => !refBad (mat s k) (strQ s d k)
def memsTo (s : Str) (d : List (Option Rat)) (n : Nat) : Prop := ∀ k : Nat, k < n → refBad (mat s k) (strQ s d k) = false
/-- The work of the load before free joint t. -/
def wkTo (s : Str) (l : List Int) (d : List (Option Rat)) : Nat → Option Rat
  | 0 => some 0
  | t + 1 => op2 (· + ·) (op2 (· + ·) (wkTo s l d t) (op2 (· * ·) (some (lN l (2 * ((frees s.js).getD t 0).toNat) : Rat)) (d.getD (2 * t) none))) (op2 (· * ·) (some (lN l (2 * ((frees s.js).getD t 0).toNat + 1) : Rat)) (d.getD (2 * t + 1) none))
def wkW (s : Str) (l : List Int) (d : List (Option Rat)) : Option Rat := wkTo s l d (frees s.js).length
def refW (s : Str) (l : List Int) (d : List RT) : Bool := (movOk s d && fitsL s.js l) && (memsOk s (rdAll d) && decide (0 < sgq (wkW s l (rdAll d))))

end Go.Proofs.YticmgmemnpcbbaaGreat.Vm

namespace Go.Proofs.YticmgmemnpcbbaaGreat.Vm
open Go Go.Proofs
set_option linter.unusedSimpArgs false
set_option linter.unusedVariables false

/-! ### Densities from columns -/
def denOk (s : Str) (d : List RT) : Bool := sOk s && (decide (d.length = (cols s.ms).length) && allOk d)
def denQ (s : Str) (d : List RT) : List (Option Rat) := if denOk s d = true then runI s.ms (rdAll d) (cols s.ms).length else [none]
/-! ### The reference -/
theorem l05Zero_ro : RO Tryz.prog 283 [] (.agg (ro (some 0)).c) := by
  have w0 := RatFromInt_ro 0 (by omega)
  rw [zero_cast] at w0
  refine ro_of2 Tryz.func283 rfl rfl (by rw [Tryz.ntmps283]; simp) fun bl => ?_
  rw [Tryz.ntmps283, Tryz.results283]
  refine AW_run ?_
  generalize ro (some 0) = z at *
  simp
  intro g hg0 hg
  refine callP_ro w0 ?_
  simp [RT.c]
  exact retRO [.agg z.c] 1 (by simp [RT.c]) (by simp [frz, RT.c, V.cl]) (by simp [hg])
theorem rv_takeall (rs : List RT) : (rv rs).take rs.length = rv rs := by rw [← rv_length rs, List.take_length]
theorem rv_len3 (rs : List RT) : ∀ r, r ∈ rv rs → r.length = 3 := fun r hr => by
  obtain ⟨x, _, rfl⟩ := List.mem_map.1 hr; rfl
theorem own_rvF {bl : Int → Option Blk} {rs : List RT} {v : V} {gs : List Int} : OwnD bl (fl 3 (rv rs)) v gs ↔ (rs = [] ∧ v = .nils ∧ gs = []) ∨ ∃ g, v = .lsl g 3 0 rs.length ∧ gs = [g] ∧ bl g = some ⟨3, rv rs⟩ ∧ (g < 0 → rs = []) := by
  rw [own_fl (rv_cl rs) (rv_len3 rs)]
  simp [rv]
def zeros (n : Nat) : List RT := List.replicate n (ro (some 0))
theorem zeros_succ (n : Nat) : zeros (n + 1) = zeros n ++ [ro (some 0)] := by unfold zeros; rw [List.replicate_succ']
@[simp] theorem zeros_length (n : Nat) : (zeros n).length = n := by simp [zeros]
theorem l05Zeros_nw (n : Nat) (hn : n ≤ 1000) : NW Tryz.prog 259 [.int .i64 n] (fl 3 (rv (zeros n))) := by
  refine nw_of Tryz.func259 rfl rfl (by rw [Tryz.ntmps259]; simp) fun bl => ?_
  rw [Tryz.ntmps259, Tryz.results259]
  refine AW_run ?_
  simp
  intro g00 hg00 hb00
  refine AW_for (fun p : Nat × Int => [(0, .int .i64 n), (3, .lsl p.2 3 0 p.1)]) (fun p => upd bl p.2 (some ⟨3, rv (zeros p.1)⟩)) (fun p => p.1 ≤ n ∧ bl p.2 = none ∧ (p.2 < 0 → p.1 = 0)) (fun p => n - p.1) _ (0, g00) ⟨Nat.zero_le _, hb00, fun _ => rfl⟩ ⟨rfl, by simp, sub_eq (by simp [zeros, rv])⟩ ?_
  rintro ⟨i, g⟩ ⟨hi, hg, h0⟩
  simp only at hi hg h0
  refine AW_run ?_
  simp
  refine ⟨fun h => ?_, fun h => ?_⟩
  · refine callP_ro l05Zero_ro ?_
    have hz := zeros_succ i
    generalize ro (some 0) = z at *
    simp [RT.c]
    intro g2 hg2 h2g hb2
    simp [h2g, Ne.symm h2g, appV, elsV, Int.not_lt.2 hg2]
    refine ⟨by omega, fun g3 hg3 hb3 => ?_⟩
    have hb3' : bl g3 = none := by grind
    simp [loopQ_normal]
    refine ⟨i + 1, g3, ⟨by omega, hb3', by omega⟩, by omega, rfl, by simp, ?_⟩
    rw [hz, rv_append]
    exact sub_put (by rw [show (rv (zeros i)).take i = rv (zeros i) by have := rv_takeall (zeros i); rwa [zeros_length] at this]; simp [rv, RT.c]) (by simp [hg, hb2, h2g])
  · have hi2 : i = n := by omega
    subst hi2
    refine retNW [.lsl g 3 0 i] [g] (by simp) ?_ (by simpa using hg) (by simp [hg])
    exact own_rvF.2 (.inr ⟨g, by simp, rfl, by simp, fun h => by rw [h0 h]; rfl⟩)
end Go.Proofs.YticmgmemnpcbbaaGreat.Vm

namespace Go.Proofs.YticmgmemnpcbbaaGreat.Vm
open Go Go.Proofs
set_option linter.unusedSimpArgs false
set_option linter.unusedVariables false

end Go.Proofs.YticmgmemnpcbbaaGreat.Vm

namespace Go.Proofs.YticmgmemnpcbbaaGreat.Vm
open Go Go.Proofs
set_option linter.unusedSimpArgs false
set_option linter.unusedVariables false

def gv (cells : List (List (Option Rat))) : List (List V) := cells.map fun r => [.sl (fvs r)]
@[simp] theorem gv_length (cells : List (List (Option Rat))) : (gv cells).length = cells.length := by simp [gv]
@[simp] theorem gv_getE (cells : List (List (Option Rat))) (i : Nat) (h : i < (gv cells).length) : (gv cells)[i] = [.sl (fvs (cells[i]'(by simpa using h)))] := by simp [gv]
def dGr (cells : List (List (Option Rat))) : D := .s 1 (cells.map fun r => [fl 1 (fvs r)])
def dG (r c : Nat) (cells : List (List (Option Rat))) : D := .a [.c (.int .i64 r), .c (.int .i64 c), dGr cells]
def rowOf (c : Nat) (m : Nat → Nat → Option Rat) (i : Nat) : List (Option Rat) := (List.range c).map (m i)
def gridOf (r c : Nat) (m : Nat → Nat → Option Rat) : List (List (Option Rat)) := (List.range r).map (rowOf c m)
@[simp] theorem rowOf_length (c : Nat) (m : Nat → Nat → Option Rat) (i : Nat) : (rowOf c m i).length = c := by simp [rowOf]
@[simp] theorem rowOf_getE (c : Nat) (m : Nat → Nat → Option Rat) (i k : Nat) (h : k < (rowOf c m i).length) : (rowOf c m i)[k] = m i k := by simp [rowOf]
@[simp] theorem gridOf_length (r c : Nat) (m : Nat → Nat → Option Rat) : (gridOf r c m).length = r := by simp [gridOf]
@[simp] theorem gridOf_getE (r c : Nat) (m : Nat → Nat → Option Rat) (i : Nat) (h : i < (gridOf r c m).length) : (gridOf r c m)[i] = rowOf c m i := by simp [gridOf]

theorem sub_remS (b : Int → Option Blk) (g : Int) : Sub (rem b g) b := fun z y hz => by
  rw [rem_apply] at hz
  split at hz
  · cases hz
  · exact hz
end Go.Proofs.YticmgmemnpcbbaaGreat.Vm

namespace Go.Proofs.YticmgmemnpcbbaaGreat.Vm
open Go Go.Proofs
set_option linter.unusedSimpArgs false
set_option linter.unusedVariables false

theorem OwnR.append {bl : Int → Option Blk} {sz : Nat} {rs2 : List (List D)} {e2 : List (List V)} {g2 : List Int} (h2 : OwnR bl sz rs2 e2 g2) : ∀ {rs : List (List D)} {els : List (List V)} {g1 : List Int}, OwnR bl sz rs els g1 → (∀ x, x ∈ g1 → x ∉ g2) → OwnR bl sz (rs ++ rs2) (els ++ e2) (g1 ++ g2)
  | [], els, g1, h, hd => by
    rw [OwnR] at h
    obtain ⟨rfl, rfl⟩ := h
    exact h2
  | r :: rs, els, g1, h, hd => by
    rw [OwnR] at h
    obtain ⟨e, els', ga, gb, rfl, rfl, h3, h4, h5, h6, h7⟩ := h
    have ih := OwnR.append h2 h7 fun x hx => hd x (List.mem_append_right _ hx)
    show OwnR bl sz (r :: (rs ++ rs2)) (e :: (els' ++ e2)) (ga ++ gb ++ g2)
    rw [OwnR]
    refine ⟨e, els' ++ e2, ga, gb ++ g2, rfl, by simp, fun x hx hx2 => ?_, h4, h5, h6, ih⟩
    rcases List.mem_append.1 hx2 with hx2 | hx2
    · exact h3 x hx hx2
    · exact hd x (List.mem_append_left _ hx) hx2

structure MX where
  r : Int
  c : Int
  cells : List RT
def MX.c3 (m : MX) : List V := [.int .i64 m.r, .int .i64 m.c, .sl (rv m.cells)]
def dMx (m : MX) : List D := [.c (.int .i64 m.r), .c (.int .i64 m.c), dRs m.cells]
def stAll (cells : List (List (Option Rat))) : Bool := cells.all allSome
def clMx (r c : Int) (cells : List (List (Option Rat))) : MX := if stAll cells = true then ⟨r, c, (cells.map roAll).flatten⟩ else ⟨0, 0, []⟩
def dMB (m : MX) (b : Bool) : D := .t [.a (dMx m), .c (.bool b)]
def flatTo (cells : List (List (Option Rat))) (i : Nat) : List RT := ((cells.take i).map roAll).flatten
end Go.Proofs.YticmgmemnpcbbaaGreat.Vm

namespace Go.Proofs.YticmgmemnpcbbaaGreat.Vm
open Go Go.Proofs
set_option linter.unusedSimpArgs false
set_option linter.unusedVariables false

theorem quot_num (a b : Rat) (hb : b.num ≠ 0) : sg (decide (a.num < 0) != decide (b.num < 0)) (a.num.natAbs * b.den) = a.num * (b.num.sign * b.den) := by
  have h1 : b.num.sign.natAbs = 1 := by rw [Int.natAbs_sign]; simp [hb]
  have h2 : (b.num.sign * (b.den : Int)).natAbs = b.den := by rw [Int.natAbs_mul, h1, Nat.one_mul, Int.natAbs_natCast]
  have hd := b.den_pos
  have h3 : decide (b.num.sign * (b.den : Int) < 0) = decide (b.num < 0) := by
    rw [decide_eq_decide]
    constructor
    · intro h
      by_cases h4 : b.num < 0
      · exact h4
      · have : b.num.sign = 1 := Int.sign_eq_one_of_pos (by omega)
        rw [this] at h; omega
    · intro h
      rw [Int.sign_eq_neg_one_of_neg h]; omega
  have := sg_mul a.num (b.num.sign * b.den)
  rw [h2, h3] at this
  exact this
end Go.Proofs.YticmgmemnpcbbaaGreat.Vm

namespace Go.Proofs.YticmgmemnpcbbaaGreat.Vm
open Go Go.Proofs
set_option linter.unusedSimpArgs false
set_option linter.unusedVariables false

end Go.Proofs.YticmgmemnpcbbaaGreat.Vm
