/- Densities drawn. -/



import Derived.Test.YtmbcofnnibpbeaaGreatQCFnExactSelfStresses8

namespace Go.Proofs.YtmbcofnnibpbeaaGreat.Vm
open Go Go.Proofs
set_option linter.unusedSimpArgs false
set_option linter.unusedVariables false

theorem bigOk_small {neg : Bool} {a : Nat} (h : a ≤ 1000) (hn : neg = true → a ≠ 0) : bigOk neg (lim a) = true := by
  unfold bigOk
  rw [natOk_lim (lim_length_le.2 (Nat.lt_of_le_of_lt h (by decide +kernel)))]
  cases neg
  · rfl
  · simp [lim_nil, hn rfl]
theorem RatMake_ro (x y : Int) (hx : x.natAbs ≤ 1000) (hy : y.natAbs ≤ 1000) : RO Tryz.prog 137 [.agg (biC x), .agg (biC y)] (.agg (ro (lowQ (decide (x < 0) != decide (y < 0)) x.natAbs y.natAbs)).c) := by
  have lx : (lim x.natAbs).length ≤ 60 := lim_length_le.2 (Nat.lt_of_le_of_lt hx (by decide +kernel))
  have ly : (lim y.natAbs).length ≤ 60 := lim_length_le.2 (Nat.lt_of_le_of_lt hy (by decide +kernel))
  have kx := spec_BigIntOk_ro (decide (x < 0)) (lim x.natAbs) (by omega)
  have ky := spec_BigIntOk_ro (decide (y < 0)) (lim y.natAbs) (by omega)
  rw [bigOk_small hx (fun h => by simp at h; omega)] at kx
  rw [bigOk_small hy (fun h => by simp at h; omega)] at ky
  have hL := l04Low_ro (decide (x < 0) != decide (y < 0)) x.natAbs y.natAbs lx ly
  generalize ro (lowQ (decide (x < 0) != decide (y < 0)) x.natAbs y.natAbs) = z at hL ⊢
  refine ro_of2 Tryz.func137 rfl rfl (by rw [Tryz.ntmps137]; simp) fun bl => ?_
  rw [Tryz.ntmps137, Tryz.results137]
  refine AW_runA ?_
  simp [biC_def]
  intro g hg0 hg g2 hg2 h2g hb2 g3 hg3 h32 h3g hb3
  refine AW_runA ?_
  simp
  refine AW_way [(2, .loc g 2 0 0), (3, .loc g2 2 0 0), (4, .loc g3 3 0 0)] _ (upd (upd (upd bl g (some ⟨2, [biC x]⟩)) g2 (some ⟨2, [biC y]⟩)) g3 (some ⟨3, [[.bool false, .nils, .nils]]⟩)) 12 (.bool false) (upd (upd (upd bl g (some ⟨2, [biC x]⟩)) g2 (some ⟨2, [biC y]⟩)) g3 (some ⟨3, [[.bool false, .nils, .nils]]⟩)) ⟨rfl, by simp, sub_eq (by simp [biC_def])⟩ rfl ?_ ?_
  · simp [biC_def, h2g, Ne.symm h2g, h32, Ne.symm h32, h3g, Ne.symm h3g]
    refine callP_ro kx ?_
    simp [biC_def, h2g, Ne.symm h2g, h32, Ne.symm h32, h3g, Ne.symm h3g]
    refine callP_ro ky ?_
    simp
  simp
  refine AW_run ?_
  simp [biC_def, h2g, Ne.symm h2g, h32, Ne.symm h32, h3g, Ne.symm h3g]
  refine callP_ro hL ?_
  simp [RT.c]
  exact retRO [.agg z.c] 1 (by simp [RT.c]) (by simp [frz, RT.c, V.cl]) (by intro u b hz; simp only [upd_apply] at hz ⊢; grind)
theorem lowQ_q6 (n : Int) (d : Int) (hn : -10 ≤ n ∧ n ≤ 10) (hd : d = 1 ∨ d = 2 ∨ d = 3) : ∃ u : Int, lowQ (decide (n < 0) != decide (d < 0)) n.natAbs d.natAbs = q6 u ∧ -60 ≤ u ∧ u ≤ 60 := by
  have hd0 : decide (d < 0) = false := by rcases hd with rfl | rfl | rfl <;> rfl
  rw [hd0, Bool.bne_false]
  unfold lowQ
  rw [sg_self]
  rcases hd with rfl | rfl | rfl
  · refine ⟨n * 6, ?_, by omega, by omega⟩
    have : mkRat n (1 : Int).natAbs = r6 (n * 6) := (Rat.mkRat_mul_right (d := 1) (a := 6) (by decide)).symm
    rw [if_neg (by decide), this]; unfold fit q6; rw [if_pos (r6_fits (by omega))]
  · refine ⟨n * 3, ?_, by omega, by omega⟩
    have : mkRat n (2 : Int).natAbs = r6 (n * 3) := (Rat.mkRat_mul_right (d := 2) (a := 3) (by decide)).symm
    rw [if_neg (by decide), this]; unfold fit q6; rw [if_pos (r6_fits (by omega))]
  · refine ⟨n * 2, ?_, by omega, by omega⟩
    have : mkRat n (3 : Int).natAbs = r6 (n * 2) := (Rat.mkRat_mul_right (d := 3) (a := 2) (by decide)).symm
    rw [if_neg (by decide), this]; unfold fit q6; rw [if_pos (r6_fits (by omega))]
theorem RatOf_ro (n d : Int) (hn : -10 ≤ n ∧ n ≤ 10) (hd : d = 1 ∨ d = 2 ∨ d = 3) : ∃ u : Int, (-60 ≤ u ∧ u ≤ 60) ∧ RO Tryz.prog 81 [.int .i64 n, .int .i64 d] (.agg (ro (q6 u)).c) := by
  obtain ⟨u, eu, hu⟩ := lowQ_q6 n d hn hd
  refine ⟨u, hu, ?_⟩
  have h1 := BigIntOf_ro n (by omega)
  have h2 := BigIntOf_ro d (by omega)
  have h3 := RatMake_ro n d (by omega) (by omega)
  rw [eu] at h3
  generalize ro (q6 u) = z at h3 ⊢
  refine ro_of2 Tryz.func81 rfl rfl (by rw [Tryz.ntmps81]; simp) fun bl => ?_
  rw [Tryz.ntmps81, Tryz.results81]
  refine AW_run ?_
  simp
  intro g hg0 hg
  refine callP_ro h1 ?_
  simp
  refine callP_ro h2 ?_
  simp
  refine callP_ro h3 ?_
  simp [RT.c]
  exact retRO [.agg z.c] 1 (by simp [RT.c]) (by simp [frz, RT.c, V.cl]) (by simp [hg])
theorem l04Few_cp {bl : Int → Option Blk} {K : V → (Int → Option Blk) → Prop} (bs : List Int) (i h g : Int) (hc : CurOk bs i) (hb : bl g = some (cur bs i h))
    (hK : ∀ (u i' h' : Int) bl', -60 ≤ u ∧ u ≤ 60 → CurOk bs i' → bl' g = some (cur bs i' h') → (∀ x y, x ≠ g → bl x = some y → bl' x = some y) → K (.agg (ro (q6 u)).c) bl') : CallP Tryz.prog 39 [.loc g 3 0 0] bl K := by
  refine callP_of Tryz.func39 rfl rfl (by rw [Tryz.ntmps39]; simp) ?_
  rw [Tryz.ntmps39, Tryz.results39]
  refine AW_run ?_
  simp
  intro ga hga0 hga
  have nag : ga ≠ g := fun e => by rw [e, hb] at hga; cases hga
  refine l01Below_cp bs i h g 21 (by omega) hc (by simp [Ne.symm nag, hb]) fun x1 i1 h1 hx1 hc1 => ?_
  have w1 : IntKind.i64.wrap (x1 - 10) = x1 - 10 := i64_in (by omega) (by omega)
  simp [w1, nag, Ne.symm nag]
  intro g5 hg5 n5g n5a hb5
  refine l01Pick_cp bs i1 h1 g g5 [1, 1, 1, 2, 3] (by simp) hc1 (by simp [Ne.symm n5g]) (by simp [iv, show List.range 5 = [0, 1, 2, 3, 4] from rfl]) n5g hg5 fun x2 i2 h2 hx2 hc2 => ?_
  have hx2' : x2 = 1 ∨ x2 = 2 ∨ x2 = 3 := by simpa using hx2
  obtain ⟨u, hu, hR⟩ := RatOf_ro (x1 - 10) x2 (by omega) hx2'
  have hK2 := fun bl' => hK u i2 h2 bl' hu hc2
  generalize ro (q6 u) = z at hR hK2
  simp
  refine callP_ro hR ?_
  simp [RT.c, nag, Ne.symm nag, n5g, n5a, Ne.symm n5g, Ne.symm n5a]
  rw [retK_ret]
  refine ⟨[.agg z.c], by simp [RT.c], ?_⟩
  exact hK2 _ (by simp [Ne.symm nag]) (fun x y hx hy => by simp only [upd_apply]; grind)
theorem rv_one (r : RT) : rv [r] = [r.c] := rfl
structure MD where
  us : List Int
  g : Int
  i : Int
  h : Int
  b : Int → Option Blk
def rq6 (us : List Int) : List RT := us.map fun u => ro (q6 u)
@[simp] theorem rq6_length (us : List Int) : (rq6 us).length = us.length := by simp [rq6]
theorem MakeDensities_cp {bl : Int → Option Blk} {K : V → (Int → Option Blk) → Prop} (bs : List Int) (n : Nat) (s : Str) (hs : SOk s) (hn : bs.length ≤ 1048576) (hbs : ∀ x, x ∈ bs → 0 ≤ x ∧ x < 256) (hn2 : n ≤ 1048576)
    (hK : ∀ (us : List Int) bl', us.length = s.ms.length → (∀ u, u ∈ us → -60 ≤ u ∧ u ≤ 60) → Sub bl bl' → K (.sl (rv (rq6 us))) bl') :
    CallP Tryz.prog 10 [.sl (bv bs), .int .i64 n, .agg s.c] bl K := by
  have hnm := hs.nm
  refine callP_of Tryz.func10 rfl rfl (by rw [Tryz.ntmps10]; simp) ?_
  rw [Tryz.ntmps10, Tryz.results10]
  refine AW_runA ?_
  simp [Str.c]
  intro gs hgs0 hgs
  refine AW_frzAt 1 5 (.ptr s.c) bl (by simp [hgs]) (by simp [frz, dropB, hgs, Str.c, V.cl]) ?_
  refine AW_runA ?_
  simp
  refine l32New_cp bs n hn hbs hn2 fun g i h hg0 hg hc => ?_
  simp
  refine AW_runA ?_
  simp [Str.c]
  intro g0 hg00 n0g hb0
  refine AW_runA ?_
  simp [Str.c]
  refine AW_for (fun p : MD => [(7, .loc g 3 0 0), (8, .lsl p.g 3 0 p.us.length), (14, .sl (mv s.ms)), (15, .int .i64 s.ms.length), (16, .int .i64 p.us.length)]) (fun p => p.b)
    (fun p => p.us.length ≤ s.ms.length ∧ (∀ u, u ∈ p.us → -60 ≤ u ∧ u ≤ 60) ∧ CurOk bs p.i ∧ p.b g = some (cur bs p.i p.h) ∧ (0 ≤ p.g ∧ ¬ p.g = g ∧ bl p.g = none ∧ p.b p.g = some ⟨3, rv (rq6 p.us)⟩) ∧ Sub bl p.b) (fun p => s.ms.length - p.us.length) 25 ⟨[], g0, i, h, upd (upd bl g (some (cur bs i h))) g0 (some ⟨3, []⟩)⟩
    ⟨Nat.zero_le _, by simp, hc, by simp [Ne.symm n0g], ⟨hg00, n0g, hb0, by simp [rq6, rv]⟩, by intro z b hz; simp only [upd_apply]; grind⟩ ⟨rfl, by simp, by simp [iv]⟩ ?_
  rintro ⟨us, gq, ic, hcu, b⟩ ⟨hul, hub, hcc, hbg, ⟨hgq, nqg, hq0, hbq⟩, hsb⟩
  simp only at hul hub hcc hbg hgq nqg hq0 hbq hsb
  refine AW_run ?_
  simp
  refine ⟨fun hlt => ?_, fun hlt => ?_⟩
  · refine l04Few_cp bs ic hcu g hcc hbg fun u i1 h1 b1 hu hc1 hb1 hk1 => ?_
    have hbq1 : b1 gq = some ⟨3, rv (rq6 us)⟩ := hk1 gq _ nqg hbq
    have hsb1 : Sub bl b1 := fun x y hy => by
      have e : x ≠ g := fun e => by rw [e, hg] at hy; cases hy
      exact hk1 x y e (hsb x y hy)
    have eus : rq6 (us ++ [u]) = rq6 us ++ [ro (q6 u)] := by simp [rq6]
    generalize ro (q6 u) = z at *
    simp [RT.c]
    intro g2 hg2 hb2
    have n2g : g2 ≠ g := fun e => by rw [e, hb1] at hb2; cases hb2
    have n2q : g2 ≠ gq := fun e => by rw [e, hbq1] at hb2; cases hb2
    have hb20 : bl g2 = none := fresh_of hsb1 hb2
    simp [n2q, Ne.symm n2q, hbq1, appV, elsV, Int.not_lt.2 hgq, Int.not_lt.2 hg2]
    refine ⟨by omega, fun g3 hg3 hb3 => ?_⟩
    have wk : IntKind.i64.wrap ((us.length : Int) + 1) = (us.length : Int) + 1 := i64_in (by omega) (by omega)
    obtain ⟨n3g, hb30⟩ : ¬ g3 = g ∧ bl g3 = none := by
      by_cases e : g3 = gq
      · rw [e]; exact ⟨nqg, hq0⟩
      · have h3 := hb3 e
        have h4 : b1 g3 = none := by grind
        exact ⟨fun e => (by rw [e, hb1] at h4; cases h4), fresh_of hsb1 h4⟩
    clear hb3
    simp [wk, loopQ_normal]
    refine ⟨⟨us ++ [u], g3, i1, h1, upd (rem (upd b1 g2 (some ⟨3, [z.c]⟩)) gq) g3 (some ⟨3, rv (rq6 us) ++ [z.c]⟩)⟩, ⟨by simp; omega, fun v hv => ?_, hc1, ?_, ⟨hg3, n3g, hb30, ?_⟩, ?_⟩, by simp; omega, rfl, by simp, ?_⟩
    · rcases List.mem_append.1 hv with hv | hv
      · exact hub v hv
      · obtain rfl : v = u := by simpa using hv
        exact hu
    · simp [upd_apply, rem_apply, Ne.symm n3g, Ne.symm nqg, Ne.symm n2g, hb1]
    · simp only [upd_same, eus, rv_append]; rfl
    · intro x y hx
      have e1 : x ≠ g3 := fun e => by rw [e, hb30] at hx; cases hx
      have e2 : x ≠ g2 := fun e => by rw [e, hb20] at hx; cases hx
      have e3 : x ≠ gq := fun e => by rw [e, hq0] at hx; cases hx
      simp [upd_apply, rem_apply, e1, e2, e3, hsb1 x y hx]
    · have et : (rv (rq6 us)).take us.length = rv (rq6 us) := by have := rv_takeall (rq6 us); rwa [rq6_length] at this
      simp [et, RT.c]
  · have hul2 : us.length = s.ms.length := by omega
    refine AW_frzAt 1 8 (.sl (rv (rq6 us))) bl hsb (by
      have e := frz_slice (bl := b) (bl0 := bl) (sz := 3) (n := us.length) hgq hq0 (els := rv (rq6 us)) hbq (by simp) (rv_cl _)
      simpa using e) ?_
    refine AW_run ?_
    simp
    rw [retK_ret]
    exact ⟨[.sl (rv (rq6 us))], by simp, hK us _ hul2 hub (Sub.refl _)⟩
end Go.Proofs.YtmbcofnnibpbeaaGreat.Vm

namespace Go.Proofs.YtmbcofnnibpbeaaGreat.Vm
open Go Go.Proofs
set_option linter.unusedSimpArgs false
set_option linter.unusedVariables false

theorem roInts_append (a b : List Int) : roInts (a ++ b) = roInts a ++ roInts b := by simp [roInts]
@[simp] theorem roInts_length (a : List Int) : (roInts a).length = a.length := by simp [roInts]
theorem frz_sl3 {bl bl0 : Int → Option Blk} {g : Int} {n : Nat} {els : List (List V)} (h0 : 0 ≤ g ∨ n = 0) (hg : bl0 g = none) (hb : bl g = some ⟨3, els⟩) (hn : els.length = n) (hcl : els.all (fun e => e.all V.cl) = true) : frz (dropB bl bl0) 1 (.lsl g 3 0 n) = some (.sl els) := by
  rcases Int.lt_or_le g 0 with h | h
  · rcases h0 with h0 | h0
    · omega
    · have : els = [] := List.eq_nil_of_length_eq_zero (by omega)
      subst this
      simp [frz, h]
  · exact frz_slice h hg hb hn hcl
theorem MatrixOf_ro (r c : Nat) (l : List Int) (hr : r ≤ 24) (hc : c ≤ 24) (hl : l.length = r * c) (hs : ∀ n, n ∈ l → -100 ≤ n ∧ n ≤ 100) : RO Tryz.prog 108 [.int .i64 r, .int .i64 c, .sl (iv l)] (.agg [.int .i64 r, .int .i64 c, .sl (rv (roInts l))]) := by
  have hmul : r * c ≤ 24 * 24 := Nat.mul_le_mul hr hc
  have hw : IntKind.i64.wrap ((r : Int) * (c : Int)) = ((r * c : Nat) : Int) := by
    have : ((r : Int) * (c : Int)) = ((r * c : Nat) : Int) := by simp
    rw [this]; exact i64_in (by omega) (by omega)
  refine ro_of2 Tryz.func108 rfl rfl (by rw [Tryz.ntmps108]; simp) fun bl => ?_
  rw [Tryz.ntmps108, Tryz.results108]
  refine AW_runA ?_
  simp
  intro g6 hg6 hb6
  refine AW_runA ?_
  simp
  refine AW_way [(0, .int .i64 r), (1, .int .i64 c), (2, .sl (iv l)), (6, .loc g6 3 0 0)] _ (upd bl g6 (some ⟨3, [[.int .i64 0, .int .i64 0, .nils]]⟩)) 25 (.bool false) (upd bl g6 (some ⟨3, [[.int .i64 0, .int .i64 0, .nils]]⟩)) ⟨rfl, by simp, Sub.refl _⟩ rfl ?_ ?_
  · simp
    refine callP_ro (l01In_ro _ _ _) ?_
    have h1 : (0 : Int) ≤ r := by omega
    have h2 : (r : Int) ≤ 24 := by omega
    simp [h1, h2]
    refine callP_ro (l01In_ro _ _ _) ?_
    have h3 : (0 : Int) ≤ c := by omega
    have h4 : (c : Int) ≤ 24 := by omega
    simp [h3, h4, hw, hl]
  simp
  refine AW_runA ?_
  simp
  intro g7 hg7
  intros
  have h76 : ¬ g7 = g6 := by assumption
  have hb7 : bl g7 = none := by assumption
  try simp [h76, Ne.symm h76]
  refine AW_ghostCell (g := g7) (s := 3) (els := [[.int .i64 r, .int .i64 c, .nils]]) (e := [.int .i64 r, .int .i64 c, .nils]) 0 2 3 (by simp) rfl rfl fun ga hga hne => ?_
  simp [upd_apply] at hga
  obtain ⟨hga7, hga6, hbga⟩ : ga ≠ g7 ∧ ga ≠ g6 ∧ bl ga = none := by grind
  refine AW_run ?_
  simp [h76, Ne.symm h76]
  refine AW_for (fun p : Int × Nat => [(6, .loc g6 3 0 0), (7, .loc g7 3 0 0), (30, .sl (iv l)), (31, .int .i64 l.length), (32, .int .i64 p.2)]) (fun p => upd (upd (upd bl g6 (some ⟨3, [[.int .i64 0, .int .i64 0, .nils]]⟩)) g7 (some ⟨3, [[.int .i64 r, .int .i64 c, .lsl p.1 3 0 p.2]]⟩)) p.1 (some ⟨3, rv (roInts (l.take p.2))⟩))
    (fun p => p.2 ≤ l.length ∧ bl p.1 = none ∧ p.1 ≠ g6 ∧ p.1 ≠ g7 ∧ (0 ≤ p.1 ∨ p.2 = 0)) (fun p => l.length - p.2) _ (ga, 0) ⟨Nat.zero_le _, hbga, hga6, hga7, .inr rfl⟩ ⟨rfl, by simp, sub_eq (by simp [rv, roInts])⟩ ?_
  rintro ⟨g, i⟩ ⟨hi, hbg, n6, n7, hgi⟩
  simp only at hi hbg n6 n7 hgi
  refine AW_run ?_
  simp
  refine ⟨fun h => ?_, fun h => ?_⟩
  · have hb := hs _ (List.getElem_mem h)
    have hI := RatFromInt_ro l[i] (by omega)
    have hrow : (rv (roInts (l.take i))).take i ++ [[.bool (rq (l[i] : Rat)).neg, .sl (iv (rq (l[i] : Rat)).m), .sl (iv (rq (l[i] : Rat)).d)]] = rv (roInts (l.take (i + 1))) := by
      rw [List.take_add_one, List.getElem?_eq_getElem h, Option.toList_some, roInts_append, rv_append, List.take_of_length_le (by simp; omega)]
      rfl
    have hmin : min i l.length = i := by omega
    simp [h]
    refine AW_mixedBT mixedO (upd bl g7 (some ⟨3, [[.int .i64 r, .int .i64 c, .lsl g 3 0 i]]⟩)) (by intro z b hz; simp only [upd_apply] at hz ⊢; grind) [0, 1, 2, 3] 4 7 (by kernel_rfl) ?_
    simp
    refine hcQ_ro hI ?_
    simp [RT.c]
    refine DAny_one (i := 4) (by kernel_rfl) rfl rfl ?_
    simp [n6, Ne.symm n6, n7, Ne.symm n7, h76, Ne.symm h76]
    intro g2 hg2
    intros
    have h2g : ¬ g2 = g := by assumption
    have h27 : ¬ g2 = g7 := by assumption
    have h26 : ¬ g2 = g6 := by assumption
    have hb2 : bl g2 = none := by assumption
    refine ⟨by intro z b hz; simp only [upd_apply] at hz ⊢; grind, DAny_one (i := 5) (by kernel_rfl) rfl rfl ?_⟩
    simp [appV, elsV, Int.not_lt.2 hg2, h2g, Ne.symm h2g, n6, Ne.symm n6, n7, Ne.symm n7, hmin]
    refine ⟨by omega, fun g3 hg3 hb3 => ?_⟩
    have hb3' : bl g3 = none := by grind
    have h37 : ¬ g3 = g7 := by grind
    have h36 : ¬ g3 = g6 := by grind
    have h32 : ¬ g3 = g2 := by grind
    rw [hrow]
    refine ⟨by intro z b hz; simp only [upd_apply, rem_apply] at hz ⊢; grind, DAny_one (i := 6) (by kernel_rfl) rfl rfl ?_⟩
    simp
    refine ⟨by intro z b hz; simp only [upd_apply, rem_apply] at hz ⊢; grind, DAny_last (i := 7) (by kernel_rfl) rfl rfl rfl ?_⟩
    simp [h37, Ne.symm h37, h27, Ne.symm h27, n7, Ne.symm n7, h2g, Ne.symm h2g]
    refine DAny_done (by kernel_rfl) ?_
    simp (disch := omega) [i64_in, loopQ_normal]
    refine ⟨g3, i + 1, ⟨by omega, hb3', h36, h37, .inl hg3⟩, by omega, rfl, by simp, by intro z b hz; simp only [upd_apply, rem_apply] at hz ⊢; grind⟩
  · have hi2 : i = l.length := by omega
    subst hi2
    rw [List.take_length]
    simp [h76, Ne.symm h76, n6, Ne.symm n6, n7, Ne.symm n7]
    have hz := frz_sl3 (bl := upd (upd (upd (upd bl g6 (some ⟨3, [[.int .i64 0, .int .i64 0, .nils]]⟩)) g7 (some ⟨3, [[.int .i64 r, .int .i64 c, .lsl g 3 0 l.length]]⟩)) g (some ⟨3, rv (roInts l)⟩)) g6 (some ⟨3, [[.int .i64 r, .int .i64 c, .lsl g 3 0 l.length]]⟩)) (bl0 := bl) hgi hbg (els := rv (roInts l)) (by simp [n6]) (by simp) (rv_cl _)
    refine retRO [.agg [.int .i64 r, .int .i64 c, .lsl g 3 0 l.length]] 2 (by simp [h76, Ne.symm h76, n6, Ne.symm n6]) ?_ (by intro z b hz; simp only [upd_apply, rem_apply] at hz ⊢; grind)
    show frz _ 2 (.agg _) = _
    rw [frz_agg]
    simp only [List.mapM_cons, List.mapM_nil, hz, show ∀ (B : Int → Option Blk) (n : Int), frz B 1 (.int .i64 n) = some (.int .i64 n) from fun B n => by simp [frz]]
    rfl

theorem spec_EquilibriumMatrix_ro (s : Str) (hj : s.js.length ≤ 140737488351232) (hm : s.ms.length ≤ 140737488351232) (hn : ∀ j, j ∈ s.js → j.name.size ≤ 140737488351232) : RO Tryz.prog 55 [.agg s.c] (.agg (eqMx s).c3) := by
  refine ro_of2 Tryz.func55 rfl rfl (by rw [Tryz.ntmps55]; simp) fun bl => ?_
  rw [Tryz.ntmps55, Tryz.results55]
  refine AW_run ?_
  simp [Str.c]
  intro g hg0 hg g2 hg2 h2g hb2
  try simp [h2g, Ne.symm h2g]
  refine callP_ro (spec_StructureOk_ro s hj hm hn) ?_
  cases hk : sOk s
  · have hz : eqMx s = ⟨0, 0, []⟩ := by unfold eqMx; rw [hk]; rfl
    rw [hz]
    simp
    exact retRO [.agg [.int .i64 0, .int .i64 0, .nils]] 1 (by simp) (by simp [frz, MX.c3, V.cl, rv]) (by simp [hg, hb2])
  have hs := sOk_of hk
  obtain ⟨hsm, hlen⟩ := eqRows_small hs
  have hrl := eqRows_length s
  have hnj := hs.nj
  have hnm := hs.nm
  have hfl := freesTo_le s.js s.js.length
  change (frees s.js).length ≤ s.js.length at hfl
  have hz : eqMx s = ⟨(eqRows s).length, s.ms.length, roInts (rowsF s)⟩ := by unfold eqMx; rw [hk]; rfl
  have hw : IntKind.i64.wrap (2 * ((frees s.js).length : Int)) = (((eqRows s).length : Nat) : Int) := by
    rw [hrl, i64_in (by omega) (by omega)]; simp
  have hM := MatrixOf_ro (eqRows s).length s.ms.length (rowsF s) (by omega) (by omega) (by rw [rowsF_len, hrl]) (fun n hn => by
    rw [← eqRows_flat] at hn
    obtain ⟨w, hw, hn⟩ := List.mem_flatten.1 hn
    exact hsm w hw n hn)
  rw [hz]
  simp
  refine AW_mixedB mixedO (upd bl g (some ⟨2, [s.c]⟩)) (by (try simp only [Str.c]); intro z b hz; simp only [upd_apply, rem_apply] at hz ⊢; grind) [0, 1, 2, 3, 4, 5, 6, 7, 8, 9] 1 (by kernel_rfl) ?_
  simp [Str.c, h2g, Ne.symm h2g]
  refine hcQ_ro (l12Free_ro s (by omega)) ?_
  simp [Str.c, hw]
  refine hcQ_ro (l14Rows_ro s hs) ?_
  simp
  refine hcQ_ro hM ?_
  simp
  refine DAny_one (i := 10) (by kernel_rfl) rfl rfl ?_
  simp [h2g, Ne.symm h2g]
  refine ⟨by (try simp only [Str.c]); intro z b hz; simp only [upd_apply, rem_apply] at hz ⊢; grind, DAny_done (by kernel_rfl) ?_⟩
  simp
  exact retRO [.agg [.int .i64 (eqRows s).length, .int .i64 s.ms.length, .sl (rv (roInts (rowsF s)))]] 1 (by simp) (by simp [frz, MX.c3, V.cl]) (by simp [hg, hb2])

/-! ### Matrices in the laws -/
def MX.fit (m : MX) : Prop := fitQ m.cells 1048576 ∧ sumQ m.cells ≤ 100000000
theorem eqMx_fit (s : Str) (hm : s.ms.length ≤ 1048576) : (eqMx s).fit := by
  unfold eqMx
  split
  · rename_i hk
    have hs := sOk_of hk
    obtain ⟨hsm, hlen⟩ := eqRows_small hs
    have hnj := hs.nj
    have hnm := hs.nm
    have hfl := freesTo_le s.js s.js.length
    change (frees s.js).length ≤ s.js.length at hfl
    have hrf := rowsF_len s
    have hmul : 2 * (frees s.js).length * s.ms.length ≤ 12 * 8 := Nat.mul_le_mul (by omega) hnm
    have h1 : okL ((rowsF s).map fun (n : Int) => some (n : Rat)) := by
      intro x hx
      obtain ⟨n, hn, rfl⟩ := List.mem_map.1 hx
      rw [← eqRows_flat] at hn
      obtain ⟨w, hw, hn⟩ := List.mem_flatten.1 hn
      have := hsm w hw n hn
      exact okQ_int (by omega)
    have h2 := stQ_fit h1 (by rw [List.length_map]; omega)
    have h3 : stQ ((rowsF s).map fun (n : Int) => some (n : Rat)) = roInts (rowsF s) := by
      unfold stQ
      rw [if_pos (by simp [allSome])]
      simp [roAll, roInts]
    rw [h3] at h2
    exact h2
  · exact ⟨⟨by simp, fun r hr => by cases hr⟩, by simp [sumQ]⟩
def mkMx (k : Nat) (m : MX) : MX := ⟨m.r, m.c, mkQs k m.cells⟩
theorem frz_mx {bl : Int → Option Blk} {m : MX} {vs : List V} {gs : List Int} (h : OwnL bl (dMx m) vs gs) (n : Nat) : frz bl (n + 3) (.agg vs) = some (.agg m.c3) := by
  obtain ⟨w, rfl, ow⟩ := own_mx.1 h
  have hz := frz_rs ow n
  rw [frz_agg]
  simp only [List.mapM_cons, List.mapM_nil, hz, show ∀ (B : Int → Option Blk) (k : Nat) (n : Int), frz B k (.int .i64 n) = some (.int .i64 n) from fun B k n => by cases k <;> simp [frz]]
  rfl
theorem dMx_sc (m : MX) : (D.a (dMx m)).sc = true := by simp [D.sc, dMx, D.scL, dRs_sc, V.ow]
theorem impl_EquilibriumMatrix_ro (s : Str) (hj : s.js.length ≤ 140737488351232) (hm : s.ms.length ≤ 140737488351232) (hn : ∀ j, j ∈ s.js → j.name.size ≤ 140737488351232) : RO Tryz.prog 12 [.agg s.c] (.agg (eqMx s).c3) := by
  have := ro_of_nw 3 (impl_EquilibriumMatrix_nw s hj hm hn) (by rw [D.dep]; exact ⟨by omega, by simp [dMx, D.depL, D.dep, dRs_dep]⟩)
  rwa [D.fz, show D.fzL (dMx (eqMx s)) = (eqMx s).c3 by simp [dMx, D.fzL, D.fz, dRs_fz, MX.c3]] at this

end Go.Proofs.YtmbcofnnibpbeaaGreat.Vm

namespace Go.Proofs.YtmbcofnnibpbeaaGreat.Vm
open Go Go.Proofs
set_option linter.unusedSimpArgs false
set_option linter.unusedVariables false

theorem open1_ro (L : List (Option Rat)) (r c : Nat) (cells : List V) (hL : L.length = r * c) (hr : r ≤ 24) (hc : c ≤ 24) (i k : Nat) (hi : i < r) (hk : k < c) (x : V) : RO Tryz.prog 86 [.int .i64 i, .int .i64 k, .ptr [.sl (fvs L)], .ptr [.int .i64 r, .int .i64 c, x]] (fv (L.getD (i * c + k) none)) := by
  have hlt : i * c + k < r * c := by
    have h1 : (i + 1) * c ≤ r * c := Nat.mul_le_mul_right _ hi
    rw [Nat.add_mul, Nat.one_mul] at h1; omega
  have hm : r * c ≤ 24 * 24 := Nat.mul_le_mul hr hc
  have e0 : (i : Int) * (c : Int) = ((i * c : Nat) : Int) := (Int.natCast_mul i c).symm
  obtain ⟨t, ht⟩ : ∃ t, i * c + k = t := ⟨_, rfl⟩
  have w1 : IntKind.i64.wrap ((i : Int) * (c : Int)) = (i : Int) * (c : Int) := i64_in (by omega) (by omega)
  have w2 : IntKind.i64.wrap ((i : Int) * (c : Int) + (k : Int)) = (t : Int) := by rw [i64_in (by omega) (by omega)]; omega
  have hlt2 : t < L.length := by omega
  rw [ht, getD_at _ _ _ hlt2]
  refine ro_of2 Tryz.func86 rfl rfl (by rw [Tryz.ntmps86]; simp) fun bl => ?_
  rw [Tryz.ntmps86, Tryz.results86]
  refine AW_run ?_
  simp [w1, w2, hlt2]
  exact retRO [fv L[t]] 0 (by simp) (frz_cl (fv_cl _)) (Sub.refl _)
theorem open_ro (m : MX) (r c : Nat) (h1 : m.r = r) (h2 : m.c = c) (hr : r ≤ 24) (hc : c ≤ 24) (hl : m.cells.length = r * c) (ha : allOk m.cells = true) (hq : fitQ m.cells 1048576) : RO Tryz.prog 40 [.agg m.c3] (.tup [.agg [.int .i64 r, .int .i64 c, .sl (gv (gridOf r c fun i k => (rdAll m.cells).getD (i * c + k) none))], .bool true]) := by
  have hL := loads_ro m.cells hq
  rw [ha] at hL
  have hm : r * c ≤ 24 * 24 := Nat.mul_le_mul hr hc
  have e0 : (r : Int) * (c : Int) = ((r * c : Nat) : Int) := (Int.natCast_mul r c).symm
  have w1 : IntKind.i64.wrap ((r : Int) * (c : Int)) = ((r * c : Nat) : Int) := by rw [e0]; exact i64_in (by omega) (by omega)
  have hG := ro_of_nw 3 (newGrid_nw r c (by omega) (by omega) 86 [.ptr [.sl (fvs (rdAll m.cells))], .ptr [.int .i64 r, .int .i64 c, .sl (rv m.cells)]] (fun i k => (rdAll m.cells).getD (i * c + k) none) (fun i k hi hk => open1_ro (rdAll m.cells) r c [] (by simpa using hl) hr hc i k hi hk _)) (dG_dep _ _ _)
  rw [dG_fz] at hG
  have ec : m.c3 = [.int .i64 r, .int .i64 c, .sl (rv m.cells)] := by unfold MX.c3; rw [h1, h2]
  rw [ec]
  refine ro_of2 Tryz.func40 rfl rfl (by rw [Tryz.ntmps40]; simp) fun bl => ?_
  rw [Tryz.ntmps40, Tryz.results40]
  refine AW_runA ?_
  simp
  intro g hg0 hg g2 hg2 h2g hb2
  refine AW_frzAt 1 1 (.ptr [.int .i64 r, .int .i64 c, .sl (rv m.cells)]) (upd bl g2 (some ⟨3, [[.int .i64 0, .int .i64 0, .nils]]⟩)) (by intro z b hz; simp only [upd_apply] at hz ⊢; grind) (by simp [frz, dropB, hg, h2g, Ne.symm h2g, V.cl]) ?_
  refine AW_runA ?_
  simp
  refine AW_way0 [(1, .ptr [.int .i64 r, .int .i64 c, .sl (rv m.cells)]), (2, .loc g2 3 0 0), (3, .bool false)] _ (upd bl g2 (some ⟨3, [[.int .i64 0, .int .i64 0, .nils]]⟩)) 34 (.bool false) ⟨rfl, by simp, Sub.refl _⟩ rfl ?_ ?_
  · have n1 : ¬ (r : Int) < 0 := by omega
    have n2 : ¬ (24 : Int) < r := by omega
    have n3 : ¬ (c : Int) < 0 := by omega
    have n4 : ¬ (24 : Int) < c := by omega
    simp [n1, n2, n3, n4, w1, hl]
  simp
  refine AW_runA ?_
  simp
  refine callP_ro hL ?_
  simp
  intro g4 hg4 h42 hb4
  refine AW_frzAt 1 4 (.ptr [.sl (fvs (rdAll m.cells))]) (upd bl g2 (some ⟨3, [[.int .i64 0, .int .i64 0, .nils]]⟩)) (by intro z b hz; simp only [upd_apply] at hz ⊢; grind) (by simp [frz, dropB, hb4, h42, Ne.symm h42, V.cl]) ?_
  refine AW_run ?_
  simp
  refine callP_ro hG ?_
  simp
  exact retRO [.agg [.int .i64 r, .int .i64 c, .sl (gv (gridOf r c fun i k => (rdAll m.cells).getD (i * c + k) none))], .bool true] 2 (by simp) (by simp [frz, V.cl]) (by simp [hb2])

theorem inner_ro (a b : List (Option Rat)) (ha : okL a) (hb : okL b) (hl : a.length ≤ b.length) (hn : a.length ≤ 1000000) : RO Tryz.prog 88 [.sl (fvs a), .sl (fvs b)] (fv (inTo a b a.length)) := by
  have w0 := whole_ro 0 (by omega)
  rw [zero_cast] at w0
  refine ro_of2 Tryz.func88 rfl rfl (by rw [Tryz.ntmps88]; simp) fun bl => ?_
  rw [Tryz.ntmps88, Tryz.results88]
  refine AW_run ?_
  simp
  refine callP_ro w0 ?_
  simp
  refine AW_for (fun i : Nat => [(0, .sl (fvs a)), (1, .sl (fvs b)), (5, fv (inTo a b i)), (9, .int .i64 a.length), (10, .int .i64 i)]) (fun _ => bl) (fun i => i ≤ a.length) (fun i => a.length - i) _ 0 (Nat.zero_le _) ⟨rfl, by simp [inTo], Sub.refl _⟩ ?_
  intro i hi
  have wi : IntKind.i64.wrap ((i : Int) + 1) = (i : Int) + 1 := i64_in (by omega) (by omega)
  refine AW_run ?_
  simp
  refine ⟨fun h => ?_, fun h => ?_⟩
  · have h2 : i < b.length := by omega
    have e1 : inTo a b (i + 1) = op2 (· + ·) (inTo a b i) (op2 (· * ·) a[i] b[i]) := by rw [inTo, getD_at _ _ _ h, getD_at _ _ _ h2]
    have hA := add_ro _ _ (inTo_ok a b i) (okQ_op2 (· * ·) a[i] b[i])
    rw [← e1] at hA
    refine AW_quiet mixedO (by kernel_rfl) ?_
    simp [h, h2]
    refine hcQ_ro (mul_ro a[i] b[i] (ha _ (List.getElem_mem h)) (hb _ (List.getElem_mem h2))) ?_
    simp
    refine hcQ_ro hA ?_
    simp [wi, loopQ_normal]
    exact ⟨i + 1, by omega, by omega, rfl, by simp, Sub.refl _⟩
  · have hi2 : i = a.length := by omega
    subst hi2
    exact retRO [fv (inTo a b a.length)] 0 (by simp) (frz_cl (fv_cl _)) (Sub.refl _)
def appl (cells : List (List (Option Rat))) (v : List (Option Rat)) : List (Option Rat) := cells.map fun row => inTo row v row.length
theorem applied_ro (cells : List (List (Option Rat))) (c : Nat) (v : List (Option Rat)) (hn : cells.length ≤ 1000) (hv : okL v) (hc : ∀ w, w ∈ cells → okL w ∧ w.length = c) (hl : c ≤ v.length) (hc2 : c ≤ 1000000) : RO Tryz.prog 43 [.agg [.int .i64 cells.length, .int .i64 c, .sl (gv cells)], .sl (fvs v)] (.sl (fvs (appl cells v))) := by
  refine ro_of2 Tryz.func43 rfl rfl (by rw [Tryz.ntmps43]; simp) fun bl => ?_
  rw [Tryz.ntmps43, Tryz.results43]
  refine AW_runA ?_
  simp
  intro g hg0 hg
  refine AW_frzAt 1 2 (.ptr [.int .i64 cells.length, .int .i64 c, .sl (gv cells)]) bl (by simp [hg]) (by simp [frz, dropB, hg, gv, V.cl, fvs_cl]) ?_
  refine AW_run ?_
  simp
  refine ⟨by omega, by unfold maxLen; omega, fun g5 hg5 hb5 => ?_⟩
  refine AW_for (fun i : Nat => [(1, .sl (fvs v)), (2, .ptr [.int .i64 cells.length, .int .i64 c, .sl (gv cells)]), (5, .lsl g5 1 0 cells.length), (11, .int .i64 cells.length), (12, .int .i64 i)]) (fun i => upd bl g5 (some ⟨1, part (fvs (appl cells v)) [.nilp] i⟩)) (fun i => i ≤ cells.length) (fun i => cells.length - i) _ 0 (Nat.zero_le _) ⟨rfl, by simp, sub_eq (by simp [appl])⟩ ?_
  intro i hi
  have wi : IntKind.i64.wrap ((i : Int) + 1) = (i : Int) + 1 := i64_in (by omega) (by omega)
  refine AW_run ?_
  simp
  refine ⟨fun h => ?_, fun h => ?_⟩
  · have hi' : i < (fvs (appl cells v)).length := by simp [appl]; exact h
    have hpl : i < (part (fvs (appl cells v)) [.nilp] i).length := by simp [part, appl]; omega
    have hpi : (part (fvs (appl cells v)) [.nilp] i)[i]? = some [.nilp] := part_get _ _ _ hi'
    have hpe : (part (fvs (appl cells v)) [.nilp] i)[i] = [.nilp] := by
      rw [List.getElem?_eq_getElem hpl] at hpi; exact Option.some.inj hpi
    have hset : (part (fvs (appl cells v)) [.nilp] i).set i [fv (inTo cells[i] v cells[i].length)] = part (fvs (appl cells v)) [.nilp] (i + 1) := by
      rw [part_set _ _ _ hi']
      simp [appl]
    obtain ⟨q1, q2⟩ := hc _ (List.getElem_mem h)
    have hI := inner_ro cells[i] v q1 hv (by omega) (by omega)
    simp [h]
    refine callP_ro hI ?_
    simp [h, hpl, hpe, wi, loopQ_normal]
    refine ⟨i + 1, by omega, by omega, rfl, by simp, ?_⟩
    intro z y hz
    simp only [upd_apply, hset] at hz ⊢
    grind
  · have hi2 : i = cells.length := by omega
    subst hi2
    rw [part_all _ _ _ (by simp [appl])]
    exact retRO [.lsl g5 1 0 cells.length] 1 (by simp) (frz_slice (sz := 1) (n := cells.length) hg5 hb5 (els := fvs (appl cells v)) (by simp) (by simp [appl]) (fvs_cl _)) (by simp [hb5])
end Go.Proofs.YtmbcofnnibpbeaaGreat.Vm

namespace Go.Proofs.YtmbcofnnibpbeaaGreat.Vm
open Go Go.Proofs
set_option linter.unusedSimpArgs false
set_option linter.unusedVariables false

theorem iv_set27 (l : List Int) (k : Nat) (v : Int) : (iv l).set k [.int .i64 v] = iv (l.set k v) := by
  unfold iv; rw [List.map_set]
theorem all_set2 {p : Int → Bool} {l : List Int} {a b : Nat} {v w : Int} (h : l.all p = true) (ha : a < l.length) (hb : b < l.length) (hab : a ≠ b) : ((l.set a v).set b w).all p = (p v && p w) := by
  rw [Bool.eq_iff_iff, Bool.and_eq_true, List.all_eq_true]
  constructor
  · intro h1
    refine ⟨h1 v ?_, h1 w ?_⟩
    · refine List.mem_iff_getElem.2 ⟨a, by simpa using ha, ?_⟩
      rw [List.getElem_set_ne (Ne.symm hab), List.getElem_set_self]
    · exact List.mem_iff_getElem.2 ⟨b, by simpa using hb, List.getElem_set_self _⟩
  · rintro ⟨h1, h2⟩ x hx
    rcases List.mem_or_eq_of_mem_set hx with hx | rfl
    · rcases List.mem_or_eq_of_mem_set hx with hx | rfl
      · exact List.all_eq_true.1 h x hx
      · exact h1
    · exact h2

def putOk (s : Str) (l : List Int) (j x y : Int) : Bool := lOk s l && (decide (0 ≤ j) && decide (j < s.js.length)) && (decide (-200 ≤ x) && decide (x ≤ 200)) && (decide (-200 ≤ y) && decide (y ≤ 200)) &&
  forceOk (lat l (2 * j.toNat) + x) && forceOk (lat l (2 * j.toNat + 1) + y)
def put1 (l : List Int) (j x : Int) : List Int := l.set (2 * j.toNat) (lat l (2 * j.toNat) + x)
def put2 (l : List Int) (j x y : Int) : List Int := (put1 l j x).set (2 * j.toNat + 1) (lat l (2 * j.toNat + 1) + y)
def putL (s : Str) (l : List Int) (j x y : Int) : List Int := if putOk s l j x y = true then put2 l j x y else []
def dOpt (ns : List Int) (b : Bool) : D := .t [fl 1 (iv ns), .c (.bool b)]
theorem own_opt {bl : Int → Option Blk} {ns : List Int} {b : Bool} {v : V} {gs : List Int} : OwnD bl (dOpt ns b) v gs ↔ ∃ u, v = .tup [u, .bool b] ∧ OwnD bl (fl 1 (iv ns)) u gs := by
  unfold dOpt
  rw [OwnD]
  constructor
  · rintro ⟨vs, rfl, h⟩
    obtain ⟨u, w, g1, g2, rfl, rfl, _, h1, h2⟩ := own_pair.1 h
    rw [OwnD] at h2
    obtain ⟨rfl, _, rfl⟩ := h2
    exact ⟨u, rfl, by simpa using h1⟩
  · rintro ⟨u, rfl, h⟩
    exact ⟨_, rfl, own_pair.2 ⟨u, _, gs, [], rfl, by simp, by simp, h, by rw [OwnD]; exact ⟨rfl, rfl, rfl⟩⟩⟩
theorem dOpt_fz (ns : List Int) (b : Bool) : (dOpt ns b).fz = .tup [.sl (iv ns), .bool b] := by simp [dOpt, D.fz, D.fzL]
theorem dOpt_dep (ns : List Int) (b : Bool) : (dOpt ns b).dep 2 := by
  unfold dOpt; rw [D.dep]; refine ⟨by omega, ?_⟩; simp [D.depL, fl_dep, D.dep]
theorem dOpt_sc (ns : List Int) (b : Bool) : (dOpt ns b).sc = true := by
  simp [dOpt, D.sc, D.scL, fl_sc (iv_ow _), V.ow]

end Go.Proofs.YtmbcofnnibpbeaaGreat.Vm

namespace Go.Proofs.YtmbcofnnibpbeaaGreat.Vm
open Go Go.Proofs
set_option linter.unusedSimpArgs false
set_option linter.unusedVariables false

end Go.Proofs.YtmbcofnnibpbeaaGreat.Vm

namespace Go.Proofs.YtmbcofnnibpbeaaGreat.Vm
open Go Go.Proofs
set_option linter.unusedSimpArgs false
set_option linter.unusedVariables false

theorem putL_le (s : Str) (l : List Int) (j x y : Int) (hl : l.length ≤ 1048576) : (putL s l j x y).length ≤ 1048576 := by
  unfold putL; split
  · simp [put2, put1]; exact hl
  · simp

end Go.Proofs.YtmbcofnnibpbeaaGreat.Vm

namespace Go.Proofs.YtmbcofnnibpbeaaGreat.Vm
open Go Go.Proofs
set_option linter.unusedSimpArgs false
set_option linter.unusedVariables false

def szW : List (List Int) → Int → Int
  | [], left => left
  | w :: ws, left => if less left w.length < 0 then -1 else szW ws (less left w.length)
def szII (ws : List (List Int)) (left : Int) : Int := if less left ws.length < 0 then -1 else szW ws (less left ws.length)

theorem szW_le : ∀ (ws : List (List Int)) (left : Int), -1 ≤ left ∧ left ≤ 1048576 → 0 ≤ szW ws left → (∀ w, w ∈ ws → (w.length : Int) ≤ left) ∧ (ws.flatten.length : Int) ≤ left
  | [], left, h, h0 => ⟨fun w hw => (by cases hw), by simp [szW] at h0; simpa using h0⟩
  | w :: ws, left, h, h0 => by
    unfold szW at h0
    split at h0
    · omega
    · rename_i hn
      have h1 := less_le (left := left) (n := w.length) h
      have h2 : less left w.length = left - w.length := by unfold less at *; split <;> split at * <;> omega
      obtain ⟨h3, h4⟩ := szW_le ws _ h1 h0
      refine ⟨fun v hv => ?_, ?_⟩
      · rcases List.mem_cons.1 hv with rfl | hv
        · omega
        · have := h3 v hv; omega
      · simp only [List.flatten_cons, List.length_append]; omega
theorem szII_le {ws : List (List Int)} {left : Int} (h : -1 ≤ left ∧ left ≤ 1048576) (h0 : 0 ≤ szII ws left) : (ws.length : Int) ≤ left ∧ (∀ w, w ∈ ws → (w.length : Int) ≤ left) ∧ (ws.flatten.length : Int) ≤ left := by
  unfold szII at h0
  split at h0
  · omega
  · rename_i hn
    have h1 := less_le (left := left) (n := ws.length) h
    have h2 : less left ws.length = left - ws.length := by unfold less at *; split <;> split at * <;> omega
    obtain ⟨h3, h4⟩ := szW_le ws _ h1 h0
    exact ⟨by omega, fun w hw => by have := h3 w hw; omega, by omega⟩

/-! ### Marks -/
def lenTo (ws : List (List Int)) (i : Nat) : Nat := (ws.take i).flatten.length
theorem lenTo_succ (ws : List (List Int)) (i : Nat) (h : i < ws.length) : lenTo ws (i + 1) = lenTo ws i + ws[i].length := by
  unfold lenTo
  rw [List.take_add_one, List.getElem?_eq_getElem h]
  simp only [Option.toList_some, List.flatten_append, List.flatten_cons, List.flatten_nil, List.append_nil, List.length_append]
theorem lenTo_le (ws : List (List Int)) (i : Nat) : lenTo ws i ≤ ws.flatten.length := by
  unfold lenTo
  conv => rhs; rw [← List.take_append_drop i ws]
  rw [List.flatten_append, List.length_append]
  omega
/-- What is known of data whose marks don't matter any more: only where it lies. -/
def Some2 (bl : Int → Option Blk) (n : Nat) (v : V) (gs : List Int) : Prop := ∃ rows els, rows.length = n ∧ ((rows = [] ∧ v = .nils ∧ gs = []) ∨ ∃ g gs', v = .lsl g 1 0 n ∧ gs = g :: gs' ∧ g ∉ gs' ∧ bl g = some ⟨1, els⟩ ∧ (g < 0 → els = []) ∧ OwnR bl 1 rows els gs')

structure St2 where
  i : Nat
  b : Int → Option Blk

/-! ### Arguments -/
theorem bytes_ints : 1 ≤ Tryz.prog.bytesOf 27 := by
  have : Tryz.prog.bytesOf 27 = 24 := by kernel_rfl
  omega
structure FitW (ws : List (List Int)) : Prop where
  n : ws.length ≤ 140737488351232
  w : ∀ w, w ∈ ws → w.length ≤ 140737488351232
theorem ivv_of_co {cs : List V} (h : CO Tryz.prog 133 cs) : ∃ ws : List (List Int), cs = [.sl (ivv ws)] ∧ FitW ws := by
  obtain ⟨xs, rfl, hx, hl⟩ := co_slice Tryz.underlying133 h
  have : ∃ ws : List (List Int), xs = ivv ws ∧ ∀ w, w ∈ ws → w.length ≤ 140737488351232 := by
    clear hl h
    induction xs with
    | nil => exact ⟨[], rfl, fun n hn => by cases hn⟩
    | cons x xs ih =>
      obtain ⟨ws, rfl, hws⟩ := ih fun y hy => hx y (List.mem_cons_of_mem _ hy)
      obtain ⟨w, rfl, hw, _⟩ := iv_of_co (hx x List.mem_cons_self)
      refine ⟨w :: ws, rfl, fun m hm => ?_⟩
      rcases List.mem_cons.1 hm with rfl | hm
      · omega
      · exact hws m hm
  obtain ⟨ws, rfl, hws⟩ := this
  have := len_of hl bytes_ints
  exact ⟨ws, rfl, by simpa using this, hws⟩

end Go.Proofs.YtmbcofnnibpbeaaGreat.Vm

namespace Go.Proofs.YtmbcofnnibpbeaaGreat.Vm
open Go Go.Proofs
set_option linter.unusedSimpArgs false
set_option linter.unusedVariables false

theorem callP_one {P : Program} {f : FuncId} {xs : List V} {bl : Int → Option Blk} {V0 : Int → V} {B : Blk}
    (h : CallP P f xs bl fun v bl' => ∃ g : Int, 0 ≤ g ∧ bl g = none ∧ v = V0 g ∧ bl' g = some B ∧ Sub bl bl') : CallP P f xs bl fun v bl' => ∃ g : Int, 0 ≤ g ∧ bl g = none ∧ v = V0 g ∧ bl' = upd bl g (some B) :=
  ⟨h.1, fun w0 M F w vs hm hr => (h.2 w0 M F w vs hm hr).mono fun e w' ⟨v, x, bl', F', h1, h2, h3, h4, h5, h6, g, h7, h8, h9, h10, h11⟩ => by
    refine ⟨v, x, upd bl g (some B), F', h1, h2, h3, h4, h5.sub fun y b hb => ?_, h6, g, h7, h8, h9, rfl⟩
    rw [upd_apply] at hb
    split at hb
    · rename_i e; rw [e, h10, hb]
    · exact h11 y b hb⟩

theorem impl_NoLoad_one (s : Str) (hs : s.sz) (h : sOk s = true) (bl : Int → Option Blk) : CallP Tryz.prog 33 [.agg s.c] bl fun v bl' => ∃ g : Int, 0 ≤ g ∧ bl g = none ∧ v = .lsl g 1 0 (2 * s.js.length) ∧ bl' = upd bl g (some ⟨1, iv (List.replicate (2 * s.js.length) 0)⟩) := by
  have hj := hs.js
  refine callP_one (V0 := fun g => .lsl g 1 0 (2 * s.js.length)) ?_
  refine callP_of Tryz.func33 rfl rfl (by rw [Tryz.ntmps33]; simp) ?_
  rw [Tryz.ntmps33, Tryz.results33]
  refine AW_run ?_
  simp [Str.c]
  intro g hg0 hg
  refine callP_ro (impl_StructureOk_ro s hs.js hs.ms hs.nm) ?_
  simp [h]
  have h6 := (sOk_of h).nj
  simp (disch := omega) [i64_in]
  refine ⟨2 * s.js.length, by simp, by simp, by omega, by unfold maxLen; omega, fun g1 hg1 hb1 => ?_⟩
  simp at hb1
  obtain ⟨h1g, hb1⟩ := hb1
  simp
  rw [retK_ret]
  refine ⟨[.lsl g1 1 0 (2 * s.js.length)], by simp, g1, hg1, hb1, rfl, by simp [iv], by simp [hb1, hg]⟩

/-! ### Mixtures -/
def mixC (ws : List (List Int)) (wt : List Int) (i : Nat) : Nat → Int
  | 0 => 0
  | c + 1 => mixC ws wt i c + lat wt c * lat (ws.getD c []) i
def mixL (m : Nat) (ws : List (List Int)) (wt : List Int) (c : Nat) : List Int := (List.range m).map fun i => mixC ws wt i c
@[simp] theorem mixL_length (m : Nat) (ws : List (List Int)) (wt : List Int) (c : Nat) : (mixL m ws wt c).length = m := by simp [mixL]
@[simp] theorem mixL_getE (m : Nat) (ws : List (List Int)) (wt : List Int) (c i : Nat) (h : i < (mixL m ws wt c).length) : (mixL m ws wt c)[i] = mixC ws wt i c := by simp [mixL]
theorem mixL_zero (m : Nat) (ws : List (List Int)) (wt : List Int) : mixL m ws wt 0 = List.replicate m 0 := by
  apply List.ext_getElem <;> simp [mixL, mixC]
def cOk (s : Str) (ws : List (List Int)) (wt : List Int) (c : Nat) : Bool := fitsL s.js (ws.getD c []) && (decide (0 ≤ lat wt c) && decide (lat wt c ≤ 100))
def mixOk (s : Str) (ws : List (List Int)) (wt : List Int) : Bool := decide (ws.length = wt.length) && decide (ws.length ≤ 10) && sOk s && decide (∀ c, c < ws.length → cOk s ws wt c = true) && fitsL s.js (mixL (2 * s.js.length) ws wt ws.length)
def mixR (s : Str) (ws : List (List Int)) (wt : List Int) : List Int := if mixOk s ws wt = true then mixL (2 * s.js.length) ws wt ws.length else []
theorem cOk_of {s : Str} {ws : List (List Int)} {wt : List Int} {c : Nat} (h : cOk s ws wt c = true) : (ws.getD c []).length = 2 * s.js.length ∧ (∀ i, i < 2 * s.js.length → -100 ≤ lat (ws.getD c []) i ∧ lat (ws.getD c []) i ≤ 100) ∧ 0 ≤ lat wt c ∧ lat wt c ≤ 100 := by
  unfold cOk at h
  simp only [Bool.and_eq_true, decide_eq_true_eq] at h
  obtain ⟨h1, h2⟩ := fitsL_of h.1
  exact ⟨h1, fun i hi => h2 i (by omega), h.2⟩
theorem mix_step {s : Str} {ws : List (List Int)} {wt : List Int} {c i : Nat} (h : cOk s ws wt c = true) (hi : i < 2 * s.js.length) : -10000 ≤ lat wt c * lat (ws.getD c []) i ∧ lat wt c * lat (ws.getD c []) i ≤ 10000 := by
  obtain ⟨_, h2, h3⟩ := cOk_of h
  have := mul_le (a := lat wt c) (p := 100) (by omega) (h2 i hi)
  omega
theorem mixC_le {s : Str} {ws : List (List Int)} {wt : List Int} {i : Nat} (hi : i < 2 * s.js.length) : ∀ c, (∀ d, d < c → cOk s ws wt d = true) → -(10000 * c : Int) ≤ mixC ws wt i c ∧ mixC ws wt i c ≤ 10000 * c
  | 0, _ => by simp [mixC]
  | c + 1, h => by
    have h1 := mixC_le hi c fun d hd => h d (by omega)
    have h2 := mix_step (h c (by omega)) hi
    simp only [mixC]
    omega

end Go.Proofs.YtmbcofnnibpbeaaGreat.Vm

namespace Go.Proofs.YtmbcofnnibpbeaaGreat.Vm
open Go Go.Proofs
set_option linter.unusedSimpArgs false
set_option linter.unusedVariables false

theorem mixR_le (s : Str) (ws : List (List Int)) (wt : List Int) : (mixR s ws wt).length ≤ 12 := by
  unfold mixR
  split
  · rename_i h
    unfold mixOk at h
    simp only [Bool.and_eq_true] at h
    have := (sOk_of h.1.1.2).nj
    simp; omega
  · simp

end Go.Proofs.YtmbcofnnibpbeaaGreat.Vm

namespace Go.Proofs.YtmbcofnnibpbeaaGreat.Vm
open Go Go.Proofs
set_option linter.unusedSimpArgs false
set_option linter.unusedVariables false

theorem mix2 (N : Nat) (l m : List Int) (a b : Int) (i : Nat) (h : i < N) : lat (mixL N [l, m] [a, b] 2) i = a * lat l i + b * lat m i := by
  have h2 : i < (mixL N [l, m] [a, b] 2).length := by simpa using h
  rw [show lat (mixL N [l, m] [a, b] 2) i = (mixL N [l, m] [a, b] 2).getD i 0 from rfl, getD_at _ _ _ h2, mixL_getE]
  simp [mixC, lat]
theorem sumX_mix (N : Nat) (l m : List Int) (a b : Int) : ∀ n, 2 * n ≤ N → sumX (mixL N [l, m] [a, b] 2) n = a * sumX l n + b * sumX m n
  | 0, _ => by simp [sumX]
  | n + 1, h => by rw [sumX, sumX, sumX, sumX_mix N l m a b n (by omega), mix2 N l m a b _ (by omega)]; grind
theorem sumY_mix (N : Nat) (l m : List Int) (a b : Int) : ∀ n, 2 * n ≤ N → sumY (mixL N [l, m] [a, b] 2) n = a * sumY l n + b * sumY m n
  | 0, _ => by simp [sumY]
  | n + 1, h => by rw [sumY, sumY, sumY, sumY_mix N l m a b n (by omega), mix2 N l m a b _ (by omega)]; grind
theorem mom_mix (s : Str) (x y : Int) (N : Nat) (l m : List Int) (a b : Int) : ∀ n, 2 * n ≤ N → momTo s (mixL N [l, m] [a, b] 2) x y n = a * momTo s l x y n + b * momTo s m x y n
  | 0, _ => by simp [momTo]
  | n + 1, h => by
    rw [momTo, momTo, momTo, mom_mix s x y N l m a b n (by omega), mix2 N l m a b _ (by omega), mix2 N l m a b _ (by omega)]
    generalize momTo s l x y n = p
    generalize momTo s m x y n = q
    grind
theorem lat_in {l : List Int} {B : Int} (hB : 0 ≤ B) (h : ∀ x, x ∈ l → -B ≤ x ∧ x ≤ B) (i : Nat) : -B ≤ lat l i ∧ lat l i ≤ B := by
  rcases Nat.lt_or_ge i l.length with h1 | h1
  · rw [show lat l i = l.getD i 0 from rfl, getD_at _ _ _ h1]; exact h _ (List.getElem_mem h1)
  · rw [show lat l i = l.getD i 0 from rfl, List.getD_eq_getElem?_getD, List.getElem?_eq_none h1]; simp; omega
theorem mul3 {a x : Int} (ha : 0 ≤ a ∧ a ≤ 3) (hx : -8 ≤ x ∧ x ≤ 8) : -24 ≤ a * x ∧ a * x ≤ 24 := by
  rcases (show a = 0 ∨ a = 1 ∨ a = 2 ∨ a = 3 by omega) with rfl | rfl | rfl | rfl <;> omega
theorem mixOk2 {s : Str} {l m : List Int} {a b : Int} (hl : lOk s l = true) (hm : lOk s m = true) (bl : ∀ x, x ∈ l → -8 ≤ x ∧ x ≤ 8) (bm : ∀ x, x ∈ m → -8 ≤ x ∧ x ≤ 8) (ha : 0 ≤ a ∧ a ≤ 3) (hb : 0 ≤ b ∧ b ≤ 3) : mixOk s [l, m] [a, b] = true := by
  have hl' := hl
  have hm' := hm
  unfold lOk at hl hm
  rw [Bool.and_eq_true] at hl hm
  unfold mixOk
  simp only [Bool.and_eq_true, decide_eq_true_eq]
  refine ⟨⟨⟨⟨rfl, by simp⟩, hl.1⟩, fun c hc => ?_⟩, ?_⟩
  · have : c = 0 ∨ c = 1 := by simp at hc; omega
    rcases this with rfl | rfl
    · unfold cOk; simp [lat]; exact ⟨hl.2, by omega⟩
    · unfold cOk; simp [lat]; exact ⟨hm.2, by omega⟩
  · unfold fitsL
    rw [Bool.and_eq_true]
    refine ⟨by simp, List.all_eq_true.2 fun x hx => ?_⟩
    obtain ⟨i, hi, rfl⟩ := List.getElem_of_mem hx
    have hi' : i < (mixL (2 * s.js.length) [l, m] [a, b] 2).length := hi
    have h2 := mix2 (2 * s.js.length) l m a b i (by simpa using hi)
    rw [show lat _ i = (mixL (2 * s.js.length) [l, m] [a, b] 2).getD i 0 from rfl, getD_at _ _ _ hi'] at h2
    show forceOk ((mixL (2 * s.js.length) [l, m] [a, b] 2)[i]) = true
    rw [h2]
    have h3 := mul3 ha (lat_in (by omega) bl i)
    have h4 := mul3 hb (lat_in (by omega) bm i)
    simp [forceOk]; omega
theorem sumX_put {l : List Int} {j x y : Int} (hj : 0 ≤ j) (hlen : 2 * j.toNat + 1 < l.length) : ∀ n, sumX (put2 l j x y) n = sumX l n + if j.toNat < n then x else 0
  | 0 => by simp [sumX]
  | n + 1 => by
    rw [sumX, sumX, sumX_put hj hlen n]
    have : lat (put2 l j x y) (2 * n) = lat l (2 * n) + if n = j.toNat then x else 0 := by
      unfold put2 put1 lat
      rw [List.getD_eq_getElem?_getD, List.getElem?_set_ne (by omega)]
      by_cases e : n = j.toNat
      · rw [e, List.getElem?_set_self (by omega)]; simp
      · rw [List.getElem?_set_ne (by omega), if_neg e, List.getD_eq_getElem?_getD]; simp
    rw [this]
    by_cases e : n = j.toNat
    · simp [e]; omega
    · by_cases e2 : j.toNat < n
      · simp [e, e2]; rw [if_pos (by omega)]; omega
      · simp [e, e2]; rw [if_neg (by omega)]; omega
theorem sz_of {s : Str} (h : sOk s = true) : s.sz := by
  have hs := sOk_of h
  have h1 := hs.nj
  have h2 := hs.nm
  refine ⟨by omega, by omega, fun j hj => ?_⟩
  unfold sOk at h
  simp only [Bool.and_eq_true, decide_eq_true_eq] at h
  obtain ⟨i, hi, rfl⟩ := List.getElem_of_mem hj
  have := (h.1.2 i hi).1
  unfold J.ok isName at this
  simp only [Bool.and_eq_true, decide_eq_true_eq] at this
  omega
theorem bv_of_co {cs : List V} (h : CO Tryz.prog 22 cs) : ∃ ns : List Int, cs = [.sl (bv ns)] ∧ ns.length ≤ 140737488351232 ∧ ∀ n, n ∈ ns → 0 ≤ n ∧ n < 256 := by
  obtain ⟨xs, rfl, hx, hl⟩ := co_slice Tryz.underlying22 h
  rw [show Tryz.prog.bytesOf 5 = 1 by kernel_rfl] at hl
  have : ∃ ns : List Int, xs = bv ns ∧ ∀ n, n ∈ ns → 0 ≤ n ∧ n < 256 := by
    clear hl h
    induction xs with
    | nil => exact ⟨[], rfl, fun n hn => by cases hn⟩
    | cons x xs ih =>
      obtain ⟨ns, rfl, hns⟩ := ih fun y hy => hx y (List.mem_cons_of_mem _ hy)
      obtain ⟨n, rfl, hn⟩ := co_int Tryz.underlying5 (hx x List.mem_cons_self)
      refine ⟨n :: ns, rfl, fun m hm => ?_⟩
      rcases List.mem_cons.1 hm with rfl | hm
      · have := wf_u8 hn; omega
      · exact hns m hm
  obtain ⟨ns, rfl, hns⟩ := this
  exact ⟨ns, rfl, by simp at hl; omega, hns⟩
end Go.Proofs.YtmbcofnnibpbeaaGreat.Vm

namespace Go.Proofs.YtmbcofnnibpbeaaGreat.Vm
open Go Go.Proofs
set_option linter.unusedSimpArgs false
set_option linter.unusedVariables false

theorem mul600 {a x : Int} (B : Int) (hB : 0 ≤ B) (ha : 0 ≤ a ∧ a ≤ 3) (hx : -B ≤ x ∧ x ≤ B) : -(3 * B) ≤ a * x ∧ a * x ≤ 3 * B := by
  rcases (show a = 0 ∨ a = 1 ∨ a = 2 ∨ a = 3 by omega) with rfl | rfl | rfl | rfl <;> omega
/-- Reading operations, with guarded calls among them. -/
def HSeq (P : Program) (ops : Array Oper) (blK : Int → Option Blk) (last : List Nat) (K : St → Prop) : List (List Nat × Nat) → St → Prop
  | [] => HoistF P (ops.toList.map (·.dst)) blK (last.filterMap fun i => ops[i]?) K
  | (is, i) :: r => HoistF P (ops.toList.map (·.dst)) blK (is.filterMap fun i => ops[i]?) (HStep P ops blK i (HSeq P ops blK last K r))
def hIdx (last : List Nat) : List (List Nat × Nat) → List Nat
  | [] => last
  | (is, i) :: r => is ++ i :: hIdx last r
theorem HSeq_sound {P : Program} {ops : Array Oper} {blK : Int → Option Blk} {K : St → Prop} (last : List Nat) : ∀ (ps : List (List Nat × Nat)) (σ : St), (hIdx last ps).all (fun i => decide (i < ops.size)) = true → HSeq P ops blK last K ps σ → Hoist P ops blK (hIdx last ps) K σ
  | [], σ, ha, h => Hoist_is _ last σ (filter_some last ha) h
  | (is, i) :: r, σ, ha, h => by
    have hall := List.all_eq_true.1 ha
    have f1 : is.all (fun i => decide (i < ops.size)) = true := List.all_eq_true.2 fun x hx => hall x (List.mem_append_left _ hx)
    have f2 : (hIdx last r).all (fun i => decide (i < ops.size)) = true := List.all_eq_true.2 fun x hx => hall x (List.mem_append_right _ (List.mem_cons_of_mem _ hx))
    refine Hoist_append is (i :: hIdx last r) σ (Hoist_is _ is σ (filter_some is f1) ?_)
    refine HoistF_mono (fun σ' h' => ?_) _ _ h
    unfold HStep at h'
    unfold Hoist
    split at h'
    · rename_i o ho
      obtain ⟨v, h1, h2⟩ := h'
      rw [ho]
      exact ⟨v, h1, HSeq_sound last r _ f2 h2⟩
    · exact h'.elim
theorem AW_quietC {P : Program} {id : Nat} {ops : Array Oper} {K : Ex → St → Prop} {σ : St} (hm : P.follows .mixedOrders = true) (ps : List (List Nat × Nat)) (last : List Nat)
    (hB : (quietB ops && decide (hIdx last ps = List.range ops.size)) = true) (h : HSeq P ops σ.bl last (K .normal) ps σ) : AW P (.region id ops true) K σ := by
  rw [Bool.and_eq_true, decide_eq_true_eq] at hB
  obtain ⟨hB, he⟩ := hB
  simp only [quietB, Bool.and_eq_true, List.isEmpty_iff] at hB
  refine AW_draw_quiet hm hB.1 hB.2 ?_
  rw [← he]
  exact HSeq_sound last ps σ (by rw [he]; exact List.all_eq_true.2 fun x hx => by simpa using hx) h
end Go.Proofs.YtmbcofnnibpbeaaGreat.Vm

namespace Go.Proofs.YtmbcofnnibpbeaaGreat.Vm
open Go Go.Proofs
set_option linter.unusedSimpArgs false
set_option linter.unusedVariables false

theorem RatEqual_ro (a b : RT) (hm : a.m.length ≤ 140737488351232) (hd : a.d.length ≤ 140737488351232) : RO Tryz.prog 15 [.agg a.c, .agg b.c] (.bool (decide (a = b))) := by
  have e : decide (a = b) = (decide (a.neg = b.neg) && decide (a.m = b.m) && decide (a.d = b.d)) := by
    cases a; cases b; simp [Bool.and_assoc]
  rw [e]
  refine ro_of2 Tryz.func15 rfl rfl (by rw [Tryz.ntmps15]; simp) fun bl => ?_
  rw [Tryz.ntmps15, Tryz.results15]
  refine AW_runA ?_
  simp [RT.c]
  intro g1 hg1 hb1 g2 hg2 h21 hb2
  refine AW_frzAt 1 2 (.ptr a.c) (upd bl g2 (some ⟨3, [b.c]⟩)) (by intro z y hz; simp only [upd_apply, RT.c] at hz ⊢; grind) (by simp [frz, dropB, hb1, h21, Ne.symm h21, RT.c, V.cl]) ?_
  refine AW_frzAt 1 3 (.ptr b.c) bl (by simp [hb2]) (by simp [frz, dropB, hb2, RT.c, V.cl]) ?_
  refine AW_runA ?_
  simp
  refine AW_way0 [(2, .ptr a.c), (3, .ptr b.c)] _ bl 4 (.bool (decide (a.neg = b.neg) && decide (a.m = b.m) && decide (a.d = b.d))) ⟨rfl, by simp, Sub.refl _⟩ rfl ?_ ?_
  · simp [RT.c]
    refine ⟨fun h1 => ?_, fun h1 => by simp [h1]⟩
    refine callP_ro (Equal_ints_ro a.m b.m hm) ?_
    simp [h1]
    refine ⟨fun h2 => ?_, fun h2 => by simp [h2]⟩
    refine callP_ro (Equal_ints_ro a.d b.d hd) ?_
    simp [h2]
  simp
  refine AW_run ?_
  simp
  exact retRO [.bool _] 0 (by simp; rfl) (by simp [frz]) (Sub.refl _)
theorem ApplyMatrix_ro (m : MX) (r c : Nat) (h1 : m.r = r) (h2 : m.c = c) (hr : r ≤ 24) (hc : c ≤ 24) (hl : m.cells.length = r * c) (ha : allOk m.cells = true) (hq : fitQ m.cells 1048576) (v : List RT) (hv : fitQ v 1048576) (hvo : allOk v = true) (hvl : v.length = c)
    (G : List (List (Option Rat))) (eG : (gridOf r c fun i k => (rdAll m.cells).getD (i * c + k) none) = G) :
    RO Tryz.prog 11 [.agg m.c3, .sl (rv v)] (.tup [.sl (rv (stQ (appl G (rdAll v)))), .bool (allSome (appl G (rdAll v)))]) := by
  have hO := open_ro m r c h1 h2 hr hc hl ha hq
  rw [eG] at hO
  have hGl : G.length = r := by rw [← eG]; simp
  have hL := loadVector_ro v hv
  have hvk : vecOk v = true := by unfold vecOk; rw [hvo]; simp; omega
  rw [hvk, if_pos rfl] at hL
  have hGr : ∀ w, w ∈ G → okL w ∧ w.length = c := by
    intro w hw
    rw [← eG] at hw
    obtain ⟨i, _, rfl⟩ := List.mem_map.1 hw
    refine ⟨fun x hx => ?_, by simp⟩
    obtain ⟨k, _, rfl⟩ := List.mem_map.1 hx
    show okQ ((rdAll m.cells).getD (i * c + k) none)
    rcases Nat.lt_or_ge (i * c + k) (rdAll m.cells).length with h | h
    · rw [getD_at _ _ _ h]; exact rdAll_ok _ _ (List.getElem_mem h)
    · rw [List.getD_eq_getElem?_getD, List.getElem?_eq_none (by omega)]
      intro q hq; cases hq
  have hA := applied_ro G c (rdAll v) (by omega) (rdAll_ok v) hGr (by simp; omega) (by omega)
  have hS := ro_of_nw 3 (stores_nw (appl G (rdAll v)) (fun x hx => by
    obtain ⟨w, _, rfl⟩ := List.mem_map.1 hx
    exact inTo_ok _ _ _) (by simp [appl]; omega)) (by simp [dV, D.dep, D.depL, dRs_dep])
  rw [show (dV (stQ (appl G (rdAll v))) (allSome (appl G (rdAll v)))).fz = .tup [.sl (rv (stQ (appl G (rdAll v)))), .bool (allSome (appl G (rdAll v)))] by simp [dV, D.fz, D.fzL, dRs_fz]] at hS
  rw [hGl] at hA
  generalize appl G (rdAll v) = z at *
  refine ro_of2 Tryz.func11 rfl rfl (by rw [Tryz.ntmps11]; simp) fun bl => ?_
  rw [Tryz.ntmps11, Tryz.results11]
  refine AW_runA ?_
  simp [MX.c3]
  intro g hg0 hg
  refine AW_frzAt 1 2 (.ptr m.c3) bl (by simp [hg]) (by simp [frz, dropB, hg, MX.c3, V.cl]) ?_
  refine AW_runA ?_
  simp [MX.c3]
  refine callP_ro hO ?_
  simp
  intro g6 hg6 hb6
  refine AW_frzAt 1 6 (.ptr [.int .i64 r, .int .i64 c, .sl (gv G)]) bl (by simp [hb6]) (by simp [frz, dropB, hb6, V.cl]) ?_
  refine AW_runA ?_
  simp
  refine callP_ro hL ?_
  simp
  refine AW_runA ?_
  simp
  refine AW_way0 [(6, .ptr [.int .i64 r, .int .i64 c, .sl (gv G)]), (7, .bool true), (8, .sl (fvs (rdAll v))), (9, .bool true)] _ bl 32 (.bool false) ⟨rfl, by simp, Sub.refl _⟩ rfl ?_ ?_
  · simp [hvl]
  simp
  refine AW_run ?_
  simp
  refine callP_ro hA ?_
  simp
  refine callP_ro hS ?_
  simp
  exact retRO [.sl (rv (stQ z)), .bool (allSome z)] 1 (by simp) (by simp [frz, V.cl]) (Sub.refl _)

theorem flat_getD {α : Type} (d : α) {n : Nat} : ∀ (rs : List (List α)), (∀ r, r ∈ rs → r.length = n) → ∀ (i k : Nat) (hi : i < rs.length), k < n → rs.flatten.getD (i * n + k) d = rs[i].getD k d
  | [], _, i, k, hi, _ => by simp at hi
  | r :: rs, h, 0, k, hi, hk => by
    have := h r (by simp)
    simp [List.getElem?_append, this, hk]
  | r :: rs, h, i + 1, k, hi, hk => by
    have h0 := h r (by simp)
    have ih := flat_getD d rs (fun x hx => h x (by simp [hx])) i k (by simpa using hi) hk
    have e : (i + 1) * n + k = r.length + (i * n + k) := by rw [h0, Nat.add_mul]; omega
    rw [e]
    simp only [List.flatten_cons, List.getElem_cons_succ] at ih ⊢
    rw [← ih, List.getD_eq_getElem?_getD, List.getD_eq_getElem?_getD, List.getElem?_append_right (by omega), show r.length + (i * n + k) - r.length = i * n + k by omega]
theorem eq_grid (s : Str) (hs : SOk s) : (gridOf (eqRows s).length s.ms.length fun i k => (rdAll (roInts (rowsF s))).getD (i * s.ms.length + k) none) = zGrid (eqRows s) := by
  obtain ⟨hsm, hlen⟩ := eqRows_small hs
  have e1 : rdAll (roInts (rowsF s)) = (zGrid (eqRows s)).flatten := by
    have : (zGrid (eqRows s)).flatten = (rowsF s).map fun (n : Int) => some (n : Rat) := by
      rw [← eqRows_flat]
      unfold zGrid zRow
      rw [List.map_flatten]
    rw [this]
    unfold rdAll roInts
    rw [List.map_map]
    apply List.map_congr_left
    intro n hn
    rw [← eqRows_flat] at hn
    obtain ⟨w, hw, hn⟩ := List.mem_flatten.1 hn
    have := hsm w hw n hn
    exact rd_ro (okQ_int (by omega))
  rw [e1]
  apply List.ext_getElem
  · simp [zGrid]
  · intro i h3 h4
    rw [gridOf_getE]
    have hz : (zGrid (eqRows s))[i].length = s.ms.length := by simp [zGrid, zRow, hlen]
    apply List.ext_getElem
    · simp [hz]
    · intro k h5 h6
      rw [rowOf_getE, flat_getD none (zGrid (eqRows s)) (fun r hr => by
        obtain ⟨w, hw, rfl⟩ := List.mem_map.1 hr
        simp [zRow, hlen w hw]) i k h4 (by simpa using h5), getD_at _ _ _ h6]

theorem rq6_rd {us : List Int} (h : ∀ u, u ∈ us → -60 ≤ u ∧ u ≤ 60) : rdAll (rq6 us) = us.map q6 := by
  unfold rdAll rq6
  rw [List.map_map]
  apply List.map_congr_left
  intro u hu
  have := h u hu
  exact rd_ro (q6_ok (by omega))
theorem rq6_ok {us : List Int} (h : ∀ u, u ∈ us → -60 ≤ u ∧ u ≤ 60) : allOk (rq6 us) = true := by
  unfold allOk rq6
  rw [List.all_map, List.all_eq_true]
  intro u hu
  have := h u hu
  show (rd (ro (q6 u))).isSome = true
  rw [rd_ro (q6_ok (by omega))]; rfl
theorem rq6_fit {us : List Int} (h : ∀ u, u ∈ us → -60 ≤ u ∧ u ≤ 60) (hl : us.length ≤ 1048576) : fitQ (rq6 us) 1048576 := by
  have h1 : okL (us.map q6) := by
    intro x hx
    obtain ⟨u, hu, rfl⟩ := List.mem_map.1 hx
    have := h u hu
    exact q6_ok (by omega)
  have h2 := (stQ_fit h1 (by simpa using hl)).1
  have e : stQ (us.map q6) = rq6 us := by
    unfold stQ
    rw [if_pos (by simp [allSome, q6])]
    simp [roAll, rq6]
  rwa [e] at h2
/-! ### The law -/
theorem eqRows_at (s : Str) : ∀ (l : List Int) (n : Nat) (h : n < l.length), (l.flatMap fun j => [rowX s j, rowY s j])[2 * n]? = some (rowX s l[n]) ∧ (l.flatMap fun j => [rowX s j, rowY s j])[2 * n + 1]? = some (rowY s l[n])
  | [], n, h => by simp at h
  | j :: l, 0, h => by simp
  | j :: l, n + 1, h => by
    have ih := eqRows_at s l n (by simpa using h)
    rw [show 2 * (n + 1) = 2 * n + 1 + 1 by omega]
    simpa using ih
theorem dot_lim {s : Str} (hs : SOk s) {us : List Int} (hub : ∀ u, u ∈ us → -60 ≤ u ∧ u ≤ 60) : ∀ k, -60 ≤ lN us k ∧ lN us k ≤ 60 := fun k => by
  rcases Nat.lt_or_ge k us.length with h | h
  · rw [lN_at h]; exact hub _ (List.getElem_mem h)
  · have : lN us k = 0 := by simp [lN, List.getD_eq_getElem?_getD, h]
    rw [this]; omega
theorem row_lim {s : Str} (hs : SOk s) {w : List Int} (hw : w ∈ eqRows s) : ∀ k, -100 ≤ lN w k ∧ lN w k ≤ 100 := fun k => by
  rcases Nat.lt_or_ge k w.length with h | h
  · rw [lN_at h]; exact (eqRows_small hs).1 w hw _ (List.getElem_mem h)
  · have : lN w k = 0 := by simp [lN, List.getD_eq_getElem?_getD, h]
    rw [this]; omega
def dots (s : Str) (us : List Int) : List Int := (eqRows s).map fun w => dotTo w us s.ms.length
theorem appl_dots {s : Str} (hs : SOk s) {us : List Int} (hul : us.length = s.ms.length) (hub : ∀ u, u ∈ us → -60 ≤ u ∧ u ≤ 60) : appl (zGrid (eqRows s)) (us.map q6) = (dots s us).map q6 := by
  obtain ⟨_, hlen⟩ := eqRows_small hs
  have hnm := hs.nm
  unfold appl zGrid dots
  rw [List.map_map, List.map_map]
  apply List.map_congr_left
  intro w hw
  have hl := hlen w hw
  show inTo (zRow w) (us.map q6) (zRow w).length = q6 (dotTo w us s.ms.length)
  rw [show (zRow w).length = s.ms.length by simp [zRow, hl]]
  exact inTo_dot (row_lim hs hw) (dot_lim hs hub) _ (by omega) (by omega) (by omega)
theorem stQ_q6 (l : List Int) : stQ (l.map q6) = rq6 l := by
  unfold stQ
  rw [if_pos (by simp [allSome, q6])]
  simp [roAll, rq6]
theorem allSome_q6 (l : List Int) : allSome (l.map q6) = true := by simp [allSome, q6]
theorem pqs_dots {s : Str} (hs : SOk s) (qs : sOk s = true) {us : List Int} (hul : us.length = s.ms.length) (hub : ∀ u, u ∈ us → -60 ≤ u ∧ u ≤ 60) (i : Nat) (hi : i < s.js.length) : pqs s (rq6 us) i = [dotTo (rowX s i) us s.ms.length, dotTo (rowY s i) us s.ms.length].map q6 := by
  have hp : pullOk s (rq6 us) i = true := by
    unfold pullOk fitsQ
    rw [qs, rq6_ok hub]
    simp [hul, hi]
  unfold pqs
  rw [if_pos hp, rq6_rd hub]
  have h1 := hs.nm
  have e1 : ∀ m, m ∈ s.ms → ¬ ((i : Int) = m.a ∨ (i : Int) = m.b) → eqX s i m = 0 := fun m _ h => by unfold eqX; rw [if_neg (fun e => h (.inl e)), if_neg (fun e => h (.inr e))]
  have e2 : ∀ m, m ∈ s.ms → ¬ ((i : Int) = m.a ∨ (i : Int) = m.b) → eqY s i m = 0 := fun m _ h => by unfold eqY; rw [if_neg (fun e => h (.inl e)), if_neg (fun e => h (.inr e))]
  unfold pX pY
  rw [pTo_dot (fun m hm => (eqX_le hs i hm).1) e1 (dot_lim hs hub) hul h1 _ (Nat.le_refl _), pTo_dot (fun m hm => (eqX_le hs i hm).2) e2 (dot_lim hs hub) hul h1 _ (Nat.le_refl _)]
  rfl
theorem law_Columns_ro (bs : List Int) (hn : bs.length ≤ 140737488351232) (hbs : ∀ x, x ∈ bs → 0 ≤ x ∧ x < 256) : RO Tryz.prog 3 [.sl (bv bs)] (.bool true) := by
  refine ro_of2 Tryz.func3 rfl rfl (by rw [Tryz.ntmps3]; simp) fun bl => ?_
  rw [Tryz.ntmps3, Tryz.results3]
  refine AW_runA ?_
  simp
  refine AW_runA ?_
  simp
  refine ⟨fun h => ?_, fun h => ?_⟩
  · exact retRO0 (by simp) rfl rfl
  refine AW_runA ?_
  simp
  refine MakeCase_cp bs (by omega) hbs fun s l b1 ql h3 hl8 hb1 => ?_
  have qs : sOk s = true := by unfold lOk at ql; rw [Bool.and_eq_true] at ql; exact ql.1
  have hs := sOk_of qs
  have hsz := sz_of qs
  have hnj := hs.nj
  have hnm := hs.nm
  simp [Str.c]
  intro g3 hg3 hb3
  have hg3' : bl g3 = none := fresh_of hb1 hb3
  refine AW_frzAt 1 3 (.ptr s.c) bl (hb1.upd hg3' _) (by simp [frz, dropB, hg3', Str.c, V.cl]) ?_
  refine AW_runA ?_
  simp [Str.c]
  refine MakeDensities_cp bs 40 s hs (by omega) hbs (by omega) fun us b2 hul hub hb2 => ?_
  simp
  refine AW_at [(2, .bool false), (3, .ptr s.c), (5, .sl (rv (rq6 us)))] 90 bl ⟨rfl, by simp [Str.c], hb2⟩ ?_
  clear hb1 hb2
  have hjn : ∀ j, j ∈ s.js → j.name.size ≤ 140737488351232 := hsz.nm
  have hE := impl_EquilibriumMatrix_ro s (by omega) (by omega) hjn
  have hrl := eqRows_length s
  have hfl := freesTo_le s.js s.js.length
  change (frees s.js).length ≤ s.js.length at hfl
  have eM : eqMx s = ⟨(eqRows s).length, s.ms.length, roInts (rowsF s)⟩ := by unfold eqMx; rw [if_pos qs]
  have hfit := (eqMx_fit s (by omega)).1
  rw [eM] at hfit hE
  have hall : allOk (roInts (rowsF s)) = true := by
    unfold allOk roInts
    rw [List.all_map, List.all_eq_true]
    intro n hn
    rw [← eqRows_flat] at hn
    obtain ⟨w, hw, hn⟩ := List.mem_flatten.1 hn
    have := (eqRows_small hs).1 w hw n hn
    show (rd (ro (some (n : Rat)))).isSome = true
    rw [rd_ro (okQ_int (by omega))]; rfl
  have hqf := rq6_fit hub (by omega)
  have hA := ApplyMatrix_ro ⟨(eqRows s).length, s.ms.length, roInts (rowsF s)⟩ (eqRows s).length s.ms.length rfl rfl (by omega) (by omega) (by simp [roInts, rowsF_len, hrl]) hall hfit (rq6 us) hqf (rq6_ok hub) (by simp [hul]) (zGrid (eqRows s)) (eq_grid s hs)
  rw [rq6_rd hub, appl_dots hs hul hub, stQ_q6, allSome_q6] at hA
  have hF := impl_FreeJoints_ro s hsz
  rw [show freeL s = frees s.js by unfold freeL; rw [if_pos qs]] at hF
  have hdl : (dots s us).length = 2 * (frees s.js).length := by unfold dots; rw [List.length_map, hrl]
  have w1 : IntKind.i64.wrap (2 * ((frees s.js).length : Int)) = 2 * ((frees s.js).length : Int) := i64_in (by omega) (by omega)
  refine AW_runA ?_
  simp [Str.c]
  refine callP_ro hE ?_
  simp
  refine callP_ro hA ?_
  simp
  refine AW_runA ?_
  simp [Str.c]
  refine callP_ro hF ?_
  simp
  refine AW_runA ?_
  simp
  refine AW_way0 [(2, .bool false), (3, .ptr s.c), (5, .sl (rv (rq6 us))), (6, .sl (rv (rq6 (dots s us)))), (7, .bool true), (8, .sl (iv (frees s.js)))] _ bl 42 (.bool false) ⟨rfl, by simp [Str.c], Sub.refl _⟩ rfl ?_ ?_
  · simp [hdl, w1]
  simp
  refine AW_run ?_
  simp
  refine AW_for (fun n : Nat => [(2, .bool false), (3, .ptr s.c), (5, .sl (rv (rq6 us))), (6, .sl (rv (rq6 (dots s us)))), (43, .sl (iv (frees s.js))), (44, .int .i64 (frees s.js).length), (45, .int .i64 n)]) (fun _ => bl) (fun n => n ≤ (frees s.js).length) (fun n => (frees s.js).length - n) _ 0 (Nat.zero_le _) ⟨rfl, by simp [Str.c], Sub.refl _⟩ ?_
  intro n hn2
  have wn : IntKind.i64.wrap ((n : Int) + 1) = (n : Int) + 1 := i64_in (by omega) (by omega)
  refine AW_runA ?_
  simp
  refine AW_runA ?_
  simp
  refine ⟨fun h => ?_, fun h => ?_⟩
  · obtain ⟨i, ei, hi⟩ := frees_get s.js n h
    have hP := impl_PullOn_ro s (rq6 us) i (by omega) (by omega) hsz.nm hqf
    rw [pqs_dots hs qs hul hub i hi, stQ_q6, allSome_q6] at hP
    obtain ⟨r1, r2⟩ := eqRows_at s (frees s.js) n h
    rw [ei] at r1 r2
    have d1 : (dots s us)[2 * n]? = some (dotTo (rowX s i) us s.ms.length) := by
      unfold dots; rw [List.getElem?_map]
      show (((frees s.js).flatMap fun j => [rowX s j, rowY s j])[2 * n]?).map _ = _
      rw [r1]; rfl
    have d2 : (dots s us)[2 * n + 1]? = some (dotTo (rowY s i) us s.ms.length) := by
      unfold dots; rw [List.getElem?_map]
      show (((frees s.js).flatMap fun j => [rowX s j, rowY s j])[2 * n + 1]?).map _ = _
      rw [r2]; rfl
    have f1 : (rv (rq6 (dots s us)))[2 * n]? = some (ro (q6 (dotTo (rowX s i) us s.ms.length))).c := by simp [rv, rq6, d1]
    have f2 : (rv (rq6 (dots s us)))[2 * n + 1]? = some (ro (q6 (dotTo (rowY s i) us s.ms.length))).c := by simp [rv, rq6, d2]
    have l1 : ∀ x : Int, x.natAbs ≤ 1000000000 → (ro (q6 x)).m.length ≤ 140737488351232 ∧ (ro (q6 x)).d.length ≤ 140737488351232 := fun x hx => by
      obtain ⟨a, b⟩ := r6_fits hx
      exact ⟨Nat.le_trans a (by omega), Nat.le_trans b (by omega)⟩
    have hbd : ∀ w, w ∈ eqRows s → (dotTo w us s.ms.length).natAbs ≤ 1000000000 := fun w hw => by
      have := dot_le (row_lim hs hw) (dot_lim hs hub) s.ms.length
      omega
    obtain ⟨a1, a2⟩ := l1 _ (hbd _ (List.mem_of_getElem? r1))
    obtain ⟨a3, a4⟩ := l1 _ (hbd _ (List.mem_of_getElem? r2))
    have q1 := RatEqual_ro _ (ro (q6 (dotTo (rowX s i) us s.ms.length))) a1 a2
    have q2 := RatEqual_ro _ (ro (q6 (dotTo (rowY s i) us s.ms.length))) a3 a4
    rw [decide_eq_true rfl] at q1 q2
    have w2 : IntKind.i64.wrap (2 * (n : Int)) = 2 * (n : Int) := i64_in (by omega) (by omega)
    have w3 : IntKind.i64.wrap (2 * (n : Int) + 1) = 2 * (n : Int) + 1 := i64_in (by omega) (by omega)
    have t2 : (2 * (n : Int)).toNat = 2 * n := by omega
    have t3 : (2 * (n : Int) + 1).toNat = 2 * n + 1 := by omega
    have er : rv (rq6 [dotTo (rowX s i) us s.ms.length, dotTo (rowY s i) us s.ms.length]) = [(ro (q6 (dotTo (rowX s i) us s.ms.length))).c, (ro (q6 (dotTo (rowY s i) us s.ms.length))).c] := rfl
    rw [er] at hP
    generalize ro (q6 (dotTo (rowX s i) us s.ms.length)) = rx at *
    generalize ro (q6 (dotTo (rowY s i) us s.ms.length)) = ry at *
    refine AW_runA ?_
    simp [h, ei, Str.c]
    refine callP_ro hP ?_
    simp
    refine AW_quietC mixedO [([0, 1, 2, 3, 4, 5, 6, 7, 8, 9, 10, 11, 12, 13, 14, 15], 16), ([17, 18, 19, 20, 21, 22, 23, 24, 25, 26, 27, 28], 29)] [30, 31] (by kernel_rfl) ?_
    simp only [HSeq]
    have x1 : rx.c.length = 3 := rfl
    have x2 : ry.c.length = 3 := rfl
    have x3 : List.take 3 rx.c = rx.c := rfl
    have x4 : List.take 3 ry.c = ry.c := rfl
    have p1 : (0 : Int) ≤ 2 * (n : Int) := by omega
    have p2 : (0 : Int) ≤ 2 * (n : Int) + 1 := by omega
    simp [w2, w3, t2, t3, f1, f2, x1, x2, x3, x4, p1, p2]
    refine HStep_call rfl rfl rfl rfl (by simp) rfl q1 ?_
    simp [w2, w3, t2, t3, f1, f2, x1, x2, x3, x4, p1, p2]
    refine HStep_call rfl rfl rfl rfl (by simp) rfl q2 ?_
    simp
    refine AW_run ?_
    simp [wn, loopQ_normal]
    exact ⟨n + 1, by omega, by omega, rfl, by simp [Str.c], Sub.refl _⟩
  · exact retRO [.bool true] 0 (by simp) (by simp [frz]) (Sub.refl _)
end Go.Proofs.YtmbcofnnibpbeaaGreat.Vm

namespace Go.Proofs.YtmbcofnnibpbeaaGreat.Vm
open Go Go.Proofs
set_option linter.unusedSimpArgs false
set_option linter.unusedVariables false

theorem rv_snoc (rs : List RT) (i : Nat) (h : i < rs.length) : rv (rs.take (i + 1)) = rv (rs.take i) ++ [rs[i].c] := by
  rw [List.take_succ_eq_append_getElem h, rv_append]; rfl
theorem rv_at (rs : List RT) (i : Nat) (h : i < rs.length) : (rv rs)[i]? = some rs[i].c := by simp [rv, h]
theorem l05Copy_nw (rs : List RT) (hq : fitQ rs 1048576) : NW Tryz.prog 180 [.sl (rv rs)] (fl 3 (rv rs)) := by
  have hl := hq.1
  refine nw_of Tryz.func180 rfl rfl (by rw [Tryz.ntmps180]; simp) fun bl => ?_
  rw [Tryz.ntmps180, Tryz.results180]
  refine AW_run ?_
  simp
  intro g00 hg00 hb00
  refine AW_for (fun p : Nat × Int => [(3, .lsl p.2 3 0 p.1), (7, .sl (rv rs)), (8, .int .i64 rs.length), (9, .int .i64 p.1)]) (fun p => upd bl p.2 (some ⟨3, rv (rs.take p.1)⟩)) (fun p => p.1 ≤ rs.length ∧ bl p.2 = none ∧ (p.2 < 0 → p.1 = 0)) (fun p => rs.length - p.1) _ (0, g00) ⟨Nat.zero_le _, hb00, fun _ => rfl⟩ ⟨rfl, by simp, sub_eq (by simp [rv])⟩ ?_
  rintro ⟨i, g⟩ ⟨hi, hg, h0⟩
  simp only at hi hg h0
  have wi : IntKind.i64.wrap ((i : Int) + 1) = (i : Int) + 1 := i64_in (by omega) (by omega)
  refine AW_run ?_
  simp
  refine ⟨fun h => ?_, fun h => ?_⟩
  · have hc := l04Copy_ro rs[i] (hq.2 _ (List.getElem_mem h)).1 (hq.2 _ (List.getElem_mem h)).2
    have e1 := rv_at rs i h
    have hs := rv_snoc rs i h
    have ht := rv_takeall (rs.take i)
    rw [show (rs.take i).length = i by simp; omega] at ht
    simp [h, e1, RT.c]
    intro g5 hg5 h5g hb5
    refine callP_ro hc ?_
    simp [RT.c]
    intro g2 hg2 h25 h2g hb2
    simp [h5g, Ne.symm h5g, h25, Ne.symm h25, h2g, Ne.symm h2g, appV, elsV, Int.not_lt.2 hg2, hi]
    refine ⟨by omega, fun g3 hg3 hb3 => ?_⟩
    have hb3' : bl g3 = none := by grind
    have n35 : ¬ g3 = g5 := by grind
    simp [wi, loopQ_normal]
    refine ⟨i + 1, g3, ⟨by omega, hb3', by omega⟩, by omega, rfl, by simp, ?_⟩
    rw [hs, ht]
    intro x y hx
    simp only [upd_apply, rem_apply, RT.c] at hx ⊢
    grind
  · have hi2 : i = rs.length := by omega
    subst hi2
    rw [List.take_length]
    refine retNW [.lsl g 3 0 rs.length] [g] (by simp) ?_ (by simpa using hg) (by simp [hg])
    exact own_rvF.2 (.inr ⟨g, by simp, rfl, by simp, fun h => List.eq_nil_of_length_eq_zero (h0 h)⟩)
def dMf (m : MX) : List D := [.c (.int .i64 m.r), .c (.int .i64 m.c), fl 3 (rv m.cells)]
theorem own_mf {bl : Int → Option Blk} {m : MX} {vs : List V} {gs : List Int} : OwnL bl (dMf m) vs gs ↔ ∃ w, vs = [.int .i64 m.r, .int .i64 m.c, w] ∧ OwnD bl (fl 3 (rv m.cells)) w gs := by
  unfold dMf
  constructor
  · intro h
    rw [OwnL] at h
    obtain ⟨v1, vs1, g1, r1, rfl, rfl, _, h1, h⟩ := h
    rw [OwnD] at h1
    obtain ⟨rfl, _, rfl⟩ := h1
    rw [OwnL] at h
    obtain ⟨v2, vs2, g2, r2, rfl, rfl, _, h2, h⟩ := h
    rw [OwnD] at h2
    obtain ⟨rfl, _, rfl⟩ := h2
    obtain ⟨w, rfl⟩ : ∃ w, vs2 = [w] := by
      have := h.length
      match vs2, this with
      | [w], _ => exact ⟨w, rfl⟩
    exact ⟨w, rfl, by simpa using own_single.1 h⟩
  · rintro ⟨w, rfl, h⟩
    exact own_cons (g1 := []) (g2 := gs) (own_int' _) (own_cons (g1 := []) (g2 := gs) (own_int' _) (own_single.2 h) (fun x hx => by cases hx)) (fun x hx => by cases hx)
theorem dMf_fz (m : MX) : (D.a (dMf m)).fz = .agg m.c3 := by simp [dMf, D.fz, D.fzL, MX.c3]
theorem dMf_dep (m : MX) : (D.a (dMf m)).dep 2 := by
  rw [D.dep]; exact ⟨by omega, by simp [dMf, D.depL, D.dep, fl_dep]⟩
theorem l06Copy_nw (m : MX) (hq : fitQ m.cells 1048576) : NW Tryz.prog 148 [.agg m.c3] (.a (dMf m)) := by
  refine nw_of Tryz.func148 rfl rfl (by rw [Tryz.ntmps148]; simp) fun bl => ?_
  rw [Tryz.ntmps148, Tryz.results148]
  refine AW_runA ?_
  simp [MX.c3]
  intro g1 hg1 hb1 g2 hg2 h21 hb2
  refine AW_frzAt 1 1 (.ptr m.c3) (upd bl g2 (some ⟨3, [[.int .i64 0, .int .i64 0, .nils]]⟩)) (by intro z b hz; simp only [upd_apply, MX.c3] at hz ⊢; grind) (by simp [frz, dropB, hb1, h21, Ne.symm h21, MX.c3, V.cl]) ?_
  refine AW_run ?_
  refine AW_mixedB mixedO bl (by simp [hb2]) [0, 1, 2, 3, 4, 5] 3 (by kernel_rfl) ?_
  simp [MX.c3]
  refine DAny_one (i := 6) (by kernel_rfl) rfl rfl ?_
  simp
  refine callP_new (l05Copy_nw m.cells hq) fun v gs b' o f fr => ?_
  obtain ⟨w1, w2⟩ := o.one
  have k2 : b' g2 = some ⟨3, [[.int .i64 0, .int .i64 0, .nils]]⟩ := new_keep f fr (by simp)
  have n2 : g2 ∉ gs := fun h => by have := f g2 h; simp at this
  have hsb : Sub bl b' := fun x y hx => new_keep f fr (by have : x ≠ g2 := fun e => (by rw [e, hb2] at hx; cases hx); simp [upd_apply, this, hx])
  have f' : ∀ x, x ∈ gs → bl x = none := fun x hx => by
    have h5 := f x hx
    have h6 : x ≠ g2 := fun e => n2 (by rw [← e]; exact hx)
    simpa [upd_apply, h6] using h5
  refine ⟨hsb, DAny_one (i := 7) (by kernel_rfl) rfl rfl ?_⟩
  simp [w1, w2]
  refine ⟨hsb, DAny_one (i := 8) (by kernel_rfl) rfl rfl ?_⟩
  simp [w1, w2, k2]
  have hs2 : Sub bl (upd b' g2 (some ⟨3, [[.int .i64 m.r, .int .i64 m.c, v]]⟩)) := hsb.upd hb2 _
  refine ⟨hs2, DAny_done (by kernel_rfl) ?_⟩
  have o2 : OwnD (upd b' g2 (some ⟨3, [[.int .i64 m.r, .int .i64 m.c, v]]⟩)) (fl 3 (rv m.cells)) v gs := o.frame fun x hx => by rw [upd_apply, if_neg (fun e => n2 (by rw [← e]; exact hx))]
  exact retNW [.agg [.int .i64 m.r, .int .i64 m.c, v]] gs (by simp) (by rw [OwnD]; exact ⟨_, rfl, own_mf.2 ⟨v, rfl, o2⟩⟩) f' hs2
end Go.Proofs.YtmbcofnnibpbeaaGreat.Vm

namespace Go.Proofs.YtmbcofnnibpbeaaGreat.Vm
open Go Go.Proofs
set_option linter.unusedSimpArgs false
set_option linter.unusedVariables false

/-- A matrix with as many cells as it says, all of them numbers. -/
structure MOk (m : MX) (r c : Nat) : Prop where
  hr : m.r = r
  hc : m.c = c
  r24 : r ≤ 24
  c24 : c ≤ 24
  len : m.cells.length = r * c
  ok : allOk m.cells = true
  fq : fitQ m.cells 1048576
theorem MOk.mul {m : MX} {r c : Nat} (h : MOk m r c) : r * c ≤ 576 := Nat.mul_le_mul h.r24 h.c24
theorem RatOkS {r : RT} (h : (rd r).isSome = true) (hl : r.le 1048576) : RO Tryz.prog 159 [.agg r.c] (.bool true) := by
  have := spec_RatOk_ro r (by have := hl.1; omega) (by have := hl.2; omega)
  rwa [decide_eq_true (rd_ok.1 h)] at this
theorem MatrixOk_ro (m : MX) (r c : Nat) (h : MOk m r c) : RO Tryz.prog 121 [.agg m.c3] (.bool true) := by
  have hm := h.mul
  have h1 := h.r24
  have h2 := h.c24
  have e0 : (r : Int) * (c : Int) = ((r * c : Nat) : Int) := (Int.natCast_mul r c).symm
  have w1 : IntKind.i64.wrap ((r : Int) * (c : Int)) = (r : Int) * (c : Int) := i64_in (by omega) (by omega)
  have n1 : (r : Int) ≤ 24 := by omega
  have n2 : (c : Int) ≤ 24 := by omega
  have hlen := h.len
  have hall := h.ok
  unfold allOk at hall
  rw [List.all_eq_true] at hall
  refine ro_of2 Tryz.func121 rfl rfl (by rw [Tryz.ntmps121]; simp) fun bl => ?_
  rw [Tryz.ntmps121, Tryz.results121]
  refine AW_runA ?_
  simp [MX.c3, h.hr, h.hc]
  intro g hg0 hg
  refine AW_frzAt 1 1 (.ptr [.int .i64 r, .int .i64 c, .sl (rv m.cells)]) bl (by simp [hg]) (by simp [frz, dropB, hg, V.cl]) ?_
  refine AW_runA ?_
  simp
  refine AW_way0 [(1, .ptr [.int .i64 r, .int .i64 c, .sl (rv m.cells)])] _ bl 25 (.bool false) ⟨rfl, by simp, Sub.refl _⟩ rfl ?_ ?_
  · simp
    refine callP_ro (l01In_ro _ _ _) ?_
    simp [n1]
    refine callP_ro (l01In_ro _ _ _) ?_
    simp [n2, w1, hlen]
  simp
  refine AW_run ?_
  simp
  refine AW_for (fun i : Nat => [(27, .sl (rv m.cells)), (28, .int .i64 m.cells.length), (29, .int .i64 i)]) (fun _ => bl) (fun i => i ≤ m.cells.length) (fun i => m.cells.length - i) _ 0 (Nat.zero_le _) ⟨rfl, by simp [hlen], Sub.refl _⟩ ?_
  intro i hi
  have wi : IntKind.i64.wrap ((i : Int) + 1) = (i : Int) + 1 := i64_in (by omega) (by omega)
  refine AW_run ?_
  simp
  refine ⟨fun h3 => ?_, fun h3 => ?_⟩
  · have hR := RatOkS (hall _ (List.getElem_mem h3)) (h.fq.2 _ (List.getElem_mem h3))
    have e1 := rv_at m.cells i h3
    simp [h3, e1, RT.c]
    intro g2 hg2 hb2
    refine callP_ro hR ?_
    simp [wi, loopQ_normal]
    exact ⟨i + 1, by omega, by omega, rfl, by simp, by simp [hb2]⟩
  · exact retRO [.bool true] 0 (by simp) (by simp [frz]) (Sub.refl _)

def trC (cells : List RT) (r c k : Nat) (i : Nat) : List RT := (List.range i).map fun i => cells.getD (i * c + k) rz
def trTo (cells : List RT) (r c k i : Nat) : List RT := ((List.range k).flatMap fun k => trC cells r c k r) ++ trC cells r c k i
theorem trTo_zero (cells : List RT) (r c : Nat) : trTo cells r c 0 0 = [] := by simp [trTo, trC]
theorem trTo_row (cells : List RT) (r c k i : Nat) : trTo cells r c k (i + 1) = trTo cells r c k i ++ [cells.getD (i * c + k) rz] := by simp [trTo, trC, List.range_succ]
theorem trTo_col (cells : List RT) (r c k : Nat) : trTo cells r c k r = trTo cells r c (k + 1) 0 := by simp [trTo, trC, List.range_succ, List.flatMap_append]
@[simp] theorem trC_length (cells : List RT) (r c k i : Nat) : (trC cells r c k i).length = i := by simp [trC]
theorem trTo_length (cells : List RT) (r c : Nat) : ∀ k i, (trTo cells r c k i).length = k * r + i
  | 0, i => by simp [trTo]
  | k + 1, i => by
    have := trTo_length cells r c k r
    rw [trTo_col] at this
    simp only [trTo, List.length_append, trC_length] at this ⊢
    rw [Nat.add_mul]; omega
def trM (m : MX) (r c : Nat) : MX := ⟨c, r, trTo m.cells r c c 0⟩
theorem l06Transpose_ro (m : MX) (r c : Nat) (h : MOk m r c) : RO Tryz.prog 122 [.agg m.c3] (.agg (trM m r c).c3) := by
  have hm := h.mul
  have h1 := h.r24
  have h2 := h.c24
  have hlen := h.len
  refine ro_of2 Tryz.func122 rfl rfl (by rw [Tryz.ntmps122]; simp) fun bl => ?_
  rw [Tryz.ntmps122, Tryz.results122]
  refine AW_runA ?_
  simp [MX.c3, h.hr, h.hc]
  intro g1 hg1 hb1 g2 hg2 h21 hb2
  refine AW_frzAt 1 1 (.ptr [.int .i64 r, .int .i64 c, .sl (rv m.cells)]) (upd bl g2 (some ⟨3, [[.int .i64 0, .int .i64 0, .nils]]⟩)) (by intro z b hz; simp only [upd_apply] at hz ⊢; grind) (by simp [frz, dropB, hb1, h21, Ne.symm h21, V.cl]) ?_
  refine AW_runA ?_
  simp
  intro g4 hg4 h42 hb4
  try simp [h42, Ne.symm h42]
  refine AW_ghostCell (g := g4) (s := 3) (els := [[.int .i64 c, .int .i64 r, .nils]]) (e := [.int .i64 c, .int .i64 r, .nils]) 0 2 3 (by simp) rfl rfl fun ga hga hne => ?_
  simp [upd_apply] at hga
  obtain ⟨hga4, hga2, hbga⟩ : ga ≠ g4 ∧ ga ≠ g2 ∧ bl ga = none := by grind
  refine AW_run ?_
  simp [h42, Ne.symm h42]
  refine AW_for (fun p : Nat × Int => [(1, .ptr [.int .i64 r, .int .i64 c, .sl (rv m.cells)]), (2, .loc g2 3 0 0), (3, .loc g4 3 0 0), (4, .int .i64 p.1)])
    (fun p => upd (upd (upd bl g2 (some ⟨3, [[.int .i64 0, .int .i64 0, .nils]]⟩)) g4 (some ⟨3, [[.int .i64 c, .int .i64 r, .lsl p.2 3 0 (p.1 * r)]]⟩)) p.2 (some ⟨3, rv (trTo m.cells r c p.1 0)⟩))
    (fun p => p.1 ≤ c ∧ p.2 ≠ g4 ∧ p.2 ≠ g2 ∧ bl p.2 = none ∧ (p.2 < 0 → p.1 * r = 0)) (fun p => c - p.1) _ (0, ga) ⟨Nat.zero_le _, hga4, hga2, hbga, fun _ => by simp⟩ ⟨rfl, by simp, by rw [trTo_zero]; intro z b hz; simp only [upd_apply, rv, List.map_nil, Nat.zero_mul] at hz ⊢; grind⟩ ?_
  rintro ⟨k, g⟩ ⟨hk, n4, n2, hbg, hneg⟩
  simp only at hk n4 n2 hbg hneg
  have wk : IntKind.i64.wrap ((k : Int) + 1) = (k : Int) + 1 := i64_in (by omega) (by omega)
  refine AW_run ?_
  simp [n4, n2, Ne.symm n4, Ne.symm n2, h42, Ne.symm h42]
  refine ⟨fun h3 => ?_, fun h3 => ?_⟩
  · refine AW_for (fun p : Nat × Int => [(1, .ptr [.int .i64 r, .int .i64 c, .sl (rv m.cells)]), (2, .loc g2 3 0 0), (3, .loc g4 3 0 0), (4, .int .i64 k), (5, .int .i64 p.1)])
      (fun p => upd (upd (upd bl g2 (some ⟨3, [[.int .i64 0, .int .i64 0, .nils]]⟩)) g4 (some ⟨3, [[.int .i64 c, .int .i64 r, .lsl p.2 3 0 (k * r + p.1)]]⟩)) p.2 (some ⟨3, rv (trTo m.cells r c k p.1)⟩))
      (fun p => p.1 ≤ r ∧ p.2 ≠ g4 ∧ p.2 ≠ g2 ∧ bl p.2 = none ∧ (p.2 < 0 → k * r + p.1 = 0)) (fun p => r - p.1) _ (0, g) ⟨Nat.zero_le _, n4, n2, hbg, by simpa using hneg⟩ ⟨rfl, by simp, by intro z b hz; simp only [upd_apply, Nat.add_zero] at hz ⊢; grind⟩ ?_
    rintro ⟨i, g'⟩ ⟨hi, m4, m2, hbg', hneg'⟩
    simp only at hi m4 m2 hbg' hneg'
    have wi : IntKind.i64.wrap ((i : Int) + 1) = (i : Int) + 1 := i64_in (by omega) (by omega)
    refine AW_run ?_
    simp [m4, m2, Ne.symm m4, Ne.symm m2, h42, Ne.symm h42]
    refine ⟨fun h4 => ?_, fun h4 => ?_⟩
    · have hlt : i * c + k < r * c := by
        have h5 : (i + 1) * c ≤ r * c := Nat.mul_le_mul_right _ h4
        rw [Nat.add_mul, Nat.one_mul] at h5; omega
      have hlt2 : i * c + k < m.cells.length := by omega
      have hy : m.cells[i * c + k]? = some (m.cells.getD (i * c + k) rz) := by simp [hlt2]
      have hmem : m.cells.getD (i * c + k) rz ∈ m.cells := List.mem_of_getElem? hy
      have hA := l06At_ro m i k r c h.hc (by omega) (by omega) h4 h3 hlen _ hy
      have hC := l04Copy_ro _ (h.fq.2 _ hmem).1 (h.fq.2 _ hmem).2
      have hrow := trTo_row m.cells r c k i
      have hlt3 := trTo_length m.cells r c k i
      have hkr : k * r + i ≤ 1000 := by
        have : k * r ≤ 24 * 24 := Nat.mul_le_mul (by omega) h1
        omega
      simp only [MX.c3, h.hr, h.hc] at hA
      generalize m.cells.getD (i * c + k) rz = y at *
      have htk := rv_takeall (trTo m.cells r c k i)
      rw [hlt3] at htk
      refine AW_mixedBT mixedO (upd (upd bl g2 (some ⟨3, [[.int .i64 0, .int .i64 0, .nils]]⟩)) g4 (some ⟨3, [[.int .i64 c, .int .i64 r, .lsl g' 3 0 (k * r + i)]]⟩)) (by intro z b hz; simp only [upd_apply] at hz ⊢; grind) [0, 1, 2, 3, 4, 5, 6] 4 9 (by kernel_rfl) ?_
      simp [m4, m2, Ne.symm m4, Ne.symm m2, h42, Ne.symm h42]
      refine hcQ_ro hA ?_
      simp [m4, m2, Ne.symm m4, Ne.symm m2, h42, Ne.symm h42]
      refine hcQ_ro hC ?_
      simp [m4, m2, Ne.symm m4, Ne.symm m2, h42, Ne.symm h42]
      refine DAny_one (i := 7) (by kernel_rfl) rfl rfl ?_
      simp [m4, m2, Ne.symm m4, Ne.symm m2, h42, Ne.symm h42, RT.c]
      intro gB hgB
      intros
      have nB' : ¬ gB = g' := by assumption
      have nB4 : ¬ gB = g4 := by assumption
      have nB2 : ¬ gB = g2 := by assumption
      have hbB : bl gB = none := by assumption
      refine ⟨by intro z b hz; simp only [upd_apply] at hz ⊢; grind, DAny_one (i := 8) (by kernel_rfl) rfl rfl ?_⟩
      simp [m4, m2, Ne.symm m4, Ne.symm m2, h42, Ne.symm h42, nB', nB4, nB2, Ne.symm nB', Ne.symm nB4, Ne.symm nB2, appV, elsV, Int.not_lt.2 hgB, hlt3, htk]
      refine ⟨by omega, fun gC hgC hbC => ?_⟩
      have nC4 : ¬ gC = g4 := by grind
      have nC2 : ¬ gC = g2 := by grind
      have nCB : ¬ gC = gB := by grind
      have hbC' : bl gC = none := by grind
      refine ⟨by intro z b hz; simp only [upd_apply, rem_apply] at hz ⊢; grind, DAny_last (i := 9) (by kernel_rfl) rfl rfl rfl ?_⟩
      simp [m4, m2, Ne.symm m4, Ne.symm m2, h42, Ne.symm h42, nB', nB4, nB2, Ne.symm nB', Ne.symm nB4, Ne.symm nB2, nC4, nC2, nCB, Ne.symm nC4, Ne.symm nC2, Ne.symm nCB]
      refine DAny_last (i := 10) (by kernel_rfl) rfl rfl rfl ?_
      simp [m4, m2, Ne.symm m4, Ne.symm m2, h42, Ne.symm h42, nB', nB4, nB2, Ne.symm nB', Ne.symm nB4, Ne.symm nB2, nC4, nC2, nCB, Ne.symm nC4, Ne.symm nC2, Ne.symm nCB]
      refine DAny_done (by kernel_rfl) ?_
      simp [wi, loopQ_normal]
      refine ⟨i + 1, gC, ⟨by omega, nC4, nC2, hbC', by omega⟩, by omega, rfl, by simp, ?_⟩
      have e9 : rv (trTo m.cells r c k i ++ [y]) = rv (trTo m.cells r c k i) ++ [y.c] := by rw [rv_append]; rfl
      rw [hrow, e9]
      intro x y2 hx
      simp only [upd_apply, rem_apply, htk, RT.c, Nat.add_assoc] at hx ⊢
      grind
    · have hi2 : i = r := by omega
      subst hi2
      simp [wk, loopQ_normal]
      refine ⟨k + 1, g', ⟨by omega, m4, m2, hbg', by rw [Nat.add_mul, Nat.one_mul]; exact hneg'⟩, by omega, rfl, by simp, ?_⟩
      rw [← trTo_col]
      intro x y2 hx
      simp only [upd_apply, Nat.add_mul, Nat.one_mul] at hx ⊢
      grind
  · have hk2 : k = c := by omega
    subst hk2
    have hlk := trTo_length m.cells r k k 0
    refine retRO [.agg [.int .i64 k, .int .i64 r, .lsl g 3 0 (k * r)]] 2 (by simp [n4, n2, Ne.symm n4, Ne.symm n2, h42, Ne.symm h42]) ?_ (by intro z b hz; simp only [upd_apply] at hz ⊢; grind)
    have o : OwnD (dropB (upd (upd (upd (upd bl g2 (some ⟨3, [[.int .i64 0, .int .i64 0, .nils]]⟩)) g4 (some ⟨3, [[.int .i64 k, .int .i64 r, .lsl g 3 0 (k * r)]]⟩)) g (some ⟨3, rv (trTo m.cells r k k 0)⟩)) g2 (some ⟨3, [[.int .i64 k, .int .i64 r, .lsl g 3 0 (k * r)]]⟩)) bl) (.a (dMf (trM m r k))) (.agg [.int .i64 k, .int .i64 r, .lsl g 3 0 (k * r)]) [g] := by
      rw [OwnD]
      refine ⟨_, rfl, own_mf.2 ⟨.lsl g 3 0 (k * r), rfl, own_rvF.2 (.inr ⟨g, ?_, rfl, ?_, fun h0 => List.eq_nil_of_length_eq_zero (by show (trTo m.cells r k k 0).length = 0; rw [hlk]; simpa using hneg h0)⟩)⟩⟩
      · show _ = V.lsl g 3 0 (trTo m.cells r k k 0).length
        rw [hlk, Nat.add_zero]
      · simp [dropB, hbg, n4, n2, Ne.symm n4, Ne.symm n2]; rfl
    have := o.frz (dMf_dep _)
    rwa [dMf_fz] at this
end Go.Proofs.YtmbcofnnibpbeaaGreat.Vm

namespace Go.Proofs.YtmbcofnnibpbeaaGreat.Vm
open Go Go.Proofs
set_option linter.unusedSimpArgs false
set_option linter.unusedVariables false

abbrev MF := Nat → Nat → Option Rat
def updM (M : MF) (i j : Nat) (v : Option Rat) : MF := fun a b => if a = i ∧ b = j then v else M a b
/-- Row by row, in one list. -/
def flatR (r c : Nat) (M : MF) : List RT := (List.range (r * c)).map fun t => ro (M (t / c) (t % c))
@[simp] theorem flatR_len (r c : Nat) (M : MF) : (flatR r c M).length = r * c := by simp [flatR]
theorem flat_lt {r c i j : Nat} (hi : i < r) (hj : j < c) : i * c + j < r * c := by
  have h1 : (i + 1) * c ≤ r * c := Nat.mul_le_mul_right _ hi
  rw [Nat.add_mul, Nat.one_mul] at h1; omega
theorem flat_div {c i j : Nat} (hj : j < c) : (i * c + j) / c = i ∧ (i * c + j) % c = j := by
  have hc : 0 < c := by omega
  constructor
  · rw [Nat.mul_comm, Nat.mul_add_div hc, Nat.div_eq_of_lt hj, Nat.add_zero]
  · rw [Nat.mul_comm, Nat.mul_add_mod, Nat.mod_eq_of_lt hj]
theorem flatR_get {r c i j : Nat} (M : MF) (hi : i < r) (hj : j < c) : (flatR r c M)[i * c + j]? = some (ro (M i j)) := by
  obtain ⟨h1, h2⟩ := flat_div (i := i) hj
  simp [flatR, flat_lt hi hj, h1, h2]
theorem flatR_congr {r c : Nat} {M M' : MF} (h : ∀ i j, i < r → j < c → M i j = M' i j) : flatR r c M = flatR r c M' := by
  unfold flatR
  apply List.map_congr_left
  intro t ht
  have ht' : t < r * c := by simpa using ht
  have hc : 0 < c := by
    rcases Nat.eq_zero_or_pos c with h0 | h0
    · rw [h0] at ht'; omega
    · exact h0
  rw [h _ _ (Nat.div_lt_of_lt_mul (by rw [Nat.mul_comm]; exact ht')) (Nat.mod_lt _ hc)]
theorem flatR_set {r c i j : Nat} (M : MF) (hi : i < r) (hj : j < c) (v : Option Rat) : (flatR r c M).set (i * c + j) (ro v) = flatR r c (updM M i j v) := by
  apply List.ext_getElem
  · simp
  · intro t h1 h2
    have ht : t < r * c := by simpa using h2
    have hc : 0 < c := by omega
    rw [List.getElem_set]
    obtain ⟨d1, d2⟩ := flat_div (i := i) hj
    simp only [flatR, List.getElem_map, List.getElem_range, updM]
    by_cases h : i * c + j = t
    · subst h; rw [if_pos rfl, d1, d2]; simp
    · rw [if_neg h, if_neg]
      rintro ⟨h3, h4⟩
      apply h
      rw [← h3, ← h4, Nat.mul_comm]; exact Nat.div_add_mod t c

theorem rvR_set (rs : List RT) (i : Nat) (x : RT) : (rv rs).set i x.c = rv (rs.set i x) := by simp [rv, List.map_set]
/-! ### The steps -/
def swapM (M : MF) (i n : Nat) : MF := fun a b => if a = i then M n b else if a = n then M i b else M a b
def divM (M : MF) (n : Nat) (p : Option Rat) : MF := fun a b => if a = n then op2 (· / ·) (M a b) p else M a b
def clrM (M : MF) (n k : Nat) : MF := fun a b => if a = n ∨ nm (M a k) = 0 then M a b else op2 (· - ·) (M a b) (op2 (· * ·) (M a k) (M n b))
def stepM (M : MF) (n k i : Nat) : MF := clrM (divM (swapM M i n) n (swapM M i n n k)) n k
/-- The first row from n on whose element of column k isn't 0, or r. -/
def pivAt (M : MF) (r k : Nat) (n : Nat) : Nat := if n < r then if nm (M n k) = 0 then pivAt M r k (n + 1) else n else r
termination_by r - n
theorem pivAt_ge (M : MF) (r k : Nat) (n : Nat) (h : r ≤ n) : pivAt M r k n = r := by rw [pivAt, if_neg (by omega)]
theorem pivAt_zero (M : MF) {r k n : Nat} (h : n < r) (h0 : nm (M n k) = 0) : pivAt M r k n = pivAt M r k (n + 1) := by rw [pivAt, if_pos h, if_pos h0]
theorem pivAt_hit (M : MF) {r k n : Nat} (h : n < r) (h0 : nm (M n k) ≠ 0) : pivAt M r k n = n := by rw [pivAt, if_pos h, if_neg h0]
theorem pivAt_spec (M : MF) (r k : Nat) : ∀ d n, d = r - n → n ≤ r → (n ≤ pivAt M r k n ∧ pivAt M r k n ≤ r) ∧ (∀ j, n ≤ j → j < pivAt M r k n → nm (M j k) = 0) ∧ (pivAt M r k n < r → nm (M (pivAt M r k n) k) ≠ 0)
  | 0, n, hd, hn => by
    rw [pivAt_ge M r k n (by omega)]
    exact ⟨by omega, fun j h1 h2 => by omega, fun h => by omega⟩
  | d + 1, n, hd, hn => by
    have hlt : n < r := by omega
    by_cases h0 : nm (M n k) = 0
    · rw [pivAt_zero M hlt h0]
      obtain ⟨h1, h2, h3⟩ := pivAt_spec M r k d (n + 1) (by omega) (by omega)
      refine ⟨by omega, fun j h4 h5 => ?_, h3⟩
      by_cases e : j = n
      · rw [e]; exact h0
      · exact h2 j (by omega) h5
    · rw [pivAt_hit M hlt h0]
      exact ⟨by omega, fun j h1 h2 => by omega, fun _ => h0⟩
def okM (r c : Nat) (M : MF) : Bool := (List.range r).all fun i => (List.range c).all fun j => (M i j).isSome
theorem okM_iff {r c : Nat} {M : MF} : okM r c M = true ↔ ∀ i j, i < r → j < c → (M i j).isSome = true := by
  simp [okM]
  constructor
  · intro h i j hi hj; exact h i hi j hj
  · intro h i hi j hj; exact h i j hi hj
theorem okM_congr {r c : Nat} {M M' : MF} (h : ∀ i j, i < r → j < c → M i j = M' i j) : okM r c M = okM r c M' := by
  rw [Bool.eq_iff_iff, okM_iff, okM_iff]
  constructor
  · intro h1 i j hi hj; rw [← h i j hi hj]; exact h1 i j hi hj
  · intro h1 i j hi hj; rw [h i j hi hj]; exact h1 i j hi hj
structure RS where
  M : MF
  P : List Nat
/-- One column. -/
def redStep (r c k : Nat) (s : RS) : Option RS :=
  if s.P.length < r then
    if pivAt s.M r k s.P.length = r then some s
    else if okM r c (stepM s.M s.P.length k (pivAt s.M r k s.P.length)) = true then some ⟨stepM s.M s.P.length k (pivAt s.M r k s.P.length), s.P ++ [k]⟩ else none
  else some s
def redTo (r c : Nat) (M : MF) : Nat → Option RS
  | 0 => some ⟨M, []⟩
  | k + 1 => (redTo r c M k).bind (redStep r c k)
theorem redTo_none {r c : Nat} {M : MF} {k : Nat} (h : redTo r c M k = none) : ∀ d, redTo r c M (k + d) = none
  | 0 => h
  | d + 1 => by show (redTo r c M (k + d)).bind _ = none; rw [redTo_none h d]; rfl
theorem redTo_full {r c : Nat} {M : MF} {k : Nat} {s : RS} (h : redTo r c M k = some s) (hf : ¬ s.P.length < r) : ∀ d, redTo r c M (k + d) = some s
  | 0 => h
  | d + 1 => by show (redTo r c M (k + d)).bind _ = some s; rw [redTo_full h hf d]; show redStep r c (k + d) s = _; unfold redStep; rw [if_neg hf]
/-- What holds of the state after k columns. -/
structure RI (r c k : Nat) (s : RS) : Prop where
  le : s.P.length ≤ r
  ok : okM r c s.M = true
  fit : ∀ i j, okQ (s.M i j)
  zero : ∀ i j, s.P.length ≤ i → i < r → j < k → j < c → s.M i j = some 0
  piv : ∀ n (h : n < s.P.length), s.P[n] < k
  inc : ∀ m n (hm : m < n) (hn : n < s.P.length), s.P[m] < s.P[n]
theorem nm_zero {x : Option Rat} (hx : x.isSome = true) (h : nm x = 0) : x = some 0 := by
  cases x with
  | none => cases hx
  | some q =>
    have : q.num = 0 := h
    rw [Rat.num_eq_zero.1 this]
theorem op2_div0 {p : Option Rat} (hp : p.isSome = true) : op2 (· / ·) (some 0) p = some 0 := by
  cases p with
  | none => cases hp
  | some q =>
    show fit (0 / q) = some 0
    rw [Rat.div_def, Rat.zero_mul]; unfold fit; rw [if_pos fits_zero]
theorem op2_mul0 {p : Option Rat} (hp : p.isSome = true) : op2 (· * ·) p (some 0) = some 0 := by
  cases p with
  | none => cases hp
  | some q =>
    show fit (q * 0) = some 0
    rw [Rat.mul_zero]; unfold fit; rw [if_pos fits_zero]
theorem op2_sub0 {p : Option Rat} (hp : okQ p) : op2 (· - ·) p (some 0) = p := by
  cases p with
  | none => rfl
  | some q =>
    show fit (q - 0) = some q
    rw [Rat.sub_eq_add_neg, Rat.neg_zero, Rat.add_zero]; unfold fit; rw [if_pos (hp q rfl)]
theorem op2_div1 {p : Option Rat} (h : nm p ≠ 0) : op2 (· / ·) p p = some 1 := by
  cases p with
  | none => exact absurd rfl h
  | some q =>
    have hq : q ≠ 0 := fun e => h (by rw [e]; rfl)
    show fit (q / q) = some 1
    rw [Rat.div_def, Rat.mul_inv_cancel q hq]; unfold fit; rw [if_pos (show fits (1 : Rat) from fits_int (n := 1) (by decide))]
theorem op2_mul1 {x : Option Rat} (hx : okQ x) : op2 (· * ·) x (some 1) = x := by
  cases x with
  | none => rfl
  | some q =>
    show fit (q * 1) = some q
    rw [Rat.mul_one]; unfold fit; rw [if_pos (hx q rfl)]
theorem op2_sub_self {x : Option Rat} (hx : x.isSome = true) : op2 (· - ·) x x = some 0 := by
  cases x with
  | none => cases hx
  | some q =>
    show fit (q - q) = some 0
    rw [Rat.sub_self]; unfold fit; rw [if_pos fits_zero]
theorem nm_some {x : Option Rat} (h : nm x ≠ 0) : x.isSome = true := by cases x with | none => exact absurd rfl h | some q => rfl
theorem swapM_fit {M : MF} (h : ∀ i j, okQ (M i j)) (i n : Nat) : ∀ a b, okQ (swapM M i n a b) := fun a b => by
  unfold swapM
  split
  · exact h _ _
  · split <;> exact h _ _
theorem divM_fit {M : MF} (h : ∀ i j, okQ (M i j)) (n : Nat) (p : Option Rat) : ∀ a b, okQ (divM M n p a b) := fun a b => by
  unfold divM
  split
  · exact okQ_op2 _ _ _
  · exact h _ _
theorem clrM_fit {M : MF} (h : ∀ i j, okQ (M i j)) (n k : Nat) : ∀ a b, okQ (clrM M n k a b) := fun a b => by
  unfold clrM
  split
  · exact h _ _
  · exact okQ_op2 _ _ _
theorem stepM_fit {M : MF} (h : ∀ i j, okQ (M i j)) (n k i : Nat) : ∀ a b, okQ (stepM M n k i a b) := clrM_fit (divM_fit (swapM_fit h i n) _ _) n k
theorem swapM_self (M : MF) (n : Nat) : swapM M n n = M := by
  funext a b; unfold swapM; split <;> simp_all
/-- Below the pivots there is nothing but 0 in the columns done. -/
def Zs (r c n k : Nat) (M : MF) : Prop := ∀ i j, n ≤ i → i < r → j < k → j < c → M i j = some 0
theorem swap_zs {r c n k i : Nat} {M : MF} (h : Zs r c n k M) (hi : n ≤ i) (hir : i < r) : Zs r c n k (swapM M i n) := fun a b h1 h2 h3 h4 => by
  unfold swapM
  split
  · exact h n b (Nat.le_refl _) (by omega) h3 h4
  · split
    · exact h i b hi hir h3 h4
    · exact h a b h1 h2 h3 h4
theorem swap_ok {r c i n : Nat} {M : MF} (h : okM r c M = true) (hi : i < r) (hn : n < r) : okM r c (swapM M i n) = true := okM_iff.2 fun a b h1 h2 => by
  have := okM_iff.1 h
  unfold swapM
  split
  · exact this _ _ hn h2
  · split
    · exact this _ _ hi h2
    · exact this _ _ h1 h2
theorem div_zs {r c n k : Nat} {M : MF} {p : Option Rat} (h : Zs r c n k M) (hp : p.isSome = true) : Zs r c n k (divM M n p) := fun a b h1 h2 h3 h4 => by
  unfold divM
  split
  · rw [h a b h1 h2 h3 h4, op2_div0 hp]
  · exact h a b h1 h2 h3 h4
theorem redStep_ri {r c k : Nat} {s s' : RS} (h : RI r c k s) (hk : k < c) (hs : redStep r c k s = some s') : RI r c (k + 1) s' := by
  unfold redStep at hs
  split at hs
  · rename_i hlt
    obtain ⟨⟨p1, p2⟩, p3, p4⟩ := pivAt_spec s.M r k _ s.P.length rfl h.le
    split at hs
    · rename_i hp
      cases hs
      refine ⟨h.le, h.ok, h.fit, fun i j h1 h2 h3 h4 => ?_, fun n hn => Nat.lt_succ_of_lt (h.piv n hn), h.inc⟩
      by_cases e : j = k
      · subst e
        exact nm_zero (okM_iff.1 h.ok _ _ h2 h4) (p3 i h1 (by omega))
      · exact h.zero i j h1 h2 (by omega) h4
    · rename_i hp
      split at hs
      · rename_i hok
        cases hs
        have hpr : pivAt s.M r k s.P.length < r := by omega
        have h4 := p4 hpr
        generalize pivAt s.M r k s.P.length = i at *
        have z1 := swap_zs (fun a b => h.zero a b) p1 hpr
        have o1 := swap_ok h.ok hpr hlt
        have f1 := swapM_fit h.fit i s.P.length
        have hpv : nm (swapM s.M i s.P.length s.P.length k) ≠ 0 := by
          unfold swapM
          by_cases e : s.P.length = i
          · rw [if_pos e]; rw [e]; exact h4
          · rw [if_neg e, if_pos rfl]; exact h4
        have z2 := div_zs (p := swapM s.M i s.P.length s.P.length k) z1 (nm_some hpv)
        refine ⟨by simp; omega, hok, stepM_fit h.fit _ _ _, fun a b h5 h6 h7 h8 => ?_, fun n hn => ?_, fun m n hm hn => ?_⟩
        · simp only [List.length_append, List.length_cons, List.length_nil] at h5
          have hne : a ≠ s.P.length := by omega
          show clrM (divM (swapM s.M i s.P.length) s.P.length (swapM s.M i s.P.length s.P.length k)) s.P.length k a b = some 0
          have e1 : ∀ b, divM (swapM s.M i s.P.length) s.P.length (swapM s.M i s.P.length s.P.length k) a b = swapM s.M i s.P.length a b := fun b => by unfold divM; rw [if_neg hne]
          have e2 : divM (swapM s.M i s.P.length) s.P.length (swapM s.M i s.P.length s.P.length k) s.P.length k = some 1 := by unfold divM; rw [if_pos rfl]; exact op2_div1 hpv
          have hsk := okM_iff.1 o1 a k h6 hk
          by_cases e : b = k
          · subst e
            unfold clrM
            split
            · rename_i h9
              rw [e1] at h9 ⊢
              rcases h9 with h9 | h9
              · exact absurd h9 hne
              · exact nm_zero hsk h9
            · rw [e1, e2, op2_mul1 (f1 _ _), op2_sub_self hsk]
          · have hbk : b < k := by omega
            have z3 := z2 a b (by omega) h6 hbk h8
            have z4 := z2 s.P.length b (Nat.le_refl _) hlt hbk h8
            unfold clrM
            split
            · exact z3
            · rw [z3, z4, e1, op2_mul0 hsk, op2_sub_self rfl]
        · rcases Nat.lt_or_ge n s.P.length with h9 | h9
          · rw [List.getElem_append_left h9]; exact Nat.lt_succ_of_lt (h.piv n h9)
          · rw [List.getElem_append_right h9]; simp
        · have hn' : n < s.P.length + 1 := by simpa using hn
          rcases Nat.lt_or_ge n s.P.length with h9 | h9
          · rw [List.getElem_append_left (by omega), List.getElem_append_left h9]; exact h.inc m n hm h9
          · rw [List.getElem_append_left (by omega), List.getElem_append_right h9]
            simpa using h.piv m (by omega)
      · cases hs
  · rename_i hlt
    cases hs
    refine ⟨h.le, h.ok, h.fit, fun i j h1 h2 h3 h4 => by omega, fun n hn => Nat.lt_succ_of_lt (h.piv n hn), h.inc⟩
theorem redTo_ri {r c : Nat} {M : MF} (ho : okM r c M = true) (hf : ∀ i j, okQ (M i j)) : ∀ k, k ≤ c → ∀ s, redTo r c M k = some s → RI r c k s
  | 0, _, s, h => by
    cases h
    exact ⟨Nat.zero_le _, ho, hf, fun i j _ _ h _ => by omega, fun n h => by simp at h, fun m n _ h => by simp at h⟩
  | k + 1, hk, s, h => by
    cases h1 : redTo r c M k with
    | none => simp [redTo, h1] at h
    | some s1 =>
      simp [redTo, h1] at h
      exact redStep_ri (redTo_ri ho hf k (by omega) s1 h1) (by omega) h

/-! ### The reference skips columns and elements that are 0 -/
def divS (M : MF) (n k : Nat) (p : Option Rat) : MF := fun a b => if a = n ∧ k ≤ b then op2 (· / ·) (M a b) p else M a b
def clrS (M : MF) (n k : Nat) : MF := fun a b => if a = n ∨ nm (M a k) = 0 ∨ b < k ∨ nm (M n b) = 0 then M a b else op2 (· - ·) (M a b) (op2 (· * ·) (M a k) (M n b))
def stepS (M : MF) (n k i : Nat) : MF := clrS (divS (swapM M i n) n k (swapM M i n n k)) n k
theorem stepS_eq {r c k n i : Nat} {M : MF} (ho : okM r c M = true) (hf : ∀ i j, okQ (M i j)) (hz : Zs r c n k M) (hn : n < r) (hi : i < r) (hni : n ≤ i) (hk : k < c) (h4 : nm (M i k) ≠ 0) :
    okM r c (stepS M n k i) = okM r c (stepM M n k i) ∧ (okM r c (stepM M n k i) = true → ∀ a b, a < r → b < c → stepS M n k i a b = stepM M n k i a b) := by
  have z1 := swap_zs hz hni hi
  have o1 := swap_ok ho hi hn
  have f1 := swapM_fit hf i n
  have hpv : nm (swapM M i n n k) ≠ 0 := by
    unfold swapM
    by_cases e : n = i
    · rw [if_pos e]; rw [e]; exact h4
    · rw [if_neg e, if_pos rfl]; exact h4
  unfold stepS stepM
  generalize swapM M i n = S at *
  have hp := nm_some hpv
  have z2 := div_zs (p := S n k) z1 hp
  have ed : ∀ a b, a < r → b < c → divS S n k (S n k) a b = divM S n (S n k) a b := fun a b ha hb => by
    unfold divS divM
    by_cases e : a = n
    · by_cases e2 : k ≤ b
      · rw [if_pos ⟨e, e2⟩, if_pos e]
      · rw [if_neg (fun h => e2 h.2), if_pos e, z1 a b (by omega) ha (by omega) hb, op2_div0 hp]
    · rw [if_neg (fun h => e h.1), if_neg e]
  have f2 := divM_fit f1 n (S n k)
  have row : ∀ b, b < c → clrS (divS S n k (S n k)) n k n b = divM S n (S n k) n b ∧ clrM (divM S n (S n k)) n k n b = divM S n (S n k) n b := fun b hb => by
    refine ⟨?_, ?_⟩
    · unfold clrS; rw [if_pos (.inl rfl), ed n b hn hb]
    · unfold clrM; rw [if_pos (.inl rfl)]
  by_cases hall : ∀ b, b < c → (divM S n (S n k) n b).isSome = true
  · have eq : ∀ a b, a < r → b < c → clrS (divS S n k (S n k)) n k a b = clrM (divM S n (S n k)) n k a b := fun a b ha hb => by
      unfold clrS clrM
      rw [ed a k ha hk, ed n b hn hb, ed a b ha hb]
      by_cases e1 : a = n
      · rw [if_pos (.inl e1), if_pos (.inl e1)]
      · by_cases e2 : nm (divM S n (S n k) a k) = 0
        · rw [if_pos (.inr (.inl e2)), if_pos (.inr e2)]
        · have e5 : ¬ (a = n ∨ nm (divM S n (S n k) a k) = 0) := by rintro (h | h); exact e1 h; exact e2 h
          rw [if_neg e5]
          by_cases e3 : b < k
          · rw [if_pos (.inr (.inr (.inl e3))), z2 n b (Nat.le_refl _) hn e3 hb, op2_mul0 (nm_some e2), op2_sub0 (f2 _ _)]
          · by_cases e4 : nm (divM S n (S n k) n b) = 0
            · rw [if_pos (.inr (.inr (.inr e4))), nm_zero (hall b hb) e4, op2_mul0 (nm_some e2), op2_sub0 (f2 _ _)]
            · rw [if_neg]
              rintro (h | h | h | h)
              · exact e1 h
              · exact e2 h
              · exact e3 h
              · exact e4 h
    exact ⟨okM_congr eq, fun _ => eq⟩
  · have no : ∀ X : MF, (∀ b, b < c → X n b = divM S n (S n k) n b) → okM r c X = false := fun X hX => by
      rw [Bool.eq_false_iff]
      intro h
      exact hall fun b hb => by rw [← hX b hb]; exact okM_iff.1 h n b hn hb
    have n1 := no _ fun b hb => (row b hb).1
    have n2 := no _ fun b hb => (row b hb).2
    exact ⟨by rw [n1, n2], fun h => by rw [n2] at h; cases h⟩
end Go.Proofs.YtmbcofnnibpbeaaGreat.Vm

namespace Go.Proofs.YtmbcofnnibpbeaaGreat.Vm
open Go Go.Proofs
set_option linter.unusedSimpArgs false
set_option linter.unusedVariables false

theorem callP_rl {P : Program} {f : FuncId} {xs : List V} {bl blK : Int → Option Blk} {r : V} {k : V → (Int → Option Blk) → Prop} (h : RL P blK f xs r) (hs : Sub blK bl) (hk : k r bl) : CallP P f xs bl k := (h bl hs).mono fun v b ⟨hv, hb⟩ => by subst hv hb; exact hk
/-- An element of a matrix that is being worked on. -/
theorem l06At_rl {blK : Int → Option Blk} (g : Int) (rs : List RT) (r0 : Int) (c i k : Nat) (y : RT) (hg : blK g = some ⟨3, rv rs⟩) (hn : rs.length ≤ 10000) (hi : i ≤ 100) (hc : c ≤ 100) (hk : k ≤ 100) (hy : rs[i * c + k]? = some y) : RL Tryz.prog blK 107 [.agg [.int .i64 r0, .int .i64 c, .lsl g 3 0 rs.length], .int .i64 i, .int .i64 k] (.agg y.c) := by
  intro bl hs
  have hb := hs g _ hg
  have hm : i * c ≤ 100 * 100 := Nat.mul_le_mul hi hc
  have e0 : (i : Int) * (c : Int) = ((i * c : Nat) : Int) := (Int.natCast_mul i c).symm
  obtain ⟨t, ht⟩ : ∃ t, i * c + k = t := ⟨_, rfl⟩
  have w1 : IntKind.i64.wrap ((i : Int) * (c : Int)) = (i : Int) * (c : Int) := i64_in (by omega) (by omega)
  have w2 : IntKind.i64.wrap ((i : Int) * (c : Int) + (k : Int)) = (t : Int) := by rw [i64_in (by omega) (by omega)]; omega
  rw [ht] at hy
  have hlt : t < rs.length := (List.getElem?_eq_some_iff.1 hy).1
  have e1 : (rv rs)[t]? = some y.c := by simp [rv, hy]
  have ey : ∀ h : t < rs.length, rs[t] = y := fun h => by rw [List.getElem?_eq_getElem h] at hy; exact Option.some.inj hy
  have l3 : y.c.length = 3 := rfl
  have t3 : y.c.take 3 = y.c := rfl
  refine callP_frz (r := .agg y.c) (bl2 := bl) ?_ ⟨rfl, rfl⟩
  refine callP_of Tryz.func107 rfl rfl (by rw [Tryz.ntmps107]; simp) ?_
  rw [Tryz.ntmps107, Tryz.results107]
  refine AW_runA ?_
  simp
  intro g3 hg3 hb3 g6 hg6 h63 hb6
  have n3 : ¬ g3 = g := fun e => by rw [e, hb] at hb3; cases hb3
  have n6 : ¬ g6 = g := fun e => by rw [e, hb] at hb6; cases hb6
  refine AW_run ?_
  simp [n3, n6, Ne.symm n3, Ne.symm n6, h63, Ne.symm h63, hb, w1, w2, e1, hlt, ey, l3, t3]
  refine ⟨by simp [RT.c], ?_⟩
  try simp
  rw [retK_ret]
  exact ⟨[.agg y.c], by simp [RT.c, h63, Ne.symm h63], ⟨1, by simp [frz, V.cl, RT.c]⟩, by intro z b hz; simp only [upd_apply] at hz ⊢; grind⟩

def outM (M : MF) (n k i : Nat) : MF := fun a b => if a < i then clrS M n k a b else M a b
def curM (M : MF) (n k i j : Nat) : MF := fun a b => if a < i ∨ a = i ∧ b < j then clrS M n k a b else M a b
theorem clrS_n (M : MF) (n k b : Nat) : clrS M n k n b = M n b := by unfold clrS; rw [if_pos (.inl rfl)]
theorem clrS_lt (M : MF) (n k a b : Nat) (h : b < k) : clrS M n k a b = M a b := by unfold clrS; rw [if_pos (.inr (.inr (.inl h)))]
theorem curM_at (M : MF) (n k i j : Nat) : curM M n k i j i j = M i j := by unfold curM; rw [if_neg (by omega)]
theorem curM_n (M : MF) (n k i j b : Nat) : curM M n k i j n b = M n b := by unfold curM; split <;> simp [clrS_n]
theorem curM_start (M : MF) (n k i a b : Nat) : curM M n k i k a b = outM M n k i a b := by
  unfold curM outM
  by_cases h : a < i
  · rw [if_pos (.inl h), if_pos h]
  · rw [if_neg h]
    by_cases h2 : a = i ∧ b < k
    · rw [if_pos (.inr h2), clrS_lt _ _ _ _ _ h2.2]
    · rw [if_neg (by omega)]
theorem curM_end (M : MF) (n k i c a b : Nat) (hb : b < c) : curM M n k i c a b = outM M n k (i + 1) a b := by
  unfold curM outM
  by_cases h : a < i + 1
  · rw [if_pos h, if_pos (by omega)]
  · rw [if_neg h, if_neg (by omega)]
theorem outM_skip (M : MF) (n k i a b : Nat) (h : i = n ∨ nm (M i k) = 0) : outM M n k (i + 1) a b = outM M n k i a b := by
  unfold outM
  by_cases h1 : a < i
  · rw [if_pos h1, if_pos (by omega)]
  · rw [if_neg h1]
    by_cases h2 : a = i
    · subst h2
      rw [if_pos (by omega)]
      unfold clrS
      rw [if_pos]
      rcases h with h | h
      · exact .inl h
      · exact .inr (.inl h)
    · rw [if_neg (by omega)]
theorem curM_skip (M : MF) (n k i j a b : Nat) (h : nm (M n j) = 0) : curM M n k i (j + 1) a b = curM M n k i j a b := by
  unfold curM
  by_cases h1 : a < i ∨ a = i ∧ b < j
  · rw [if_pos h1, if_pos (by omega)]
  · rw [if_neg h1]
    by_cases h2 : a = i ∧ b = j
    · obtain ⟨rfl, rfl⟩ := h2
      rw [if_pos (by omega)]
      unfold clrS
      rw [if_pos (.inr (.inr (.inr h)))]
    · rw [if_neg (by omega)]
theorem curM_do (M : MF) (n k i j a b : Nat) (h1 : i ≠ n) (h2 : nm (M i k) ≠ 0) (h3 : k ≤ j) (h4 : nm (M n j) ≠ 0) : updM (curM M n k i j) i j (op2 (· - ·) (M i j) (op2 (· * ·) (M i k) (M n j))) a b = curM M n k i (j + 1) a b := by
  unfold updM
  by_cases h5 : a = i ∧ b = j
  · rw [if_pos h5]
    obtain ⟨rfl, rfl⟩ := h5
    unfold curM
    rw [if_pos (by omega)]
    unfold clrS
    rw [if_neg]
    rintro (h | h | h | h)
    · exact h1 h
    · exact h2 h
    · omega
    · exact h4 h
  · rw [if_neg h5]
    unfold curM
    by_cases h6 : a < i ∨ a = i ∧ b < j
    · rw [if_pos h6, if_pos (by omega)]
    · rw [if_neg h6, if_neg (by omega)]
theorem outM_all (M : MF) (n k r a b : Nat) (h : a < r) : outM M n k r a b = clrS M n k a b := by unfold outM; rw [if_pos h]
theorem ro_all (x : Option Rat) : ∀ v, v ∈ (ro x).c → v.one = true := by simp [RT.c]
theorem l07Clear_cp {bl : Int → Option Blk} {K : V → (Int → Option Blk) → Prop} (r c : Nat) (M : MF) (n k : Nat) (g : Int) (hr : r ≤ 24) (hc : c ≤ 24) (hn : n < r) (hk : k < c) (hM : ∀ i j, okQ (M i j)) (hg0 : 0 ≤ g) (hb : bl g = some ⟨3, rv (flatR r c M)⟩)
    (hK : ∀ v bl', Sub (upd bl g (some ⟨3, rv (flatR r c (clrS M n k))⟩)) bl' → K v bl') : CallP Tryz.prog 183 [.agg [.int .i64 r, .int .i64 c, .lsl g 3 0 (r * c)], .int .i64 n, .int .i64 k] bl K := by
  refine callP_of Tryz.func183 rfl rfl (by rw [Tryz.ntmps183]; simp) ?_
  rw [Tryz.ntmps183, Tryz.results183]
  refine AW_runA ?_
  simp
  intro g3 hg3 hb3
  have n3 : ¬ g3 = g := fun e => by rw [e, hb] at hb3; cases hb3
  refine AW_run ?_
  simp
  refine AW_for (fun i : Nat => [(1, .int .i64 n), (2, .int .i64 k), (3, .loc g3 3 0 0), (6, .int .i64 i)]) (fun i => upd (upd bl g3 (some ⟨3, [[.int .i64 r, .int .i64 c, .lsl g 3 0 (r * c)]]⟩)) g (some ⟨3, rv (flatR r c (outM M n k i))⟩)) (fun i => i ≤ r) (fun i => r - i) _ 0 (Nat.zero_le _)
    ⟨rfl, by simp, by
      rw [show outM M n k 0 = M by funext a b; unfold outM; rw [if_neg (by omega)]]
      intro z b hz; simp only [upd_apply] at hz ⊢; grind⟩ ?_
  intro i hi
  have wi : IntKind.i64.wrap ((i : Int) + 1) = (i : Int) + 1 := i64_in (by omega) (by omega)
  obtain ⟨mi, emi⟩ : ∃ mi, mi = outM M n k i := ⟨_, rfl⟩
  refine AW_runA ?_
  simp [n3, Ne.symm n3]
  refine ⟨fun h => ?_, fun h => ?_⟩
  · have ex : outM M n k i i k = M i k := by unfold outM; rw [if_neg (by omega)]
    have hA := l06At_rl (blK := upd (upd bl g3 (some ⟨3, [[.int .i64 r, .int .i64 c, .lsl g 3 0 (r * c)]]⟩)) g (some ⟨3, rv (flatR r c (outM M n k i))⟩)) g (flatR r c (outM M n k i)) r c i k (ro (M i k)) (by simp) (by simp; have : r * c ≤ 24 * 24 := Nat.mul_le_mul hr hc; omega) (by omega) (by omega) (by omega) (by rw [flatR_get _ h hk, ex])
    rw [flatR_len] at hA
    refine AW_runA ?_
    simp [n3, Ne.symm n3]
    refine callP_rl hA (Sub.refl _) ?_
    simp [RT.c]
    intro g7 hg7
    intros
    have n73 : ¬ g7 = g3 := by assumption
    have n7 : ¬ g7 = g := by assumption
    have hb7 : bl g7 = none := by assumption
    refine AW_frzAt 1 7 (.ptr (ro (M i k)).c) (upd (upd bl g3 (some ⟨3, [[.int .i64 r, .int .i64 c, .lsl g 3 0 (r * c)]]⟩)) g (some ⟨3, rv (flatR r c (outM M n k i))⟩)) (by intro z b hz; simp only [upd_apply] at hz ⊢; grind) (by simp [frz, dropB, n7, n73, Ne.symm n7, Ne.symm n73, hb7, V.cl, RT.c]) ?_
    by_cases hz : i = n ∨ nm (M i k) = 0
    · refine AW_way0 [(1, .int .i64 n), (2, .int .i64 k), (3, .loc g3 3 0 0), (6, .int .i64 i), (7, .ptr (ro (M i k)).c)] _ (upd (upd bl g3 (some ⟨3, [[.int .i64 r, .int .i64 c, .lsl g 3 0 (r * c)]]⟩)) g (some ⟨3, rv (flatR r c (outM M n k i))⟩)) 25 (.bool true) ⟨rfl, by simp [RT.c], Sub.refl _⟩ rfl ?_ ?_
      · simp [RT.c]
        intro h1
        refine callP_ro (l05Nil_ro (M i k)) ?_
        have h2 : nm (M i k) = 0 := hz.resolve_left (by omega)
        simp [h1, h2]
      have e2 : flatR r c (outM M n k i) = flatR r c (outM M n k (i + 1)) := flatR_congr fun a b _ _ => (outM_skip M n k i a b hz).symm
      simp
      refine AW_run ?_
      simp [wi, loopQ_normal]
      refine ⟨i + 1, by omega, by omega, rfl, by simp, ?_⟩
      rw [← e2]; exact Sub.refl _
    have h1 : i ≠ n := fun e => hz (.inl e)
    have h2 : nm (M i k) ≠ 0 := fun e => hz (.inr e)
    have h1' : ¬ (i : Int) = n := by omega
    refine AW_way0 [(1, .int .i64 n), (2, .int .i64 k), (3, .loc g3 3 0 0), (6, .int .i64 i), (7, .ptr (ro (M i k)).c)] _ (upd (upd bl g3 (some ⟨3, [[.int .i64 r, .int .i64 c, .lsl g 3 0 (r * c)]]⟩)) g (some ⟨3, rv (flatR r c (outM M n k i))⟩)) 25 (.bool false) ⟨rfl, by simp [RT.c], Sub.refl _⟩ rfl ?_ ?_
    · simp [RT.c, h1']
      refine callP_ro (l05Nil_ro (M i k)) ?_
      simp [h2]
    simp
    have hmul : r * c ≤ 24 * 24 := Nat.mul_le_mul hr hc
    refine AW_for (fun j : Nat => [(1, .int .i64 n), (2, .int .i64 k), (3, .loc g3 3 0 0), (6, .int .i64 i), (7, .ptr (ro (M i k)).c), (8, .int .i64 j)]) (fun j => upd (upd bl g3 (some ⟨3, [[.int .i64 r, .int .i64 c, .lsl g 3 0 (r * c)]]⟩)) g (some ⟨3, rv (flatR r c (curM M n k i j))⟩)) (fun j => k ≤ j ∧ j ≤ c) (fun j => c - j) _ k ⟨Nat.le_refl _, by omega⟩
      ⟨rfl, by simp [RT.c], by
        rw [show curM M n k i k = outM M n k i by funext a b; exact curM_start M n k i a b]; exact Sub.refl _⟩ ?_
    rintro j ⟨hkj, hj⟩
    have wj : IntKind.i64.wrap ((j : Int) + 1) = (j : Int) + 1 := i64_in (by omega) (by omega)
    refine AW_runA ?_
    simp [n3, Ne.symm n3]
    refine ⟨fun h3 => ?_, fun h3 => ?_⟩
    · have hA2 := l06At_rl (blK := upd (upd bl g3 (some ⟨3, [[.int .i64 r, .int .i64 c, .lsl g 3 0 (r * c)]]⟩)) g (some ⟨3, rv (flatR r c (curM M n k i j))⟩)) g (flatR r c (curM M n k i j)) r c n j (ro (M n j)) (by simp) (by simp; omega) (by omega) (by omega) (by omega) (by rw [flatR_get _ hn h3, curM_n])
      have hA3 := l06At_rl (blK := upd (upd bl g3 (some ⟨3, [[.int .i64 r, .int .i64 c, .lsl g 3 0 (r * c)]]⟩)) g (some ⟨3, rv (flatR r c (curM M n k i j))⟩)) g (flatR r c (curM M n k i j)) r c i j (ro (M i j)) (by simp) (by simp; omega) (by omega) (by omega) (by omega) (by rw [flatR_get _ h h3, curM_at])
      rw [flatR_len] at hA2 hA3
      refine AW_runA ?_
      simp [n3, Ne.symm n3]
      refine callP_rl hA2 (Sub.refl _) ?_
      simp
      refine callP_ro (l05Nil_ro (M n j)) ?_
      simp
      by_cases h4 : nm (M n j) = 0
      · have e2 : flatR r c (curM M n k i j) = flatR r c (curM M n k i (j + 1)) := flatR_congr fun a b _ _ => (curM_skip M n k i j a b h4).symm
        simp [h4]
        refine AW_run ?_
        simp [wj, loopQ_normal]
        refine ⟨j + 1, ⟨by omega, by omega⟩, by omega, rfl, by simp [RT.c], ?_⟩
        rw [← e2]; exact Sub.refl _
      · simp [h4]
        have hlt := flat_lt h h3
        obtain ⟨t, ht⟩ : ∃ t, i * c + j = t := ⟨_, rfl⟩
        have e0 : (i : Int) * (c : Int) = ((i * c : Nat) : Int) := (Int.natCast_mul i c).symm
        have w1 : IntKind.i64.wrap ((i : Int) * (c : Int)) = (i : Int) * (c : Int) := i64_in (by omega) (by omega)
        have w2 : IntKind.i64.wrap ((i : Int) * (c : Int) + (j : Int)) = (t : Int) := by rw [i64_in (by omega) (by omega)]; omega
        have htl : t < r * c := by omega
        refine AW_mixedT mixedO [0, 1, 2, 3, 4, 5, 6, 7, 8, 9, 10, 11, 12, 13, 14, 15, 16, 17, 18, 19] 1 20 (by kernel_rfl) ?_
        simp [n3, Ne.symm n3, w1, w2]
        refine hcQ_rl hA3 ?_
        simp [n3, Ne.symm n3, RT.c]
        refine hcQ_rl hA2 ?_
        simp [n3, Ne.symm n3]
        refine hcQ_ro (l04Mul_ro _ _ (hM i k) (hM n j)) ?_
        simp [n3, Ne.symm n3]
        refine hcQ_ro (l05Sub_ro _ _ (hM i j) (okQ_op2 _ _ _)) ?_
        simp [n3, Ne.symm n3, w1, w2, htl]
        have htl2 : (t : Int) < (r : Int) * (c : Int) := by rw [← Int.natCast_mul]; omega
        have hset : (rv (flatR r c (curM M n k i j))).set t (ro (op2 (· - ·) (M i j) (op2 (· * ·) (M i k) (M n j)))).c = rv (flatR r c (curM M n k i (j + 1))) := by
          rw [rvR_set, ← ht, flatR_set _ h h3]
          exact congrArg rv (flatR_congr fun a b _ _ => curM_do M n k i j a b h1 h2 hkj h4)
        generalize op2 (· - ·) (M i j) (op2 (· * ·) (M i k) (M n j)) = y at *
        refine ⟨htl2, DAny_last (i := 20) (by kernel_rfl) rfl rfl rfl ?_⟩
        simp [htl, RT.c]
        refine DAny_done (by kernel_rfl) ?_
        refine AW_run ?_
        simp [wj, loopQ_normal]
        refine ⟨j + 1, ⟨by omega, by omega⟩, by omega, rfl, by simp [RT.c], ?_⟩
        rw [← hset]
        intro z b hz
        simp only [upd_apply, RT.c] at hz ⊢
        grind
    · have hj2 : j = c := by omega
      subst hj2
      have e2 : flatR r j (curM M n k i j) = flatR r j (outM M n k (i + 1)) := flatR_congr fun a b _ hb => curM_end M n k i j a b hb
      refine AW_run ?_
      simp [wi, loopQ_normal]
      refine ⟨i + 1, by omega, by omega, rfl, by simp, ?_⟩
      rw [e2]; exact Sub.refl _
  · have hi2 : i = r := by omega
    subst hi2
    have e3 : flatR i c (outM M n k i) = flatR i c (clrS M n k) := flatR_congr fun a b ha _ => outM_all M n k i a b ha
    rw [retK_normal]
    refine ⟨[], by simp, hK _ _ ?_⟩
    rw [← e3]
    intro z b hz
    simp only [upd_apply] at hz ⊢
    grind
end Go.Proofs.YtmbcofnnibpbeaaGreat.Vm
