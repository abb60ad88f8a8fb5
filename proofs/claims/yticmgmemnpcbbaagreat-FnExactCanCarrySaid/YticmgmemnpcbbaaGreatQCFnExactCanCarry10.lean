/- A pivot, in the program's tableau of whole numbers. -/

import Derived.Test.YticmgmemnpcbbaaGreatQCFnExactCanCarry9

namespace Go.Proofs.YticmgmemnpcbbaaGreat.Vm
open Go Go.RowKit Go.Proofs
set_option linter.unusedSimpArgs false
set_option linter.unusedVariables false

@[simp] theorem splice_by (a x y e f g : V) (p : Int) : splice [a, x, y, e, f, g] 1 (biC p) = [a, .bool (decide (p < 0)), .sl (iv (lim p.natAbs)), e, f, g] := by simp [splice, biC]
/-- Rows renewed up to a place. -/
def cz (Z Y : Nat → Nat → Int) (i j : Nat) : Nat → Nat → Int := fun a c => if a < i ∨ a = i ∧ c < j then Y a c else Z a c
theorem cz_at (Z Y : Nat → Nat → Int) (i j c : Nat) (h : j ≤ c) : cz Z Y i j i c = Z i c := by unfold cz; rw [if_neg (by omega)]
theorem cz_same (Z Y : Nat → Nat → Int) (i j a c : Nat) (h : Y a c = Z a c) : cz Z Y i j a c = Z a c := by unfold cz; split <;> simp [h]
theorem cz_end (Z Y : Nat → Nat → Int) (i n a c : Nat) (hc : c < n) : cz Z Y i n a c = cz Z Y (i + 1) 0 a c := by
  unfold cz
  by_cases h : a < i ∨ a = i ∧ c < n
  · rw [if_pos h, if_pos (by omega)]
  · rw [if_neg h, if_neg (by omega)]
theorem cz_skip (Z Y : Nat → Nat → Int) (i a c : Nat) (h : Y i c = Z i c) : cz Z Y i 0 a c = cz Z Y (i + 1) 0 a c := by
  unfold cz
  by_cases h1 : a < i
  · rw [if_pos (.inl h1), if_pos (by omega)]
  · rw [if_neg (by omega)]
    by_cases h2 : a = i
    · subst h2; rw [if_pos (by omega), h]
    · rw [if_neg (by omega)]
theorem cz_all (Z Y : Nat → Nat → Int) (r a c : Nat) (h : a < r) : cz Z Y r 0 a c = Y a c := by unfold cz; rw [if_pos (.inl h)]
theorem cz_zero (Z Y : Nat → Nat → Int) : cz Z Y 0 0 = Z := by funext a c; unfold cz; rw [if_neg (by omega)]
theorem zv_set {n j : Nat} (Z Y : Nat → Nat → Int) (i : Nat) (hj : j < n) : (zv n (cz Z Y i j i)).set j (biC (Y i j)) = zv n (cz Z Y i (j + 1) i) := by
  apply List.ext_getElem
  · simp
  · intro t h1 h2
    simp only [List.getElem_set, zv_getE]
    by_cases h : j = t
    · subst h
      rw [if_pos rfl]; unfold cz; rw [if_pos (by omega)]
    · rw [if_neg h]
      congr 1
      unfold cz
      by_cases h3 : t < j
      · rw [if_pos (by omega), if_pos (by omega)]
      · rw [if_neg (by omega), if_neg (by omega)]
/-- What a pivot makes of the rows. -/
structure PivZ (r n rp k : Nat) (Z : Nat → Nat → Int) (d : Int) (Y : Nat → Nat → Int) : Prop where
  other : ∀ i c, i < r → c ≤ n → i ≠ rp → Y i c * d = Z i c * Z rp k - Z i k * Z rp c
  same : ∀ c, c ≤ n → Y rp c = Z rp c
  ne : Z rp k ≠ 0
theorem mid2_len {a b c e : Int} (ha : a.natAbs ≤ midB) (hb : b.natAbs ≤ midB) (hc : c.natAbs ≤ midB) (he : e.natAbs ≤ midB) : (lim (a * b - c * e).natAbs).length ≤ 48 := by
  have h1 : (a * b).natAbs ≤ bigB := mul_little ha hb
  have h2 : (c * e).natAbs ≤ bigB := mul_little hc he
  have h3 := Int.natAbs_sub_le (a * b) (c * e)
  have h4 := bigB_lt
  refine lim_length_le.2 ?_
  have h5 : LB ^ 24 + LB ^ 24 < LB ^ 48 := by decide +kernel
  omega
structure LoopZ where
  j : Nat
  b : Int → Option Blk
def pvF (p : Int) (Y : Nat → Nat → Int) : Nat → Nat → Int := if 0 < p then Y else fun a c => - Y a c
def pvB (bs : Nat → Nat) (rp k : Nat) : Nat → Nat := fun i => if i = rp then k else bs i
theorem lb_set {r rp k : Nat} (bs : Nat → Nat) (h : rp < r) : (iv (lb r bs)).set rp [.int .i64 k] = iv (lb r (pvB bs rp k)) := by
  apply List.ext_getElem
  · simp
  · intro t h1 h2
    simp only [List.getElem_set, iv_getE, lb_getE, pvB]
    by_cases e : rp = t
    · subst e; simp
    · rw [if_neg e, if_neg (Ne.symm e)]
theorem pivot_cp {bl : Int → Option Blk} {K : V → (Int → Option Blk) → Prop} (g : TG) (t : TN) (rp k : Nat) (Y : Nat → Nat → Int) (h : TT bl g t) (hz : ZB t.r t.n t.Z t.d) (hr : rp < t.r) (hk : k < t.n) (hY : PivZ t.r t.n rp k t.Z t.d Y)
    (hK : ∀ b', TT b' g ⟨t.r, t.n, pvF (t.Z rp k) Y, ((t.Z rp k).natAbs : Int), pvB t.bs rp k, t.fr⟩ → (∀ x y, bl x = some y → x ∉ g.all → b' x = some y) → K (.tup []) b') :
    CallP Tryz.prog 258 [.loc g.T 6 0 0, .int .i64 rp, .int .i64 k] bl K := by
  obtain ⟨r, n, Z, d, bs, fr⟩ := t
  obtain ⟨gT, gR, gB, gF, ids⟩ := g
  simp only at hz hr hk hY hK ⊢
  obtain ⟨hG, hhd, hba, hfre, pT, pR, pB, pF, hnd⟩ := h
  simp only at hG hhd hba hfre pT pR pB pF hnd
  have hrl := hz.rl
  have hnl := hz.nl
  have hd0 := hz.d0
  have hnd0 := hnd
  simp only [List.nodup_cons, List.mem_cons, not_or] at hnd
  obtain ⟨⟨nTR, nTB, nTF, nTi⟩, ⟨nRB, nRF, nRi⟩, ⟨nBF, nBi⟩, nFi, nds⟩ := hnd
  obtain ⟨gp, hgp, hgpm, hgp0, hgpb⟩ := hG.at rp hr
  have htop := hG.top
  have hil := hG.len
  have hk1 : k < n + 1 := by omega
  have hk2 : (k : Int) < (n : Int) + 1 := by omega
  have ntT : ∀ x, x ∈ ids → ¬ x = gT := fun x hx e => nTi (e ▸ hx)
  have ntR : ∀ x, x ∈ ids → ¬ x = gR := fun x hx e => nRi (e ▸ hx)
  have ntB : ∀ x, x ∈ ids → ¬ x = gB := fun x hx e => nBi (e ▸ hx)
  have ntF : ∀ x, x ∈ ids → ¬ x = gF := fun x hx e => nFi (e ▸ hx)
  refine callP_of Tryz.func258 rfl rfl (by rw [Tryz.ntmps258]; simp) ?_
  rw [Tryz.ntmps258, Tryz.results258]
  refine AW_runA ?_
  simp [hhd, htop, hgp, hr]
  refine AW_runA ?_
  simp [hgpb, hk1, hk2]
  intro g7 hg7 hb7
  have m7 : g7 ∉ ids := fun hm => by
    obtain ⟨j, hj⟩ := List.mem_iff_getElem?.1 hm
    rw [hG.row j g7 hj] at hb7; cases hb7
  have n7T : ¬ g7 = gT := fun e => by rw [e, hhd] at hb7; cases hb7
  have n7R : ¬ g7 = gR := fun e => by rw [e, htop] at hb7; cases hb7
  have n7B : ¬ g7 = gB := fun e => by rw [e, hba] at hb7; cases hb7
  have n7F : ¬ g7 = gF := fun e => by rw [e, hfre] at hb7; cases hb7
  obtain ⟨p, hp⟩ : ∃ p, Z rp k = p := ⟨_, rfl⟩
  simp only [hp] at hK ⊢
  have hG7 : ZG (upd bl g7 (some ⟨2, [biC p]⟩)) gR ids r (n + 1) Z := hG.keep fun x y hx hy => by
    rw [upd_ne _ _ _ _ (by rintro rfl; rcases hx with hx | hx; exact n7R hx; exact m7 hx)]; exact hy
  have e7 : upd bl g7 (some ⟨2, [biC p]⟩) g7 = some ⟨2, [biC p]⟩ := by simp
  have eT : upd bl g7 (some ⟨2, [biC p]⟩) gT = bl gT := by simp [Ne.symm n7T]
  have eB : upd bl g7 (some ⟨2, [biC p]⟩) gB = bl gB := by simp [Ne.symm n7B]
  have eF : upd bl g7 (some ⟨2, [biC p]⟩) gF = bl gF := by simp [Ne.symm n7F]
  have hbl7 : Sub bl (upd bl g7 (some ⟨2, [biC p]⟩)) := by simp [hb7]
  generalize upd bl g7 (some ⟨2, [biC p]⟩) = b0 at *
  rw [hhd] at eT
  rw [hba] at eB
  rw [hfre] at eF
  clear hG hgpb hhd htop hba hfre
  have htop0 := hG7.top
  refine AW_at [(0, .loc gT 6 0 0), (1, .int .i64 rp), (2, .int .i64 k), (6, .lsl gp 2 0 (n + 1)), (7, .loc g7 2 0 0)] 128 b0 ⟨rfl, by simp, Sub.refl _⟩ ?_
  refine AW_runA ?_
  simp [eT]
  refine AW_for (fun q : LoopZ => [(0, .loc gT 6 0 0), (1, .int .i64 rp), (2, .int .i64 k), (6, .lsl gp 2 0 (n + 1)), (7, .loc g7 2 0 0), (30, .lsl gR 1 0 r), (31, .int .i64 r), (32, .int .i64 q.j)]) (fun q => q.b) (fun q => q.j ≤ r ∧ ZG q.b gR ids r (n + 1) (cz Z Y q.j 0) ∧ (∀ x y, b0 x = some y → x ∉ ids → q.b x = some y)) (fun q => r - q.j) _ ⟨0, b0⟩ ⟨Nat.zero_le _, by simp only; rw [cz_zero]; exact hG7, fun _ _ h _ => h⟩ ⟨rfl, by simp, Sub.refl _⟩ ?_
  rintro ⟨i, b⟩ ⟨hi, hGb, hfb⟩
  simp only at hi hGb hfb
  have wi : IntKind.i64.wrap ((i : Int) + 1) = (i : Int) + 1 := i64_in (by omega) (by omega)
  have bT := hfb _ _ eT nTi
  have b7 := hfb _ _ e7 m7
  have bR := hGb.top
  refine AW_runA ?_
  simp
  refine AW_runA ?_
  simp
  refine ⟨fun hlt => ?_, fun hlt => ?_⟩
  · obtain ⟨gi, hgi, hgim, hgi0, hgib⟩ := hGb.at i hlt
    refine AW_seq (AW_block ?_)
    refine AW_runA ?_
    simp [hlt, bR, hgi]
    refine AW_runA ?_
    simp
    refine ⟨fun hir => ?_, fun hir => ?_⟩
    · -- the row of the pivot
      refine AW_run ?_
      simp [wi, loopQ_normal]
      have hir' : i = rp := by omega
      refine ⟨⟨i + 1, b⟩, ⟨by simp only; omega, hGb.congr fun a c _ hc => cz_skip Z Y i a c (by rw [hir']; exact hY.same c (by omega)), hfb⟩, by simp only; omega, rfl, by simp, Sub.refl _⟩
    have hirp : i ≠ rp := by omega
    have hZi : ∀ c, c ≤ n → (Z i c).natAbs ≤ midB := fun c hc => hz.z i c hlt hc
    have hZp : ∀ c, c ≤ n → (Z rp c).natAbs ≤ midB := fun c hc => hz.z rp c hr hc
    have hpl : p.natAbs ≤ midB := by rw [← hp]; exact hZp k (by omega)
    have hl4 : ∀ {x : Int}, x.natAbs ≤ midB → (lim x.natAbs).length ≤ 400000 := fun hx => Nat.le_trans (little_len (mid_little hx)) (by omega)
    refine AW_runA ?_
    simp [hgib, hk1, hk2]
    intro g10 hg10 hb10
    have m10 : g10 ∉ ids := fun hm => by
      obtain ⟨j, hj⟩ := List.mem_iff_getElem?.1 hm
      rw [hGb.row j g10 hj] at hb10; cases hb10
    have n10T : ¬ g10 = gT := fun e => by rw [e, bT] at hb10; cases hb10
    have n107 : ¬ g10 = g7 := fun e => by rw [e, b7] at hb10; cases hb10
    have n10R : ¬ g10 = gR := fun e => by rw [e, bR] at hb10; cases hb10
    rw [cz_at Z Y i 0 k (Nat.zero_le _)]
    have hG10 : ZG (upd b g10 (some ⟨2, [biC (Z i k)]⟩)) gR ids r (n + 1) (cz Z Y i 0) := hGb.keep fun x y hx hy => by
      rw [upd_ne _ _ _ _ (by rintro rfl; rcases hx with hx | hx; exact n10R hx; exact m10 hx)]; exact hy
    have c10 : upd b g10 (some ⟨2, [biC (Z i k)]⟩) g10 = some ⟨2, [biC (Z i k)]⟩ := by simp
    have cT : upd b g10 (some ⟨2, [biC (Z i k)]⟩) gT = b gT := by simp [Ne.symm n10T]
    have c7 : upd b g10 (some ⟨2, [biC (Z i k)]⟩) g7 = b g7 := by simp [Ne.symm n107]
    have hbk : ∀ x y, b0 x = some y → x ∉ ids → upd b g10 (some ⟨2, [biC (Z i k)]⟩) x = some y := fun x y hx hn => by
      have := hfb x y hx hn
      rw [upd_ne _ _ _ _ (by rintro rfl; rw [hb10] at this; cases this)]; exact this
    rw [bT] at cT
    rw [b7] at c7
    generalize upd b g10 (some ⟨2, [biC (Z i k)]⟩) = b1 at *
    refine AW_run ?_
    simp
    refine AW_for (fun q : LoopZ => [(0, .loc gT 6 0 0), (1, .int .i64 rp), (2, .int .i64 k), (6, .lsl gp 2 0 (n + 1)), (7, .loc g7 2 0 0), (30, .lsl gR 1 0 r), (31, .int .i64 r), (32, .int .i64 i), (8, .int .i64 i), (9, .lsl gi 2 0 (n + 1)), (10, .loc g10 2 0 0), (45, .int .i64 (n + 1)), (46, .int .i64 q.j)]) (fun q => q.b) (fun q => q.j ≤ n + 1 ∧ ZG q.b gR ids r (n + 1) (cz Z Y i q.j) ∧ (∀ x y, b1 x = some y → x ∉ ids → q.b x = some y)) (fun q => n + 1 - q.j) _ ⟨0, b1⟩ ⟨Nat.zero_le _, hG10, fun _ _ h _ => h⟩ ⟨rfl, by simp, Sub.refl _⟩ ?_
    clear hGb hfb bT b7 bR hgib hb10 hG10
    rintro ⟨j, b⟩ ⟨hj, hGb, hfb⟩
    simp only at hj hGb hfb
    have wj : IntKind.i64.wrap ((j : Int) + 1) = (j : Int) + 1 := i64_in (by omega) (by omega)
    have bT := hfb _ _ cT nTi
    have b7 := hfb _ _ c7 m7
    have b10 := hfb _ _ c10 m10
    have bR := hGb.top
    have bgi := hGb.row i gi hgi
    have bgp := hGb.row rp gp hgp
    have nip : ¬ gp = gi := fun e => hirp (hGb.inj i rp gi hgi (by rw [← e]; exact hgp))
    refine AW_runA ?_
    simp
    refine AW_runA ?_
    simp
    refine ⟨fun hjn => ?_, fun hjn => ?_⟩
    · have hjn' : j < n + 1 := by omega
      have hjle : j ≤ n := by omega
      have hj2 : (j : Int) < (n : Int) + 1 := by omega
      have ezi : cz Z Y i j i j = Z i j := cz_at Z Y i j j (Nat.le_refl _)
      have ezp : cz Z Y i j rp j = Z rp j := cz_same Z Y i j rp j (hY.same j hjle)
      have hT1 := timesZ_ro (Z i j) p (hl4 (hZi j hjle)) (hl4 hpl)
      have hT2 := timesZ_ro (Z i k) (Z rp j) (hl4 (hZi k (by omega))) (hl4 (hZp j hjle))
      have hL1 : (lim (Z i j * p).natAbs).length ≤ 24 := little_len (mul_little (hZi j hjle) hpl)
      have hL2 : (lim (Z i k * Z rp j).natAbs).length ≤ 24 := little_len (mul_little (hZi k (by omega)) (hZp j hjle))
      have hM := minusZ_ro (Z i j * p) (Z i k * Z rp j) (Nat.le_trans hL1 (by omega)) (Nat.le_trans hL2 (by omega))
      have hx := hY.other i j hlt hjle hirp
      rw [hp] at hx
      have hL3 : (lim (Z i j * p - Z i k * Z rp j).natAbs).length ≤ 48 := mid2_len (hZi j hjle) hpl (hZi k (by omega)) (hZp j hjle)
      have hE := exactly_ro (Z i j * p - Z i k * Z rp j) d (Y i j) hx.symm hd0 (by omega) (Nat.le_trans (little_len (mid_little hz.dl)) (by omega))
      rw [show biC d = [.bool (decide (d < 0)), .sl (iv (lim d.natAbs))] from rfl] at hE
      refine AW_seq (AW_block ?_)
      refine AW_runA ?_
      simp
      refine AW_runA ?_
      simp
      refine AW_mixedB mixedO b (Sub.refl _) [0, 1, 2, 3, 4, 5] 2 (by kernel_rfl) ?_
      simp [bgi, hjn', hj2, ezi, b7]
      refine hcQ_ro hT1 ?_
      simp
      refine DAny_one (i := 6) (by kernel_rfl) rfl rfl ?_
      simp
      intro g12 hg12 hb12
      have m12 : g12 ∉ ids := fun hm => by
        obtain ⟨u, hu⟩ := List.mem_iff_getElem?.1 hm
        rw [hGb.row u g12 hu] at hb12; cases hb12
      have n12T : ¬ g12 = gT := fun e => by rw [e, bT] at hb12; cases hb12
      have n127 : ¬ g12 = g7 := fun e => by rw [e, b7] at hb12; cases hb12
      have n1210 : ¬ g12 = g10 := fun e => by rw [e, b10] at hb12; cases hb12
      have n12R : ¬ g12 = gR := fun e => by rw [e, bR] at hb12; cases hb12
      have n12i : ¬ g12 = gi := fun e => m12 (e ▸ hgim)
      have n12p : ¬ g12 = gp := fun e => m12 (e ▸ hgpm)
      refine ⟨by simp [hb12], DAny_one (i := 7) (by kernel_rfl) rfl rfl ?_⟩
      simp
      refine ⟨by simp [hb12], DAny_done (by kernel_rfl) ?_⟩
      simp
      -- what is taken away
      refine AW_mid (fun _ : Unit => [(0, .loc gT 6 0 0), (1, .int .i64 rp), (2, .int .i64 k), (6, .lsl gp 2 0 (n + 1)), (7, .loc g7 2 0 0), (30, .lsl gR 1 0 r), (31, .int .i64 r), (32, .int .i64 i), (8, .int .i64 i), (9, .lsl gi 2 0 (n + 1)), (10, .loc g10 2 0 0), (45, .int .i64 (n + 1)), (46, .int .i64 j), (11, .int .i64 j), (12, .loc g12 2 0 0)]) (fun _ => upd b g12 (some ⟨2, [biC (Z i j * p - Z i k * Z rp j)]⟩)) (fun _ => True) 128 ?_ ?_
      · refine AW_runA ?_
        simp
        refine AW_way0 [(0, .loc gT 6 0 0), (1, .int .i64 rp), (2, .int .i64 k), (6, .lsl gp 2 0 (n + 1)), (7, .loc g7 2 0 0), (30, .lsl gR 1 0 r), (31, .int .i64 r), (32, .int .i64 i), (8, .int .i64 i), (9, .lsl gi 2 0 (n + 1)), (10, .loc g10 2 0 0), (45, .int .i64 (n + 1)), (46, .int .i64 j), (11, .int .i64 j), (12, .loc g12 2 0 0)] _ (upd b g12 (some ⟨2, [biC (Z i j * p)]⟩)) 65 (.bool (decide (Z i k ≠ 0 ∧ Z rp j ≠ 0))) ⟨rfl, by simp, Sub.refl _⟩ rfl ?_ ?_
        · simp [Ne.symm n1210, b10]
          refine callP_ro (sign_ro _) ?_
          simp [Int.sign_eq_zero_iff_zero]
          by_cases h1 : Z i k = 0
          · simp [h1]
          · simp [h1, Ne.symm n12p, bgp, hjn', hj2, ezp]
            refine callP_ro (sign_ro _) ?_
            simp [Int.sign_eq_zero_iff_zero]
            by_cases h2 : Z rp j = 0 <;> simp [h2]
        simp
        refine AW_run ?_
        simp
        refine ⟨fun h1 h2 => ?_, fun hno => ?_⟩
        · refine AW_mixedT mixedO [0, 1, 2, 3, 4, 5, 6, 7] 1 8 (by kernel_rfl) ?_
          simp [Ne.symm n1210, Ne.symm n12p, b10, bgp, hjn', hj2, ezp]
          refine hcQ_ro hT2 ?_
          simp
          refine hcQ_ro hM ?_
          simp
          refine DAny_last (i := 8) (by kernel_rfl) rfl rfl rfl ?_
          simp
          refine DAny_done (by kernel_rfl) ?_
          simp [midQ_normal]
          exact ⟨rfl, by simp, sub_eq rfl⟩
        · have e0 : Z i j * p - Z i k * Z rp j = Z i j * p := by
            have : Z i k * Z rp j = 0 := by
              by_cases g1 : Z i k = 0
              · rw [g1, Int.zero_mul]
              · rw [hno g1, Int.mul_zero]
            omega
          simp [midQ_normal]
          exact ⟨rfl, by simp, sub_eq (by rw [e0])⟩
      rintro ⟨⟩ _
      have hset := zv_set Z Y i hjn'
      have hGp := hGb.put (Z' := cz Z Y i (j + 1)) hgi fun a c ha _ => by
        unfold cz
        by_cases h1 : a < i
        · rw [if_pos (.inl h1), if_pos (.inl h1)]
        · rw [if_neg (by omega), if_neg (by omega)]
      refine AW_run ?_
      simp
      refine AW_mixedT mixedO [0, 1, 2, 3, 4, 5, 6, 7, 8] 1 9 (by kernel_rfl) ?_
      simp [Ne.symm n12T, bT]
      refine hcQ_ro hE ?_
      simp [Ne.symm n12i, bgi, hjn', hj2]
      refine DAny_last (i := 9) (by kernel_rfl) rfl rfl rfl ?_
      simp [Ne.symm n12i, bgi, hjn', hj2, ezi]
      refine DAny_done (by kernel_rfl) ?_
      rw [hset]
      simp
      refine AW_run ?_
      simp [wj, loopQ_normal]
      refine ⟨⟨j + 1, upd b gi (some ⟨2, zv (n + 1) (cz Z Y i (j + 1) i)⟩)⟩, ⟨by simp only; omega, hGp, fun x y hx hn => ?_⟩, by simp only; omega, rfl, by simp, ?_⟩
      · simp only
        rw [upd_ne _ _ _ _ (by rintro rfl; exact hn hgim)]; exact hfb x y hx hn
      · intro z y hz2
        simp only [upd_apply] at hz2 ⊢
        grind
    · have hjn2 : j = n + 1 := by omega
      subst hjn2
      refine AW_run ?_
      simp [wi, loopQ_normal]
      exact ⟨⟨i + 1, b⟩, ⟨by simp only; omega, hGb.congr fun a c _ hc => cz_end Z Y i (n + 1) a c hc, fun x y hx hn => hfb x y (hbk x y hx hn) hn⟩, by simp only; omega, rfl, by simp, Sub.refl _⟩
  have hir : i = r := by omega
  subst hir
  have hGY : ZG b gR ids i (n + 1) Y := hGb.congr fun a c ha _ => cz_all Z Y i a c ha
  have bB := hfb _ _ eB nBi
  have bF := hfb _ _ eF nFi
  have hlb := lb_set (r := i) (k := k) bs hr
  clear hGb
  refine AW_runA ?_
  simp [b7, bT, n7T, Ne.symm n7T]
  refine AW_runA ?_
  simp [Ne.symm nTB, nTB, bB, hr, hlb]
  refine AW_runA ?_
  simp [n7T, n7B, b7]
  refine callP_ro (sign_ro _) ?_
  simp
  have hpne : p ≠ 0 := by rw [← hp]; exact hY.ne
  have hG2 : ZG (upd (upd b gT (some ⟨6, [[.lsl gR 1 0 i, .bool (decide (p < 0)), .sl (iv (lim p.natAbs)), .lsl gB 1 0 i, .int .i64 n, .lsl gF 1 0 n]]⟩)) gB (some ⟨1, iv (lb i (pvB bs rp k))⟩)) gR ids i (n + 1) Y := hGY.keep fun x y hx hy => by
    have h1 : x ≠ gB := by rintro rfl; rcases hx with hx | hx; exact nRB hx.symm; exact nBi hx
    have h2 : x ≠ gT := by rintro rfl; rcases hx with hx | hx; exact nTR hx; exact nTi hx
    rw [upd_ne _ _ _ _ h1, upd_ne _ _ _ _ h2]; exact hy
  have e2T : (upd (upd b gT (some ⟨6, [[.lsl gR 1 0 i, .bool (decide (p < 0)), .sl (iv (lim p.natAbs)), .lsl gB 1 0 i, .int .i64 n, .lsl gF 1 0 n]]⟩)) gB (some ⟨1, iv (lb i (pvB bs rp k))⟩)) gT = some ⟨6, [[.lsl gR 1 0 i, .bool (decide (p < 0)), .sl (iv (lim p.natAbs)), .lsl gB 1 0 i, .int .i64 n, .lsl gF 1 0 n]]⟩ := by simp [nTB]
  have e2B : (upd (upd b gT (some ⟨6, [[.lsl gR 1 0 i, .bool (decide (p < 0)), .sl (iv (lim p.natAbs)), .lsl gB 1 0 i, .int .i64 n, .lsl gF 1 0 n]]⟩)) gB (some ⟨1, iv (lb i (pvB bs rp k))⟩)) gB = some ⟨1, iv (lb i (pvB bs rp k))⟩ := by simp
  have e2F : (upd (upd b gT (some ⟨6, [[.lsl gR 1 0 i, .bool (decide (p < 0)), .sl (iv (lim p.natAbs)), .lsl gB 1 0 i, .int .i64 n, .lsl gF 1 0 n]]⟩)) gB (some ⟨1, iv (lb i (pvB bs rp k))⟩)) gF = some ⟨1, lv n fr⟩ := by simp [Ne.symm nBF, Ne.symm nTF, bF]
  have e27 : (upd (upd b gT (some ⟨6, [[.lsl gR 1 0 i, .bool (decide (p < 0)), .sl (iv (lim p.natAbs)), .lsl gB 1 0 i, .int .i64 n, .lsl gF 1 0 n]]⟩)) gB (some ⟨1, iv (lb i (pvB bs rp k))⟩)) g7 = some ⟨2, [biC p]⟩ := by simp [n7T, n7B, b7]
  have e2f : ∀ x y, bl x = some y → x ∉ TG.all ⟨gT, gR, gB, gF, ids⟩ → (upd (upd b gT (some ⟨6, [[.lsl gR 1 0 i, .bool (decide (p < 0)), .sl (iv (lim p.natAbs)), .lsl gB 1 0 i, .int .i64 n, .lsl gF 1 0 n]]⟩)) gB (some ⟨1, iv (lb i (pvB bs rp k))⟩)) x = some y := fun x y hx hn => by
    simp only [TG.all, List.mem_cons, not_or] at hn
    rw [upd_ne _ _ _ _ hn.2.2.1, upd_ne _ _ _ _ hn.1]
    exact hfb x y (hbl7 x y hx) hn.2.2.2.2
  generalize upd (upd b gT (some ⟨6, [[.lsl gR 1 0 i, .bool (decide (p < 0)), .sl (iv (lim p.natAbs)), .lsl gB 1 0 i, .int .i64 n, .lsl gF 1 0 n]]⟩)) gB (some ⟨1, iv (lb i (pvB bs rp k))⟩) = b2 at *
  refine ⟨fun hpos => ?_, fun hneg => ?_⟩
  · rw [retK_ret]
    refine ⟨[], by simp, hK b2 ⟨?_, ?_, e2B, e2F, pT, pR, pB, pF, hnd0⟩ e2f⟩
    · simp only [pvF, if_pos hpos]; exact hG2
    · simp only [show ((p.natAbs : Nat) : Int) = p by omega]; exact e2T
  clear hGY hfb bB bF bT b7
  have hO := opposite_ro p
  refine AW_at [(0, .loc gT 6 0 0), (1, .int .i64 rp), (2, .int .i64 k), (6, .lsl gp 2 0 (n + 1)), (7, .loc g7 2 0 0)] 128 b2 ⟨rfl, by simp, Sub.refl _⟩ ?_
  refine AW_runA ?_
  simp [e27]
  refine callP_ro hO ?_
  simp [e2T]
  have hG3 : ZG (upd b2 gT (some ⟨6, [[.lsl gR 1 0 i, .bool (decide (0 < p)), .sl (iv (lim p.natAbs)), .lsl gB 1 0 i, .int .i64 n, .lsl gF 1 0 n]]⟩)) gR ids i (n + 1) (cz Y (fun a c => - Y a c) 0 0) := by
    rw [cz_zero]
    exact hG2.keep fun x y hx hy => by
      have h2 : x ≠ gT := by rintro rfl; rcases hx with hx | hx; exact nTR hx; exact nTi hx
      rw [upd_ne _ _ _ _ h2]; exact hy
  have e3T : (upd b2 gT (some ⟨6, [[.lsl gR 1 0 i, .bool (decide (0 < p)), .sl (iv (lim p.natAbs)), .lsl gB 1 0 i, .int .i64 n, .lsl gF 1 0 n]]⟩)) gT = some ⟨6, [[.lsl gR 1 0 i, .bool (decide (0 < p)), .sl (iv (lim p.natAbs)), .lsl gB 1 0 i, .int .i64 n, .lsl gF 1 0 n]]⟩ := by simp
  have e3B : (upd b2 gT (some ⟨6, [[.lsl gR 1 0 i, .bool (decide (0 < p)), .sl (iv (lim p.natAbs)), .lsl gB 1 0 i, .int .i64 n, .lsl gF 1 0 n]]⟩)) gB = some ⟨1, iv (lb i (pvB bs rp k))⟩ := by simp [Ne.symm nTB, e2B]
  have e3F : (upd b2 gT (some ⟨6, [[.lsl gR 1 0 i, .bool (decide (0 < p)), .sl (iv (lim p.natAbs)), .lsl gB 1 0 i, .int .i64 n, .lsl gF 1 0 n]]⟩)) gF = some ⟨1, lv n fr⟩ := by simp [Ne.symm nTF, e2F]
  have e3f : ∀ x y, bl x = some y → x ∉ TG.all ⟨gT, gR, gB, gF, ids⟩ → (upd b2 gT (some ⟨6, [[.lsl gR 1 0 i, .bool (decide (0 < p)), .sl (iv (lim p.natAbs)), .lsl gB 1 0 i, .int .i64 n, .lsl gF 1 0 n]]⟩)) x = some y := fun x y hx hn => by
    have hn2 := hn
    simp only [TG.all, List.mem_cons, not_or] at hn2
    rw [upd_ne _ _ _ _ hn2.1]
    exact e2f x y hx hn
  generalize upd b2 gT (some ⟨6, [[.lsl gR 1 0 i, .bool (decide (0 < p)), .sl (iv (lim p.natAbs)), .lsl gB 1 0 i, .int .i64 n, .lsl gF 1 0 n]]⟩) = b3 at *
  have e3R := hG3.top
  refine AW_run ?_
  simp [e3T]
  refine AW_for (fun q : LoopZ => [(0, .loc gT 6 0 0), (107, .lsl gR 1 0 i), (108, .int .i64 i), (109, .int .i64 q.j)]) (fun q => q.b) (fun q => q.j ≤ i ∧ ZG q.b gR ids i (n + 1) (cz Y (fun a c => - Y a c) q.j 0) ∧ (∀ x y, b3 x = some y → x ∉ ids → q.b x = some y)) (fun q => i - q.j) _ ⟨0, b3⟩ ⟨Nat.zero_le _, hG3, fun _ _ h _ => h⟩ ⟨rfl, by simp, Sub.refl _⟩ ?_
  rintro ⟨t, b⟩ ⟨ht, hGb, hfb⟩
  simp only at ht hGb hfb
  have wt : IntKind.i64.wrap ((t : Int) + 1) = (t : Int) + 1 := i64_in (by omega) (by omega)
  have bR := hGb.top
  refine AW_runA ?_
  simp
  refine AW_runA ?_
  simp
  refine ⟨fun hlt => ?_, fun hlt => ?_⟩
  · obtain ⟨gt, hgt, hgtm, hgt0, hgtb⟩ := hGb.at t hlt
    refine AW_seq (AW_block ?_)
    refine AW_runA ?_
    simp [hlt, bR, hgt]
    refine AW_run ?_
    simp
    refine AW_for (fun q : LoopZ => [(0, .loc gT 6 0 0), (107, .lsl gR 1 0 i), (108, .int .i64 i), (109, .int .i64 t), (14, .lsl gt 2 0 (n + 1)), (114, .int .i64 (n + 1)), (115, .int .i64 q.j)]) (fun q => q.b) (fun q => q.j ≤ n + 1 ∧ ZG q.b gR ids i (n + 1) (cz Y (fun a c => - Y a c) t q.j) ∧ (∀ x y, b3 x = some y → x ∉ ids → q.b x = some y)) (fun q => n + 1 - q.j) _ ⟨0, b⟩ ⟨Nat.zero_le _, hGb, hfb⟩ ⟨rfl, by simp, Sub.refl _⟩ ?_
    clear hGb hfb bR hgtb
    rintro ⟨j, b⟩ ⟨hj, hGb, hfb⟩
    simp only at hj hGb hfb
    have wj : IntKind.i64.wrap ((j : Int) + 1) = (j : Int) + 1 := i64_in (by omega) (by omega)
    have bgt := hGb.row t gt hgt
    refine AW_run ?_
    simp
    refine ⟨fun hjn => ?_, fun hjn => ?_⟩
    · have hjn' : j < n + 1 := by omega
      have hj2 : (j : Int) < (n : Int) + 1 := by omega
      have ezi : cz Y (fun a c => - Y a c) t j t j = Y t j := cz_at Y _ t j j (Nat.le_refl _)
      have hset := zv_set Y (fun a c => - Y a c) t hjn'
      have hGp := hGb.put (Z' := cz Y (fun a c => - Y a c) t (j + 1)) hgt fun a c ha _ => by
        unfold cz
        by_cases h1 : a < t
        · rw [if_pos (.inl h1), if_pos (.inl h1)]
        · rw [if_neg (by omega), if_neg (by omega)]
      simp [bgt, hjn', hj2, ezi]
      refine callP_ro (opposite_ro _) ?_
      simp [bgt, hjn', hj2, ezi, hset, wj, loopQ_normal]
      refine ⟨⟨j + 1, upd b gt (some ⟨2, zv (n + 1) (cz Y (fun a c => - Y a c) t (j + 1) t)⟩)⟩, ⟨by simp only; omega, hGp, fun x y hx hn => ?_⟩, by simp only; omega, rfl, by simp, Sub.refl _⟩
      simp only
      rw [upd_ne _ _ _ _ (by rintro rfl; exact hn hgtm)]; exact hfb x y hx hn
    · have hjn2 : j = n + 1 := by omega
      subst hjn2
      simp
      refine AW_run ?_
      simp [wt, loopQ_normal]
      exact ⟨⟨t + 1, b⟩, ⟨by simp only; omega, hGb.congr fun a c _ hc => cz_end Y _ t (n + 1) a c hc, hfb⟩, by simp only; omega, rfl, by simp, Sub.refl _⟩
  have hti : t = i := by omega
  subst hti
  simp
  rw [retK_normal]
  refine ⟨[], by simp, hK b ⟨?_, ?_, ?_, ?_, pT, pR, pB, pF, hnd0⟩ fun x y hx hn => ?_⟩
  · simp only [pvF, if_neg (show ¬ 0 < p by omega)]
    exact hGb.congr fun a c ha _ => cz_all Y _ t a c ha
  · simp only [show decide ((p.natAbs : Int) < 0) = decide (0 < p) by rw [decide_eq_false (by omega), decide_eq_false (by omega)], Int.natAbs_natCast]
    exact hfb _ _ e3T nTi
  · exact hfb _ _ e3B nBi
  · exact hfb _ _ e3F nFi
  · have hn2 := hn
    simp only [TG.all, List.mem_cons, not_or] at hn2
    exact hfb _ _ (e3f x y hx hn) hn2.2.2.2.2
end Go.Proofs.YticmgmemnpcbbaaGreat.Vm

namespace Go.Proofs.YticmgmemnpcbbaaGreat.Vm
open Go Go.RowKit Go.Proofs
set_option linter.unusedSimpArgs false
set_option linter.unusedVariables false

/-- The invariant of the runs, at the program's bounds. -/
abbrev LInv (n m : Nat) (E : Nat → Nat → Rat) (rows : List Nat) (t : Lp.Tab) : Prop := Lp.Inv n m (n + m) (n + m + 1) 1000 E rows t
/-- A row's number. -/
def atR (rows : List Nat) (p : Nat) : Nat := rows.getD p 0
/-- The numbers of the program's tableau. -/
def tnOf (n m : Nat) (E : Nat → Nat → Rat) (rows : List Nat) (t : Lp.Tab) (fr : Nat → Bool) : TN :=
  ⟨rows.length, n + m, fun p c => Lp.zt m E t (atR rows p) c, Lp.dz m E t, fun p => t.bs (atR rows p), fr⟩

def Rows (m : Nat) (rows : List Nat) : Prop := ∃ P : Nat → Bool, rows = (List.range m).filter P
theorem Rows.lt {m : Nat} {rows : List Nat} (h : Rows m rows) {i : Nat} (hi : i ∈ rows) : i < m := by
  obtain ⟨P, rfl⟩ := h
  simpa using (List.mem_filter.1 hi).1
theorem Rows.len {m : Nat} {rows : List Nat} (h : Rows m rows) : rows.length ≤ m := by
  obtain ⟨P, rfl⟩ := h
  exact Nat.le_trans (List.length_filter_le _ _) (by simp)
theorem Rows.nodup {m : Nat} {rows : List Nat} (h : Rows m rows) : rows.Nodup := by
  obtain ⟨P, rfl⟩ := h
  exact List.Pairwise.filter _ List.nodup_range
theorem getD_mem {rows : List Nat} {p : Nat} (h : p < rows.length) : atR rows p ∈ rows := by
  unfold atR
  rw [List.getD_eq_getElem?_getD, List.getElem?_eq_getElem h]; exact List.getElem_mem h
theorem Rows.inj {m : Nat} {rows : List Nat} (h : Rows m rows) {p q : Nat} (hp : p < rows.length) (hq : q < rows.length) (e : atR rows p = atR rows q) : p = q := by
  have hn := h.nodup
  unfold atR at e
  rw [List.getD_eq_getElem?_getD, List.getElem?_eq_getElem hp, List.getD_eq_getElem?_getD, List.getElem?_eq_getElem hq] at e
  have hp2 := List.pairwise_iff_getElem.1 hn
  simp only [Option.getD_some] at e
  rcases Nat.lt_trichotomy p q with g | g | g
  · exact absurd e (hp2 p q hp hq g)
  · exact g
  · exact absurd e.symm (hp2 q p hq hp g)
theorem rows_range (m : Nat) : Rows m (List.range m) := ⟨fun _ => true, (List.filter_eq_self.2 fun _ _ => rfl).symm⟩
theorem S_snoc (l : List Nat) (x : Nat) (f : Nat → Rat) : Lp.S (l ++ [x]).length (fun p => f (atR (l ++ [x]) p)) = Lp.S l.length (fun p => f (atR l p)) + f x := by
  rw [List.length_append, List.length_singleton, Lp.S]
  congr 1
  · exact Lp.S_congr fun p hp => by unfold atR; rw [List.getD_eq_getElem?_getD, List.getD_eq_getElem?_getD, List.getElem?_append_left hp]
  · unfold atR; rw [List.getD_eq_getElem?_getD, List.getElem?_append_right (Nat.le_refl _)]; simp
theorem Rows.sum {m : Nat} {rows : List Nat} (h : Rows m rows) (f : Nat → Rat) (hf : ∀ i, i < m → i ∉ rows → f i = 0) : Lp.S rows.length (fun p => f (atR rows p)) = Lp.S m f := by
  obtain ⟨P, rfl⟩ := h
  induction m with
  | zero => rfl
  | succ m ih =>
    rw [List.range_succ, List.filter_append]
    have hf' : ∀ i, i < m → i ∉ (List.range m).filter P → f i = 0 := fun i hi hn => hf i (by omega) fun hm => hn (by
      rw [List.mem_filter] at hm ⊢
      exact ⟨by simpa using hi, hm.2⟩)
    cases hP : P m with
    | true =>
      rw [show List.filter P [m] = [m] by simp [hP], S_snoc, ih hf', Lp.S]
    | false =>
      rw [show List.filter P [m] = [] by simp [hP], List.append_nil, ih hf', Lp.S, hf m (by omega) (fun hm => by rw [List.mem_filter, hP] at hm; cases hm.2)]
      grind
theorem midB_eq : midB = 10 ^ 66 := by unfold midB; rfl
theorem tn_zb {n m : Nat} {E : Nat → Nat → Rat} {rows : List Nat} {t : Lp.Tab} (h : LInv n m E rows t) (hm : m ≤ 17) (hn : n + m ≤ 100) (hr : Rows m rows) : ZB rows.length (n + m) (fun p c => Lp.zt m E t (atR rows p) c) (Lp.dz m E t) := by
  have hl := Lp.lid_top hm
  rw [← midB_eq] at hl
  refine ⟨fun p c hp hc => ?_, ?_, Lp.dz_pos h.z, by have := hr.len; omega, hn⟩
  · have := Lp.zt_le h.z (hr.lt (getD_mem hp)) (show c < n + m + 1 by omega)
    omega
  · have := Lp.dz_le h.z
    have := Lp.dz_pos h.z
    omega
/-- The gain that the program works out. -/
theorem gTo_rc {n m : Nat} {E : Nat → Nat → Rat} {rows : List Nat} {t : Lp.Tab} (h : LInv n m E rows t) (hr : Rows m rows) (O : Nat → Int) (k : Nat) (hk : k < n + m + 1) (hO : ∀ i, i < m → i ∉ rows → O (t.bs i) = 0) :
    ((gTo (fun p c => Lp.zt m E t (atR rows p) c) (Lp.dz m E t) (fun p => t.bs (atR rows p)) O k rows.length : Int) : Rat) = Lp.dz m E t * Lp.rc m (fun c => (O c : Rat)) t k := by
  have key : ∀ i, i ≤ rows.length → ((gTo (fun p c => Lp.zt m E t (atR rows p) c) (Lp.dz m E t) (fun p => t.bs (atR rows p)) O k i : Int) : Rat) = Lp.dz m E t * ((O k : Rat) - Lp.S i fun p => t.X (atR rows p) k * (O (t.bs (atR rows p)) : Rat)) := by
    intro i
    induction i with
    | zero => intro _; rw [gTo, Rat.intCast_mul, Lp.S]; grind
    | succ i ih =>
      intro hi
      have hc := Lp.zt_cast h.z (hr.lt (getD_mem (show i < rows.length by omega))) hk
      rw [gTo, Lp.S]
      split
      · rw [Rat.intCast_sub, Rat.intCast_mul, ih (by omega), hc]; grind
      · rename_i hno
        rw [ih (by omega)]
        have hz : t.X (atR rows i) k * (O (t.bs (atR rows i)) : Rat) = 0 := by
          by_cases g1 : O (t.bs (atR rows i)) = 0
          · rw [g1]; grind
          · have g2 : Lp.zt m E t (atR rows i) k = 0 := Classical.not_not.1 fun g2 => hno ⟨g1, g2⟩
            rw [(Lp.zt_sign h.z (hr.lt (getD_mem (show i < rows.length by omega))) hk).2.1 g2]; grind
        rw [hz]; grind
  rw [key _ (Nat.le_refl _)]
  unfold Lp.rc
  rw [hr.sum (fun i => t.X i k * (O (t.bs i) : Rat)) fun i hi hn => by rw [hO i hi hn]; grind]
theorem gain_sign {n m : Nat} {E : Nat → Nat → Rat} {rows : List Nat} {t : Lp.Tab} (h : LInv n m E rows t) (hr : Rows m rows) (O : Nat → Int) (k : Nat) (hk : k < n + m + 1) (hO : ∀ i, i < m → i ∉ rows → O (t.bs i) = 0) :
    (0 < gTo (fun p c => Lp.zt m E t (atR rows p) c) (Lp.dz m E t) (fun p => t.bs (atR rows p)) O k rows.length ↔ 0 < Lp.rc m (fun c => (O c : Rat)) t k) ∧
    (gTo (fun p c => Lp.zt m E t (atR rows p) c) (Lp.dz m E t) (fun p => t.bs (atR rows p)) O k rows.length < 0 ↔ Lp.rc m (fun c => (O c : Rat)) t k < 0) := by
  have e := gTo_rc h hr O k hk hO
  have hd : (0 : Rat) < Lp.dz m E t := Rat.intCast_pos.2 (Lp.dz_pos h.z)
  generalize gTo (fun p c => Lp.zt m E t (atR rows p) c) (Lp.dz m E t) (fun p => t.bs (atR rows p)) O k rows.length = G at *
  generalize Lp.rc m (fun c => (O c : Rat)) t k = q at *
  constructor
  · rw [← Rat.intCast_pos, e]
    constructor
    · intro hp
      rcases Lp.rle_lt q 0 with g | g
      · have := Rat.mul_nonneg (show (0 : Rat) ≤ Lp.dz m E t by grind) (show 0 ≤ -q by grind); grind
      · exact g
    · intro hp; exact Rat.mul_pos hd hp
  · rw [show G < 0 ↔ (G : Rat) < 0 from by rw [← Rat.intCast_lt_intCast]; rfl, e]
    constructor
    · intro hp
      rcases Lp.rle_lt 0 q with g | g
      · have := Rat.mul_nonneg (show (0 : Rat) ≤ Lp.dz m E t by grind) g; grind
      · exact g
    · intro hp
      have := Rat.mul_pos hd (show 0 < -q by grind); grind
/-- The row that the program finds. -/
theorem lv_leave {n m : Nat} {E : Nat → Nat → Rat} {rows : List Nat} {t : Lp.Tab} (h : LInv n m E rows t) (hr : Rows m rows) (k : Nat) (hk : k < n + m + 1) : ∀ i, i ≤ rows.length →
    Lp.leave t (n + m) k (rows.take i) = (lvZ (fun p c => Lp.zt m E t (atR rows p) c) (n + m) k (fun p => t.bs (atR rows p)) i).map fun p => atR rows p
  | 0, _ => by simp [lvZ, Lp.leave]
  | i + 1, hi => by
    have hlt : i < rows.length := by omega
    have ih := lv_leave h hr k hk i (by omega)
    have e : rows.take (i + 1) = rows.take i ++ [atR rows i] := by
      unfold atR; rw [List.take_add_one, List.getElem?_eq_getElem hlt, List.getD_eq_getElem?_getD, List.getElem?_eq_getElem hlt]; rfl
    have hm := hr.lt (getD_mem hlt)
    have hs := Lp.zt_sign h.z hm hk
    rw [e, Lp.leave_snoc, ih, lvZ]
    unfold Lp.lvStep
    by_cases hp : 0 < t.X (atR rows i) k
    · rw [if_pos hp, if_neg (show ¬ Lp.zt m E t (atR rows i) k ≤ 0 by have := hs.1.2 hp; omega)]
      cases hb : lvZ (fun p c => Lp.zt m E t (atR rows p) c) (n + m) k (fun p => t.bs (atR rows p)) i with
      | none => rfl
      | some j =>
        simp only [Option.map_some]
        have hj := lvZ_lt hb
        have hjm := hr.lt (getD_mem (show j < rows.length by omega))
        have hpj : 0 < t.X (atR rows j) k := by
          have hmem : atR rows j ∈ rows.take i ∧ 0 < t.X (atR rows j) k := by
            have := (Lp.leave_spec t (n + m) k (rows.take i)).2 (atR rows j) (by rw [ih, hb]; rfl)
            exact ⟨this.1, this.2.1⟩
          exact hmem.2
        have hq := Lp.quo_cross (a := t.X (atR rows i) (n + m)) (b := t.X (atR rows i) k) (c := t.X (atR rows j) (n + m)) (d := t.X (atR rows j) k) hp hpj
        have hd : (0 : Rat) < Lp.dz m E t := Rat.intCast_pos.2 (Lp.dz_pos h.z)
        have c1 := Lp.zt_cast h.z hm (show n + m < n + m + 1 by omega)
        have c2 := Lp.zt_cast h.z hm hk
        have c3 := Lp.zt_cast h.z hjm (show n + m < n + m + 1 by omega)
        have c4 := Lp.zt_cast h.z hjm hk
        have l1 : ((Lp.zt m E t (atR rows i) (n + m) * Lp.zt m E t (atR rows j) k : Int) : Rat) = t.X (atR rows i) (n + m) * t.X (atR rows j) k * ((Lp.dz m E t : Rat) * Lp.dz m E t) := by rw [Rat.intCast_mul, c1, c4]; grind
        have l2 : ((Lp.zt m E t (atR rows j) (n + m) * Lp.zt m E t (atR rows i) k : Int) : Rat) = t.X (atR rows j) (n + m) * t.X (atR rows i) k * ((Lp.dz m E t : Rat) * Lp.dz m E t) := by rw [Rat.intCast_mul, c2, c3]; grind
        have hdd := Rat.mul_pos hd hd
        have hlt2 : Lp.quo t (n + m) k (atR rows i) < Lp.quo t (n + m) k (atR rows j) ↔ Lp.zt m E t (atR rows i) (n + m) * Lp.zt m E t (atR rows j) k < Lp.zt m E t (atR rows j) (n + m) * Lp.zt m E t (atR rows i) k := by
          unfold Lp.quo
          rw [hq.1, ← Rat.intCast_lt_intCast, l1, l2]
          generalize t.X (atR rows i) (n + m) * t.X (atR rows j) k = A
          generalize t.X (atR rows j) (n + m) * t.X (atR rows i) k = B
          generalize (Lp.dz m E t : Rat) * Lp.dz m E t = D at hdd
          constructor
          · intro hh; have := Rat.mul_pos (show 0 < B - A by grind) hdd; grind
          · intro hh
            rcases Lp.rle_lt B A with g | g
            · have := Rat.mul_nonneg (show 0 ≤ A - B by grind) (show 0 ≤ D by grind); grind
            · exact g
        have heq2 : Lp.quo t (n + m) k (atR rows i) = Lp.quo t (n + m) k (atR rows j) ↔ Lp.zt m E t (atR rows i) (n + m) * Lp.zt m E t (atR rows j) k = Lp.zt m E t (atR rows j) (n + m) * Lp.zt m E t (atR rows i) k := by
          unfold Lp.quo
          rw [hq.2, ← Rat.intCast_inj, l1, l2]
          generalize t.X (atR rows i) (n + m) * t.X (atR rows j) k = A
          generalize t.X (atR rows j) (n + m) * t.X (atR rows i) k = B
          generalize (Lp.dz m E t : Rat) * Lp.dz m E t = D at hdd
          constructor
          · intro hh; rw [hh]
          · intro hh
            have : (A - B) * D = 0 := by grind
            rcases Rat.mul_eq_zero.1 this with g | g
            · grind
            · grind
        by_cases hc : Lp.quo t (n + m) k (atR rows i) < Lp.quo t (n + m) k (atR rows j) ∨ Lp.quo t (n + m) k (atR rows i) = Lp.quo t (n + m) k (atR rows j) ∧ t.bs (atR rows i) < t.bs (atR rows j)
        · rw [if_pos hc, if_pos (by rw [hlt2, heq2] at hc; exact hc)]; rfl
        · rw [if_neg hc, if_neg (by rw [hlt2, heq2] at hc; exact hc)]; rfl
    · rw [if_neg hp, if_pos (show Lp.zt m E t (atR rows i) k ≤ 0 by
        rcases Int.lt_or_le 0 (Lp.zt m E t (atR rows i) k) with g | g
        · exact absurd (hs.1.1 g) hp
        · exact g)]
/-- What the program's pivot makes. -/
theorem tn_piv {n m : Nat} {E : Nat → Nat → Rat} {rows : List Nat} {t : Lp.Tab} (h : LInv n m E rows t) (hr : Rows m rows) {p k : Nat} (hp : p < rows.length) (hk : k < n + m) (hx : t.X (atR rows p) k ≠ 0) (fr : Nat → Bool) :
    ∃ Y, PivZ rows.length (n + m) p k (tnOf n m E rows t fr).Z (Lp.dz m E t) Y ∧
      ∀ b g, TT b g ⟨rows.length, n + m, pvF ((tnOf n m E rows t fr).Z p k) Y, (((tnOf n m E rows t fr).Z p k).natAbs : Int), pvB (tnOf n m E rows t fr).bs p k, fr⟩ → TT b g (tnOf n m E rows (Lp.piv t (atR rows p) k) fr) := by
  have hm := hr.lt (getD_mem hp)
  have hs := Lp.zt_sign h.z hm (show k < n + m + 1 by omega)
  have hne : Lp.zt m E t (atR rows p) k ≠ 0 := fun e => hx (hs.2.1 e)
  have hd := Lp.dz_pos h.z
  let z' : Nat → Nat → Int := fun a c => Lp.zt m E (Lp.piv t (atR rows p) k) (atR rows a) c
  have hpz : ∀ a c, a < rows.length → c ≤ n + m → _ := fun a c ha hc => Lp.zt_piv h.z hm (show k < n + m + 1 by omega) hx (hr.lt (getD_mem ha)) (show c < n + m + 1 by omega)
  have hidx : ∀ a, a < rows.length → (atR rows a = atR rows p ↔ a = p) := fun a ha => ⟨fun e => hr.inj ha hp e, fun e => by rw [e]⟩
  have hbs : ∀ a, a < rows.length → (Lp.piv t (atR rows p) k).bs (atR rows a) = pvB (fun q => t.bs (atR rows q)) p k a := fun a ha => by
    unfold pvB
    by_cases e : a = p
    · rw [e, if_pos rfl, Lp.piv_bs_r]
    · rw [if_neg e, Lp.piv_bs_i _ _ fun e2 => e ((hidx a ha).1 e2)]
  have hTT : ∀ (Y : Nat → Nat → Int), (∀ a c, a < rows.length → c ≤ n + m → pvF (Lp.zt m E t (atR rows p) k) Y a c = z' a c) → (Lp.dz m E (Lp.piv t (atR rows p) k) = ((Lp.zt m E t (atR rows p) k).natAbs : Int)) → ∀ b g, TT b g ⟨rows.length, n + m, pvF ((tnOf n m E rows t fr).Z p k) Y, (((tnOf n m E rows t fr).Z p k).natAbs : Int), pvB (tnOf n m E rows t fr).bs p k, fr⟩ → TT b g (tnOf n m E rows (Lp.piv t (atR rows p) k) fr) := by
    intro Y h1 h2 b g hT
    have e1 : iv (lb rows.length (pvB (fun q => t.bs (atR rows q)) p k)) = iv (lb rows.length fun q => (Lp.piv t (atR rows p) k).bs (atR rows q)) := by
      unfold lb
      congr 1
      exact List.map_congr_left fun q hq => by simp only [hbs q (by simpa using hq)]
    refine ⟨hT.grid.congr fun a c ha hc => h1 a c ha (by simp only at hc; omega), ?_, ?_, hT.fre, hT.pT, hT.pR, hT.pB, hT.pF, hT.nd⟩
    · have := hT.hd
      simp only [tnOf, h2] at this ⊢
      exact this
    · have := hT.ba
      simp only [tnOf] at this ⊢
      rw [← e1]; exact this
  rcases Int.lt_or_gt_of_ne hne with hneg | hpos
  · refine ⟨fun a c => - z' a c, ⟨fun a c ha hc hap => ?_, fun c hc => ?_, hne⟩, hTT _ (fun a c _ _ => ?_) ?_⟩
    · have := ((hpz a c ha hc).2 hneg).2
      rw [if_neg fun e => hap ((hidx a ha).1 e)] at this
      simp only [tnOf, z']
      rw [Int.neg_mul, this]; omega
    · have := ((hpz p c hp hc).2 hneg).2
      rw [if_pos rfl, ← Int.neg_mul] at this
      have := Int.eq_of_mul_eq_mul_right (by omega) this
      simp only [tnOf, z']
      rw [this]; omega
    · simp only [pvF, if_neg (show ¬ 0 < Lp.zt m E t (atR rows p) k by omega)]
      omega
    · rw [((hpz p 0 hp (Nat.zero_le _)).2 hneg).1]; omega
  · refine ⟨z', ⟨fun a c ha hc hap => ?_, fun c hc => ?_, hne⟩, hTT _ (fun a c _ _ => ?_) ?_⟩
    · have := ((hpz a c ha hc).1 hpos).2
      rw [if_neg fun e => hap ((hidx a ha).1 e)] at this
      exact this
    · have := ((hpz p c hp hc).1 hpos).2
      rw [if_pos rfl] at this
      exact Int.eq_of_mul_eq_mul_right (by omega) this
    · simp only [pvF, if_pos hpos]
    · rw [((hpz p 0 hp (Nat.zero_le _)).1 hpos).1]; omega
end Go.Proofs.YticmgmemnpcbbaaGreat.Vm

namespace Go.Proofs.YticmgmemnpcbbaaGreat.Vm
open Go Go.RowKit Go.Proofs
set_option linter.unusedSimpArgs false
set_option linter.unusedVariables false

theorem lz_frz {b : Int → Option Blk} {g : Int} {l : List Int} (h0 : 0 ≤ g) (h : b g = some ⟨1, iv l⟩) (m : Nat) : frz b (m + 1) (.lsl g 1 0 l.length) = some (.sl (iv l)) := by
  have h1 := frz_lsl (n := m) h0 h
  rw [mapMM_cl (iv_cl _), show (iv l).length = l.length by simp] at h1
  rw [h1]; rfl
def wO (O : Nat → Int) : Nat → Rat := fun c => (O c : Rat)
/-- The columns that are free. -/
def fO (N : Nat) (fr : Nat → Bool) : Nat → Prop := fun c => c < N ∧ fr c = true
structure LoopM where
  j : Nat
  a : Bool
  b : Int → Option Blk
/-- What is free behind a round, up to a column. -/
noncomputable def frK (m : Nat) (O : Nat → Int) (t : Lp.Tab) (fr : Nat → Bool) (k : Nat) : Nat → Bool := open Classical in fun c => if c < k then fr c && !decide (Lp.rc m (wO O) t c < 0) else fr c
theorem frK_zero (m : Nat) (O : Nat → Int) (t : Lp.Tab) (fr : Nat → Bool) : frK m O t fr 0 = fr := by funext c; unfold frK; rw [if_neg (by omega)]
theorem lv_set {N k : Nat} (f : Nat → Bool) (v : Bool) (h : k < N) : (lv N f).set k [.bool v] = lv N (fun c => if c = k then v else f c) := by
  apply List.ext_getElem
  · simp
  · intro t h1 h2
    simp only [List.getElem_set, lv_getE]
    by_cases e : k = t
    · subst e; simp
    · rw [if_neg e, if_neg (Ne.symm e)]
theorem mem_lb {r : Nat} {bs : Nat → Nat} {k : Nat} : (k : Int) ∈ lb r bs ↔ ∃ p, p < r ∧ bs p = k := by
  unfold lb
  constructor
  · intro h
    obtain ⟨p, hp, e⟩ := List.mem_map.1 h
    exact ⟨p, by simpa using hp, by omega⟩
  · rintro ⟨p, hp, e⟩
    exact List.mem_map.2 ⟨p, by simpa using hp, by rw [e]⟩
theorem maximize_cp {bl : Int → Option Blk} {K : V → (Int → Option Blk) → Prop} (n m : Nat) (E : Nat → Nat → Rat) (rows : List Nat) (g : TG) (t : Lp.Tab) (fr : Nat → Bool) (O : Nat → Int) (gO : Int) (e : Nat)
    (hm : m ≤ 17) (hn : n + m ≤ 100) (hr : Rows m rows) (hO : ∀ c, (O c).natAbs ≤ 1000) (hO0 : (∀ i, i < m → i ∈ rows) ∨ ∀ c, n ≤ c → O c = 0)
    (h1 : Lp.nx (n + m) (n + m) rows (Lp.okW m (wO O) (fO (n + m) fr)) (Lp.orb (Lp.nx (n + m) (n + m) rows (Lp.okW m (wO O) (fO (n + m) fr))) t e) = none)
    (h2 : ∀ e', e' < e → (Lp.nx (n + m) (n + m) rows (Lp.okW m (wO O) (fO (n + m) fr)) (Lp.orb (Lp.nx (n + m) (n + m) rows (Lp.okW m (wO O) (fO (n + m) fr))) t e')).isSome = true)
    (hI : ∀ e', e' ≤ e → LInv n m E rows (Lp.orb (Lp.nx (n + m) (n + m) rows (Lp.okW m (wO O) (fO (n + m) fr))) t e'))
    (hTT : TT bl g (tnOf n m E rows t fr)) (hgO : bl gO = some ⟨1, iv (lz (n + m) O)⟩) (hg0 : 0 ≤ gO) (hgn : gO ∉ g.all)
    (hT : ∀ b', Lp.fstP (Lp.okW m (wO O) (fO (n + m) fr) (Lp.orb (Lp.nx (n + m) (n + m) rows (Lp.okW m (wO O) (fO (n + m) fr))) t e)) (n + m) = none →
      TT b' g (tnOf n m E rows (Lp.orb (Lp.nx (n + m) (n + m) rows (Lp.okW m (wO O) (fO (n + m) fr))) t e) (frK m O (Lp.orb (Lp.nx (n + m) (n + m) rows (Lp.okW m (wO O) (fO (n + m) fr))) t e) fr (n + m))) →
      (∀ x y, bl x = some y → x ∉ g.all → b' x = some y) → K (.bool true) b')
    (hF : ∀ b' k, Lp.fstP (Lp.okW m (wO O) (fO (n + m) fr) (Lp.orb (Lp.nx (n + m) (n + m) rows (Lp.okW m (wO O) (fO (n + m) fr))) t e)) (n + m) = some k → Lp.leave (Lp.orb (Lp.nx (n + m) (n + m) rows (Lp.okW m (wO O) (fO (n + m) fr))) t e) (n + m) k rows = none →
      TT b' g (tnOf n m E rows (Lp.orb (Lp.nx (n + m) (n + m) rows (Lp.okW m (wO O) (fO (n + m) fr))) t e) fr) → (∀ x y, bl x = some y → x ∉ g.all → b' x = some y) → K (.bool false) b') :
    CallP Tryz.prog 205 [.loc g.T 6 0 0, .lsl gO 1 0 (n + m)] bl K := by
  obtain ⟨nxf, hnx⟩ : ∃ f, Lp.nx (n + m) (n + m) rows (Lp.okW m (wO O) (fO (n + m) fr)) = f := ⟨_, rfl⟩
  rw [hnx] at h1 h2 hI hT hF
  obtain ⟨N, hN⟩ : ∃ N, n + m = N := ⟨_, rfl⟩
  have hlz : (lz N O).length = N := by simp
  have hdead : ∀ t, LInv n m E rows t → ∀ i, i < m → i ∉ rows → O (t.bs i) = 0 := fun t h i hi hn => by
    rcases hO0 with g1 | g1
    · exact absurd (g1 i hi) hn
    · exact g1 _ (h.dead i hi hn).1
  -- facts that hold of each tableau
  have hfrT : ∀ b t f, TT b g (tnOf n m E rows t f) → ∀ q, frz b (q + 4) (.loc g.T 6 0 0) = some (.ptr (tnOf n m E rows t f).c) := fun b t f h q => h.frz q
  have hGain : ∀ t f k, LInv n m E rows t → k < N → RO Tryz.prog 256 [.ptr (tnOf n m E rows t f).c, .sl (iv (lz N O)), .int .i64 k] (.int .i64 (gTo (fun p c => Lp.zt m E t (atR rows p) c) (Lp.dz m E t) (fun p => t.bs (atR rows p)) O k rows.length).sign) := fun t f k h hk => by
    have := gain_ro rows.length (n + m) (fun p c => Lp.zt m E t (atR rows p) c) (Lp.dz m E t) (fun p => t.bs (atR rows p)) f O k (tn_zb h hm hn hr) hO (by omega) fun p hp => h.lt _ (hr.lt (getD_mem hp))
    rw [hN] at this
    rw [show (tnOf n m E rows t f).c = tabC rows.length N (fun p c => Lp.zt m E t (atR rows p) c) (Lp.dz m E t) (fun p => t.bs (atR rows p)) f by rw [← hN]; rfl]
    exact this
  have hLeav : ∀ t f k, LInv n m E rows t → k < N → RO Tryz.prog 257 [.ptr (tnOf n m E rows t f).c, .int .i64 k] (.int .i64 (oI (lvZ (fun p c => Lp.zt m E t (atR rows p) c) N k (fun p => t.bs (atR rows p)) rows.length))) := fun t f k h hk => by
    have := leaving_ro rows.length (n + m) (fun p c => Lp.zt m E t (atR rows p) c) (Lp.dz m E t) (fun p => t.bs (atR rows p)) f k (tn_zb h hm hn hr) (by omega)
    rw [hN] at this
    rw [show (tnOf n m E rows t f).c = tabC rows.length N (fun p c => Lp.zt m E t (atR rows p) c) (Lp.dz m E t) (fun p => t.bs (atR rows p)) f by rw [← hN]; rfl]
    exact this
  have hCon : ∀ (t : Lp.Tab) (k : Nat), RO Tryz.prog 255 [.sl (iv (lb rows.length fun p => t.bs (atR rows p))), .int .i64 k] (.bool (decide ((k : Int) ∈ lb rows.length fun p => t.bs (atR rows p)))) := fun t k => Contains_ints_ro _ k (by rw [lb_length]; have := hr.len; omega)
  have hrcb : ∀ (t : Lp.Tab) (k : Nat), LInv n m E rows t → ((k : Int) ∈ lb rows.length fun p => t.bs (atR rows p)) → Lp.rc m (wO O) t k = 0 := fun t k h hk => by
    obtain ⟨p, hp, e⟩ := mem_lb.1 hk
    rw [← e]; exact Lp.rc_basic h.z.ti _ (hr.lt (getD_mem hp))
  have hsg : ∀ t k, LInv n m E rows t → k < N → _ := fun t k h hk => gain_sign h hr O k (show k < n + m + 1 by omega) (hdead t h)
  rw [hN]
  rw [hN] at hgO
  refine callP_of Tryz.func205 rfl rfl (by rw [Tryz.ntmps205]; simp) ?_
  rw [Tryz.ntmps205, Tryz.results205]
  refine AW_runA ?_
  simp
  refine AW_runA ?_
  simp
  refine AW_for (fun q : LoopM => [(0, .loc g.T 6 0 0), (1, .lsl gO 1 0 N), (4, .bool false), (5, .bool q.a)]) (fun q => q.b) (fun q => q.j ≤ e ∧ TT q.b g (tnOf n m E rows (Lp.orb nxf t q.j) fr) ∧ (∀ x y, bl x = some y → x ∉ g.all → q.b x = some y) ∧ (q.a = false → q.j = e ∧ Lp.fstP (Lp.okW m (wO O) (fO N fr) (Lp.orb nxf t e)) N = none)) (fun q => 2 * (e - q.j) + if q.a = true then 1 else 0) _ ⟨0, true, bl⟩ ⟨Nat.zero_le _, hTT, fun _ _ h _ => h, fun h => by cases h⟩ ⟨rfl, by simp, Sub.refl _⟩ ?_
  rintro ⟨j, a, b⟩ ⟨hj, hTb, hfb, hab⟩
  simp only at hj hTb hfb hab
  have hbO := hfb _ _ hgO hgn
  have hfzO : ∀ q, frz b (q + 1) (.lsl gO 1 0 N) = some (.sl (iv (lz N O))) := fun q => by have := lz_frz hg0 hbO q; rwa [hlz] at this
  obtain ⟨tj, htj⟩ : ∃ tj, Lp.orb nxf t j = tj := ⟨_, rfl⟩
  have hIj := hI j hj
  rw [htj] at hTb hIj
  have bT : b g.T = _ := hTb.hd
  have bF : b g.F = _ := hTb.fre
  have z4T : frz b 4 (.loc g.T 6 0 0) = some (.ptr (tnOf n m E rows tj fr).c) := hfrT b tj fr hTb 0
  have z4O : frz b 4 (.lsl gO 1 0 N) = some (.sl (iv (lz N O))) := hfzO 3
  have z1B : frz b 1 (.lsl g.B 1 0 rows.length) = some (.sl (iv (lb rows.length fun p => tj.bs (atR rows p)))) := hTb.frzB 0
  simp only [tnOf, hN] at bT bF
  cases a with
  | true =>
    refine AW_runA ?_
    simp
    refine AW_block ?_
    refine AW_run ?_
    simp [bT]
    refine AW_for (fun k : Nat => [(0, .loc g.T 6 0 0), (1, .lsl gO 1 0 N), (4, .bool false), (5, .bool false), (13, .int .i64 N), (14, .int .i64 k)]) (fun _ => b) (fun k => k ≤ N ∧ ∀ c, c < k → ¬ Lp.okW m (wO O) (fO N fr) tj c) (fun k => N - k) _ 0 ⟨Nat.zero_le _, fun c hc => absurd hc (Nat.not_lt_zero _)⟩ ⟨rfl, by simp, Sub.refl _⟩ ?_
    rintro k ⟨hk, hnone⟩
    have wk : IntKind.i64.wrap ((k : Int) + 1) = (k : Int) + 1 := i64_in (by omega) (by omega)
    refine AW_runA ?_
    simp
    refine AW_runA ?_
    simp
    refine ⟨fun hkN => ?_, fun hkN => ?_⟩
    · refine AW_seq (AW_block ?_)
      refine AW_runA ?_
      simp
      refine AW_runA ?_
      simp
      have hs := hsg tj k hIj hkN
      have hG := hGain tj fr k hIj hkN
      have hC := hCon tj k
      have hcb := hrcb tj k hIj
      generalize gTo (fun p c => Lp.zt m E tj (atR rows p) c) (Lp.dz m E tj) (fun p => tj.bs (atR rows p)) O k rows.length = G at hs hG
      refine AW_way0 [(0, .loc g.T 6 0 0), (1, .lsl gO 1 0 N), (4, .bool false), (5, .bool false), (6, .int .i64 k), (13, .int .i64 N), (14, .int .i64 k)] _ b 39 (.bool (open Classical in decide (¬ Lp.okW m (wO O) (fO N fr) tj k))) ⟨rfl, by simp, Sub.refl _⟩ rfl ?_ ?_
      · cases hfk : fr k with
        | false =>
          have hno : ¬ Lp.okW m (wO O) (fO N fr) tj k := fun h => by have := h.1.2; rw [hfk] at this; cases this
          simp [bT, bF, hkN, hfk, hno]
        | true =>
          simp [bT, bF, hkN, hfk]
          refine callP_borrow 1 (ys := [.sl (iv (lb rows.length fun p => tj.bs (atR rows p))), .int .i64 k]) (by simp [z1B]; simp [frz]) hC rfl ?_
          simp
          refine ⟨fun hin hok => ?_, fun hnin => ?_⟩
          · have := hok.2
            rw [hcb hin] at this; exact absurd this (by decide)
          · refine callP_borrow 4 (ys := [.ptr (tnOf n m E rows tj fr).c, .sl (iv (lz N O)), .int .i64 k]) (by simp [z4T, z4O]; simp [frz]) hG rfl ?_
            simp
            have : Lp.okW m (wO O) (fO N fr) tj k ↔ 0 < G := by
              unfold Lp.okW fO
              rw [hs.1]
              exact ⟨fun h => h.2, fun h => ⟨⟨hkN, hfk⟩, h⟩⟩
            rw [this]
            by_cases hg : 0 < G
            · simp [hg]
            · simp [hg]; omega
      simp
      refine ⟨fun hno => ?_, fun hok => ?_⟩
      · refine AW_run ?_
        simp [wk, loopQ_normal]
        refine ⟨k + 1, ⟨by omega, fun c hc => ?_⟩, by omega, rfl, by simp, Sub.refl _⟩
        by_cases ec : c = k
        · rw [ec]; exact hno
        · exact hnone c (by omega)
      have hfst : Lp.fstP (Lp.okW m (wO O) (fO N fr) tj) N = some k := Lp.fstP_some.2 ⟨hkN, hok, hnone⟩
      have hLv := hLeav tj fr k hIj hkN
      have hll := lv_leave hIj hr k (by omega) rows.length (Nat.le_refl _)
      rw [List.take_length, hN] at hll
      refine AW_runA ?_
      simp
      refine callP_borrow 4 (ys := [.ptr (tnOf n m E rows tj fr).c, .int .i64 k]) (by simp [z4T]; simp [frz]) hLv rfl ?_
      simp
      cases hlv : lvZ (fun p c => Lp.zt m E tj (atR rows p) c) N k (fun p => tj.bs (atR rows p)) rows.length with
      | none =>
        rw [hlv] at hll
        have hnn : nxf tj = none := by
          rw [← hnx]
          cases hs2 : Lp.nx (n + m) (n + m) rows (Lp.okW m (wO O) (fO (n + m) fr)) tj with
          | none => rfl
          | some q =>
            obtain ⟨q1, q2⟩ := Lp.nx_some.1 hs2
            rw [hN, hfst] at q1
            cases q1
            rw [hN, hll] at q2; cases q2
        have hje : j = e := by
          by_cases hlt : j < e
          · have := h2 j hlt
            rw [htj, hnn] at this; cases this
          · omega
        subst hje
        rw [htj] at hF
        rw [hN] at hF
        refine AW_run ?_
        simp [oI]
        rw [retK_ret]
        exact ⟨[.bool false], by simp, hF b k hfst hll hTb hfb⟩
      | some p =>
        rw [hlv] at hll
        have hp := lvZ_lt hlv
        have hneg : ¬ (p : Int) < 0 := by omega
        have hnn : nxf tj = some (atR rows p, k) := by
          rw [← hnx]
          exact Lp.nx_some.2 ⟨by rw [hN]; exact hfst, by rw [hN]; exact hll⟩
        have hje : j < e := by
          by_cases hlt : j < e
          · exact hlt
          · have : j = e := by omega
            rw [this] at htj
            rw [htj, hnn] at h1; cases h1
        have horb : Lp.orb nxf t (j + 1) = Lp.piv tj (atR rows p) k := by
          rw [Lp.orb, htj, hnn]
        have hx : tj.X (atR rows p) k ≠ 0 := by
          have := ((Lp.leave_spec tj N k rows).2 _ hll).2.1
          grind
        obtain ⟨Y, hY, hYT⟩ := tn_piv hIj hr hp (show k < n + m by omega) hx fr
        refine AW_runA ?_
        simp [oI, hneg]
        refine AW_runA ?_
        simp
        refine pivot_cp g (tnOf n m E rows tj fr) p k Y hTb (tn_zb hIj hm hn hr) hp (show k < n + m by omega) hY fun b' hT' hf' => ?_
        simp
        refine AW_run ?_
        simp [loopQ_normal]
        refine ⟨⟨j + 1, true, b'⟩, ⟨by simp only; omega, ?_, fun x y hx hn => hf' x y (hfb x y hx hn) hn, fun h => by cases h⟩, by simp only [if_true]; omega, rfl, by simp, Sub.refl _⟩
        simp only
        rw [horb]
        exact hYT b' g hT'
    · have hkN2 : k = N := by omega
      subst hkN2
      have hfst : Lp.fstP (Lp.okW m (wO O) (fO k fr) tj) k = none := Lp.fstP_none.2 hnone
      have hnn : nxf tj = none := by
        rw [← hnx, hN]
        unfold Lp.nx
        rw [hfst]
      have hje : j = e := by
        by_cases hlt : j < e
        · have := h2 j hlt
          rw [htj, hnn] at this; cases this
        · omega
      subst hje
      simp [loopQ_normal]
      exact ⟨⟨j, false, b⟩, ⟨Nat.le_refl _, by simp only; rw [htj]; exact hTb, hfb, fun _ => ⟨rfl, by rw [htj]; exact hfst⟩⟩, by simp, rfl, by simp, Sub.refl _⟩
  | false =>
    obtain ⟨hje, hfst⟩ := hab rfl
    subst hje
    rw [htj] at hT hfst
    rw [hN] at hT
    clear hF h1 h2
    have hgO2 := hgO
    refine AW_runA ?_
    simp
    refine AW_runA ?_
    simp [bT]
    refine AW_for (fun q : LoopZ => [(0, .loc g.T 6 0 0), (1, .lsl gO 1 0 N), (53, .int .i64 N), (54, .int .i64 q.j)]) (fun q => q.b) (fun q => q.j ≤ N ∧ TT q.b g (tnOf n m E rows tj (frK m O tj fr q.j)) ∧ (∀ x y, bl x = some y → x ∉ g.all → q.b x = some y)) (fun q => N - q.j) _ ⟨0, b⟩ ⟨Nat.zero_le _, by simp only; rw [frK_zero]; exact hTb, hfb⟩ ⟨rfl, by simp, Sub.refl _⟩ ?_
    clear hbO hfzO bT bF z4T z4O z1B hTb hfb hgO
    rintro ⟨k, b⟩ ⟨hk, hTb, hfb⟩
    simp only at hk hTb hfb
    have wk : IntKind.i64.wrap ((k : Int) + 1) = (k : Int) + 1 := i64_in (by omega) (by omega)
    have hbO := hfb _ _ hgO2 hgn
    have z4O : frz b 4 (.lsl gO 1 0 N) = some (.sl (iv (lz N O))) := by have := lz_frz hg0 hbO 3; rwa [hlz] at this
    have z4T : frz b 4 (.loc g.T 6 0 0) = some (.ptr (tnOf n m E rows tj (frK m O tj fr k)).c) := hTb.frz 0
    have z1B : frz b 1 (.lsl g.B 1 0 rows.length) = some (.sl (iv (lb rows.length fun p => tj.bs (atR rows p)))) := hTb.frzB 0
    have bT : b g.T = _ := hTb.hd
    have bF : b g.F = _ := hTb.fre
    simp only [tnOf, hN] at bT bF
    refine AW_runA ?_
    simp
    refine AW_runA ?_
    simp
    refine ⟨fun hkN => ?_, fun hkN => ?_⟩
    · refine AW_seq (AW_block ?_)
      refine AW_runA ?_
      simp
      refine AW_runA ?_
      simp
      have hs := hsg tj k hIj hkN
      have hG := hGain tj (frK m O tj fr k) k hIj hkN
      have hC := hCon tj k
      have hcb := hrcb tj k hIj
      have hfk : frK m O tj fr k k = fr k := by unfold frK; rw [if_neg (by omega)]
      generalize gTo (fun p c => Lp.zt m E tj (atR rows p) c) (Lp.dz m E tj) (fun p => tj.bs (atR rows p)) O k rows.length = G at hs hG
      refine AW_way0 [(0, .loc g.T 6 0 0), (1, .lsl gO 1 0 N), (8, .int .i64 k), (53, .int .i64 N), (54, .int .i64 k)] _ b 79 (.bool (open Classical in fr k && decide (Lp.rc m (wO O) tj k < 0))) ⟨rfl, by simp, Sub.refl _⟩ rfl ?_ ?_
      · cases hfk2 : fr k with
        | false =>
          rw [hfk2] at hfk
          simp [bT, bF, hkN, hfk]
        | true =>
          rw [hfk2] at hfk
          simp [bT, bF, hkN, hfk]
          refine callP_borrow 1 (ys := [.sl (iv (lb rows.length fun p => tj.bs (atR rows p))), .int .i64 k]) (by simp [z1B]; simp [frz]) hC rfl ?_
          simp
          have e2 : Lp.rc m (wO O) tj k < 0 ↔ G < 0 := hs.2.symm
          by_cases hin : (k : Int) ∈ lb rows.length fun p => tj.bs (atR rows p)
          · have : ¬ Lp.rc m (wO O) tj k < 0 := by rw [hcb hin]; decide
            simp [hin, this]
          · simp [hin]
            refine callP_borrow 4 (ys := [.ptr (tnOf n m E rows tj (frK m O tj fr k)).c, .sl (iv (lz N O)), .int .i64 k]) (by simp [z4T, z4O]; simp [frz]) hG rfl ?_
            simp
            rw [e2]
      have hstep : ∀ c, frK m O tj fr (k + 1) c = if c = k then (open Classical in fr k && !decide (Lp.rc m (wO O) tj k < 0)) else frK m O tj fr k c := fun c => by
        unfold frK
        by_cases e1 : c = k
        · subst e1; rw [if_pos (by omega), if_pos rfl]
        · rw [if_neg e1]
          by_cases e2 : c < k
          · rw [if_pos (by omega), if_pos e2]
          · rw [if_neg (by omega), if_neg e2]
      have nds := hTb.nd
      simp
      refine AW_run ?_
      simp
      refine ⟨fun h1 h2 => ?_, fun hno => ?_⟩
      · simp [bT, bF, hkN]
        refine AW_run ?_
        simp [wk, loopQ_normal]
        have e1 : (lv N (frK m O tj fr k)).set k [.bool false] = lv N (frK m O tj fr (k + 1)) := by
          rw [lv_set _ _ hkN]
          unfold lv
          refine List.map_congr_left fun c _ => ?_
          rw [hstep c]
          show [V.bool (if c = k then false else frK m O tj fr k c)] = _
          by_cases e : c = k
          · rw [if_pos e, if_pos e]; simp [h1, h2]
          · rw [if_neg e, if_neg e]
        rw [e1]
        refine ⟨⟨k + 1, upd b g.F (some ⟨1, lv N (frK m O tj fr (k + 1))⟩)⟩, ⟨by simp only; omega, ?_, fun x y hx hn => ?_⟩, by simp only; omega, rfl, by simp, Sub.refl _⟩
        · simp only [List.nodup_cons, List.mem_cons, not_or] at nds
          obtain ⟨⟨nTR, nTB, nTF, nTi⟩, ⟨nRB, nRF, nRi⟩, ⟨nBF, nBi⟩, nFi, _⟩ := nds
          show TT (upd b g.F (some ⟨1, lv N (frK m O tj fr (k + 1))⟩)) g (tnOf n m E rows tj (frK m O tj fr (k + 1)))
          refine ⟨hTb.grid.keep fun x y hx hy => ?_, ?_, ?_, ?_, hTb.pT, hTb.pR, hTb.pB, hTb.pF, hTb.nd⟩
          · rw [upd_ne _ _ _ _ (by rintro rfl; rcases hx with hx | hx; exact nRF hx.symm; exact nFi hx)]; exact hy
          · rw [upd_ne _ _ _ _ nTF]; exact hTb.hd
          · rw [upd_ne _ _ _ _ nBF]; exact hTb.ba
          · simp [tnOf, hN]
        · simp only
          rw [upd_ne _ _ _ _ (by rintro rfl; exact hn (by simp [TG.all]))]; exact hfb x y hx hn
      · refine AW_run ?_
        simp [wk, loopQ_normal]
        refine ⟨⟨k + 1, b⟩, ⟨by simp only; omega, ?_, hfb⟩, by simp only; omega, rfl, by simp, Sub.refl _⟩
        have e1 : frK m O tj fr (k + 1) = frK m O tj fr k := by
          funext c
          rw [hstep c]
          by_cases e : c = k
          · subst e
            rw [if_pos rfl, hfk]
            cases hfc : fr c with
            | false => rfl
            | true => have := hno hfc; simp; grind
          · rw [if_neg e]
        simp only
        rw [e1]; exact hTb
    · have hkN2 : k = N := by omega
      subst hkN2
      refine AW_run ?_
      simp
      rw [retK_ret]
      exact ⟨[.bool true], by simp, hT b hfst hTb hfb⟩
end Go.Proofs.YticmgmemnpcbbaaGreat.Vm

namespace Go.Proofs.YticmgmemnpcbbaaGreat.Vm
open Go Go.RowKit Go.Proofs
set_option linter.unusedSimpArgs false
set_option linter.unusedVariables false

/-- The rows that are left while columns leave: those before that count, and those behind. -/
def rowsK (n m : Nat) (t : Lp.Tab) (j : Nat) : List Nat := Lp.liveTo n t j ++ (List.range (m - j)).map (j + ·)
theorem rowsK_filter {n m j : Nat} (t : Lp.Tab) (hj : j ≤ m) : rowsK n m t j = (List.range m).filter fun x => decide (j ≤ x) || decide (t.bs x < n) := by
  obtain ⟨d, rfl⟩ : ∃ d, m = j + d := ⟨m - j, by omega⟩
  rw [List.range_add, List.filter_append]
  unfold rowsK Lp.liveTo
  rw [show j + d - j = d by omega]
  congr 1
  · refine List.filter_congr fun x hx => ?_
    have : x < j := by simpa using hx
    rw [decide_eq_false (show ¬ j ≤ x by omega), Bool.false_or]
  · symm
    rw [List.filter_eq_self]
    intro x hx
    obtain ⟨y, _, rfl⟩ := List.mem_map.1 hx
    simp
theorem rowsK_rows {n m j : Nat} (t : Lp.Tab) (hj : j ≤ m) : Rows m (rowsK n m t j) := ⟨_, rowsK_filter t hj⟩
theorem rowsK_mem {n m j x : Nat} {t : Lp.Tab} (hj : j ≤ m) : x ∈ rowsK n m t j ↔ x < m ∧ (j ≤ x ∨ t.bs x < n) := by
  rw [rowsK_filter t hj, List.mem_filter]
  simp
theorem rowsK_len (n m j : Nat) (t : Lp.Tab) : (rowsK n m t j).length = (Lp.liveTo n t j).length + (m - j) := by simp [rowsK]
theorem rowsK_at {n m j : Nat} {t : Lp.Tab} (hj : j < m) : atR (rowsK n m t j) (Lp.liveTo n t j).length = j := by
  unfold atR rowsK
  rw [List.getD_eq_getElem?_getD, List.getElem?_append_right (Nat.le_refl _), Nat.sub_self, List.getElem?_eq_getElem (by simp; omega)]
  simp
theorem rowsK_zero (n m : Nat) (t : Lp.Tab) : rowsK n m t 0 = List.range m := by
  have e : (fun x => 0 + x) = (id : Nat → Nat) := by funext x; simp
  unfold rowsK Lp.liveTo
  simp only [Nat.sub_zero, List.range_zero, List.filter_nil, List.nil_append]
  rw [show (List.range m).map (0 + ·) = (List.range m).map id from congrArg (fun f => (List.range m).map f) e, List.map_id]
theorem rowsK_all (n m : Nat) (t : Lp.Tab) : rowsK n m t m = Lp.liveTo n t m := by simp [rowsK]
theorem live_succ (n j : Nat) (t : Lp.Tab) : Lp.liveTo n t (j + 1) = if t.bs j < n then Lp.liveTo n t j ++ [j] else Lp.liveTo n t j := by
  unfold Lp.liveTo
  rw [List.range_succ, List.filter_append]
  by_cases h : t.bs j < n <;> simp [h]
theorem live_congr {n j : Nat} {t t' : Lp.Tab} (h : ∀ x, x < j → t.bs x = t'.bs x) : Lp.liveTo n t j = Lp.liveTo n t' j := by
  unfold Lp.liveTo
  exact List.filter_congr fun x hx => by rw [h x (by simpa using hx)]
/-- The row stays. -/
theorem rowsK_keep {n m j : Nat} {t t' : Lp.Tab} (hj : j < m) (h : ∀ x, x < j → t.bs x = t'.bs x) (hb : t'.bs j < n) : rowsK n m t' (j + 1) = rowsK n m t j ∧ (Lp.liveTo n t' (j + 1)).length = (Lp.liveTo n t j).length + 1 := by
  have e : (List.range (m - j)).map (j + ·) = j :: (List.range (m - (j + 1))).map (j + 1 + ·) := by
    rw [show m - j = (m - (j + 1)) + 1 by omega, List.range_succ_eq_map, List.map_cons, List.map_map]
    congr 1
    exact List.map_congr_left fun x _ => by simp; omega
  have e2 : Lp.liveTo n t' (j + 1) = Lp.liveTo n t j ++ [j] := by rw [live_succ, if_pos hb, live_congr h]
  unfold rowsK
  rw [e2, e]
  simp
/-- The row goes. -/
theorem rowsK_drop {n m j : Nat} {t : Lp.Tab} (hj : j < m) (hb : ¬ t.bs j < n) : rowsK n m t (j + 1) = (rowsK n m t j).take (Lp.liveTo n t j).length ++ (rowsK n m t j).drop ((Lp.liveTo n t j).length + 1) ∧ Lp.liveTo n t (j + 1) = Lp.liveTo n t j := by
  have e : (List.range (m - j)).map (j + ·) = j :: (List.range (m - (j + 1))).map (j + 1 + ·) := by
    rw [show m - j = (m - (j + 1)) + 1 by omega, List.range_succ_eq_map, List.map_cons, List.map_map]
    congr 1
    exact List.map_congr_left fun x _ => by simp; omega
  have e2 : Lp.liveTo n t (j + 1) = Lp.liveTo n t j := by rw [live_succ, if_neg hb]
  refine ⟨?_, e2⟩
  unfold rowsK
  rw [e2, e, List.take_append_of_le_length (Nat.le_refl _), List.take_length, List.drop_append, List.drop_eq_nil_of_le (by omega), Nat.add_sub_cancel_left]
  rfl
theorem Kick_linv {n m j : Nat} {E : Nat → Nat → Rat} {t : Lp.Tab} (h : Lp.Kick n m (n + m + 1) 1000 E j t) (hj : j ≤ m) : LInv n m E (rowsK n m t j) t :=
  ⟨h.z, h.nn, fun i hi => ((rowsK_mem hj).1 hi).1, fun i hi hn => by
    have : ¬ (j ≤ i ∨ t.bs i < n) := fun h => hn ((rowsK_mem hj).2 ⟨hi, h⟩)
    have hb : ¬ t.bs i < n := fun h => this (.inr h)
    exact ⟨by omega, h.zero i hi hb, h.done i (by omega) hb⟩, h.lt⟩
theorem atR_cut (rows : List Nat) (i p : Nat) (hi : i < rows.length) (hp : p < rows.length - 1) : atR (rows.take i ++ rows.drop (i + 1)) p = atR rows (if p < i then p else p + 1) := by
  unfold atR
  rw [List.getD_eq_getElem?_getD, List.getD_eq_getElem?_getD]
  congr 1
  by_cases h : p < i
  · rw [if_pos h, List.getElem?_append_left (by simp; omega), List.getElem?_take, if_pos h]
  · rw [if_neg h, List.getElem?_append_right (by simp; omega), List.length_take, Nat.min_eq_left (by omega), List.getElem?_drop, show i + 1 + (p - i) = p + 1 by omega]
theorem cut_get {α : Type} (l : List α) (i p : Nat) (hi : i < l.length) : (l.take i ++ l.drop (i + 1))[p]? = if p < i then l[p]? else l[p + 1]? := by
  by_cases h : p < i
  · rw [if_pos h, List.getElem?_append_left (by simp; omega), List.getElem?_take, if_pos h]
  · rw [if_neg h, List.getElem?_append_right (by simp; omega), List.length_take, Nat.min_eq_left (by omega), List.getElem?_drop, show i + 1 + (p - i) = p + 1 by omega]
/-- A tableau without a row. -/
theorem TT.cut {b b' : Int → Option Blk} {g : TG} {n m : Nat} {E : Nat → Nat → Rat} {rows : List Nat} {t : Lp.Tab} {fr : Nat → Bool} (h : TT b g (tnOf n m E rows t fr)) {i : Nat} (hi : i < rows.length) (gR gB : Int)
    (hR : b' gR = some ⟨1, (g.ids.take i ++ g.ids.drop (i + 1)).map fun g => [.lsl g 2 0 (n + m + 1)]⟩) (hB : b' gB = some ⟨1, (iv (lb rows.length fun p => t.bs (atR rows p))).take i ++ (iv (lb rows.length fun p => t.bs (atR rows p))).drop (i + 1)⟩)
    (hT : b' g.T = some ⟨6, [[.lsl gR 1 0 (rows.length - 1), .bool (decide (Lp.dz m E t < 0)), .sl (iv (lim (Lp.dz m E t).natAbs)), .lsl gB 1 0 (rows.length - 1), .int .i64 (n + m : Nat), .lsl g.F 1 0 (n + m)]]⟩)
    (hF : b' g.F = b g.F) (hid : ∀ x, x ∈ g.ids → b' x = b x) (nR : gR < 0 → rows.length - 1 = 0) (nB : gB < 0 → rows.length - 1 = 0) (hd : (g.T :: gR :: gB :: g.F :: g.ids).Nodup) :
    TT b' ⟨g.T, gR, gB, g.F, g.ids.take i ++ g.ids.drop (i + 1)⟩ (tnOf n m E (rows.take i ++ rows.drop (i + 1)) t fr) := by
  have hl := h.grid.len
  simp only [tnOf] at hl
  have hsub : ∀ x, x ∈ g.ids.take i ++ g.ids.drop (i + 1) → x ∈ g.ids := fun x hx => by
    rcases List.mem_append.1 hx with hx | hx
    · exact List.mem_of_mem_take hx
    · exact List.mem_of_mem_drop hx
  have hrl : (rows.take i ++ rows.drop (i + 1)).length = rows.length - 1 := by simp; omega
  have hil : (g.ids.take i ++ g.ids.drop (i + 1)).length = rows.length - 1 := by simp; omega
  have hsl : (g.ids.take i ++ g.ids.drop (i + 1)).Sublist g.ids := by
    conv => rhs; rw [← List.take_append_drop i g.ids]
    refine List.Sublist.append (List.Sublist.refl _) ?_
    rw [← List.drop_drop]
    exact List.drop_sublist _ _
  refine ⟨⟨by simp only [tnOf]; rw [hil, hrl], hR, fun p x hp => ?_, fun x hx => h.grid.pos x (hsub x hx), fun p q x hp hq => ?_, fun hm => ?_⟩, ?_, ?_, ?_, h.pT, ?_, ?_, h.pF, ?_⟩
  · have hlt : p < rows.length - 1 := by rw [← hil]; exact (List.getElem?_eq_some_iff.1 hp).1
    rw [hid x (hsub x (List.mem_of_getElem? hp))]
    rw [cut_get _ _ _ (by omega)] at hp
    simp only [tnOf]
    rw [atR_cut _ _ _ hi hlt]
    split at hp
    · rename_i h1; rw [if_pos h1]; exact h.grid.row p x hp
    · rename_i h1; rw [if_neg h1]; exact h.grid.row (p + 1) x hp
  · rw [cut_get _ _ _ (by omega)] at hp hq
    split at hp <;> split at hq
    · exact h.grid.inj p q x hp hq
    · have := h.grid.inj p (q + 1) x hp hq; omega
    · have := h.grid.inj (p + 1) q x hp hq; omega
    · have := h.grid.inj (p + 1) (q + 1) x hp hq; omega
  · simp only [List.nodup_cons, List.mem_cons, not_or] at hd
    exact hd.2.1.2.2 (hsub _ hm)
  · simp only [tnOf]; rw [hrl]; exact hT
  · simp only [tnOf]; rw [hB]
    congr 2
    apply List.ext_getElem?
    intro p
    rw [cut_get _ _ _ (by simpa using hi), hrl]
    by_cases hp : p < rows.length - 1
    · have e1 := atR_cut rows i p hi hp
      rw [List.getElem?_eq_getElem (show p < (iv (lb (rows.length - 1) fun p => t.bs (atR (rows.take i ++ rows.drop (i + 1)) p))).length by simpa using hp), iv_getE, lb_getE, e1]
      split
      · rename_i h1
        rw [List.getElem?_eq_getElem (by simp; omega), iv_getE, lb_getE]
      · rename_i h1
        rw [List.getElem?_eq_getElem (by simp; omega), iv_getE, lb_getE]
    · rw [if_neg (by omega), List.getElem?_eq_none (by simp; omega), List.getElem?_eq_none (by simp; omega)]
  · simp only [tnOf]; rw [hF]; exact h.fre
  · simp only [tnOf]; rw [hrl]; exact nR
  · simp only [tnOf]; rw [hrl]; exact nB
  · simp only [List.nodup_cons, List.mem_cons, not_or] at hd ⊢
    obtain ⟨⟨a1, a2, a3, a4⟩, ⟨b1, b2, b3⟩, ⟨c1, c2⟩, d1, d2⟩ := hd
    exact ⟨⟨a1, a2, a3, fun h => a4 (hsub _ h)⟩, ⟨b1, b2, fun h => b3 (hsub _ h)⟩, ⟨c1, fun h => c2 (hsub _ h)⟩, fun h => d1 (hsub _ h), List.Pairwise.sublist hsl d2⟩
end Go.Proofs.YticmgmemnpcbbaaGreat.Vm

namespace Go.Proofs.YticmgmemnpcbbaaGreat.Vm
open Go Go.RowKit Go.Proofs
set_option linter.unusedSimpArgs false
set_option linter.unusedVariables false

theorem cut_els {b : Int → Option Blk} {g : Int} {els : List (List V)} {L i : Nat} (h0 : 0 ≤ g) (hb : b g = some ⟨1, els⟩) (hl : els.length = L) (hi : i + 1 ≤ L) :
    ∃ x, (if (i : Int) + 1 = 0 then some (V.lsl g 1 0 L) else if (i : Int) + 1 = (L : Int) then some (V.sl []) else some (V.lsl g 1 (i + 1) (L - (i + 1)))) = some x ∧ elsV b 1 x = some (els.drop (i + 1)) := by
  rw [if_neg (by omega)]
  by_cases h : i + 1 = L
  · rw [if_pos (by omega)]
    refine ⟨_, rfl, ?_⟩
    rw [List.drop_eq_nil_of_le (by omega)]
    simp [elsV]
  · rw [if_neg (by omega)]
    refine ⟨_, rfl, ?_⟩
    simp only [elsV]
    rw [if_neg (by omega), hb]
    simp only
    rw [if_pos (by simp; omega), List.take_of_length_le (by simp; omega)]
structure LoopL where
  j : Nat
  g : TG
  b : Int → Option Blk
set_option maxHeartbeats 1000000 in
theorem leave_cp {bl : Int → Option Blk} {K : V → (Int → Option Blk) → Prop} (n m : Nat) (E : Nat → Nat → Rat) (g : TG) (t : Lp.Tab) (fr : Nat → Bool) (hm : m ≤ 17) (hn : n + m ≤ 100) (hk0 : Lp.Kick n m (n + m + 1) 1000 E 0 t) (hTT : TT bl g (tnOf n m E (List.range m) t fr))
    (hK : ∀ b' g', g'.T = g.T → g'.F = g.F → TT b' g' (tnOf n m E (Lp.liveTo n (Lp.kicks n t m) m) (Lp.kicks n t m) fr) → (∀ x, x ∈ g'.all → x ∈ g.all ∨ bl x = none) → (∀ x y, bl x = some y → x ∉ g.all → b' x = some y) → K (.tup []) b') :
    CallP Tryz.prog 206 [.loc g.T 6 0 0, .int .i64 n] bl K := by
  have hkk := Lp.kicks_kick hk0 (show n ≤ n + m + 1 by omega)
  refine callP_of Tryz.func206 rfl rfl (by rw [Tryz.ntmps206]; simp) ?_
  rw [Tryz.ntmps206, Tryz.results206]
  refine AW_run ?_
  simp
  refine AW_for (fun q : LoopL => [(0, .loc g.T 6 0 0), (1, .int .i64 n), (4, .int .i64 (Lp.liveTo n (Lp.kicks n t q.j) q.j).length)]) (fun q => q.b) (fun q => q.j ≤ m ∧ TT q.b q.g (tnOf n m E (rowsK n m (Lp.kicks n t q.j) q.j) (Lp.kicks n t q.j) fr) ∧ q.g.T = g.T ∧ q.g.F = g.F ∧ (∀ x, x ∈ q.g.all → x ∈ g.all ∨ bl x = none) ∧ (∀ x y, bl x = some y → x ∉ g.all → q.b x = some y)) (fun q => m - q.j) _ ⟨0, g, bl⟩ ⟨Nat.zero_le _, by simp only [Lp.kicks]; rw [rowsK_zero]; exact hTT, rfl, rfl, fun x hx => .inl hx, fun _ _ h _ => h⟩ ⟨rfl, by simp [Lp.liveTo], Sub.refl _⟩ ?_
  rintro ⟨j, ⟨gT, gR, gB, gF, ids⟩, b⟩ ⟨hj, hTb, rfl, rfl, hal, hfb⟩
  simp only at hj hTb hal hfb
  obtain ⟨tj, htj⟩ : ∃ tj, Lp.kicks n t j = tj := ⟨_, rfl⟩
  have hkj := hkk j hj
  rw [htj] at hTb hkj
  have hI := Kick_linv hkj hj
  have hR := rowsK_rows (n := n) tj hj
  have hlen := rowsK_len n m j tj
  have hrl := hR.len
  have bT : b g.T = _ := hTb.hd
  have bB : b gB = _ := hTb.ba
  have bG : b gR = _ := hTb.grid.top
  simp only [tnOf] at bT bB bG
  have hnext : ∀ (q : Nat), Lp.kicks n t (j + 1) = Lp.kick n tj j := fun _ => by rw [Lp.kicks, htj]
  obtain ⟨i, hi⟩ : ∃ i, (Lp.liveTo n tj j).length = i := ⟨_, rfl⟩
  rw [hi] at hlen
  have wi : IntKind.i64.wrap ((i : Int) + 1) = (i : Int) + 1 := i64_in (by omega) (by omega)
  refine AW_runA ?_
  simp [bT, htj, hi]
  refine ⟨fun hlt => ?_, fun hlt => ?_⟩
  · have hjm : j < m := by omega
    have hat := rowsK_at (n := n) (t := tj) hjm
    rw [hi] at hat
    have hiR : i < (rowsK n m tj j).length := by omega
    obtain ⟨gi, hgi, hgim, hgi0, hgib⟩ := hTb.grid.at i (by simp only [tnOf]; exact hiR)
    simp only [tnOf] at hgib
    refine AW_block ?_
    refine AW_runA ?_
    simp [bT, bB, hiR, hat]
    refine ⟨fun hbj => ?_, fun hbj => ?_⟩
    · have ek : Lp.kicks n t (j + 1) = tj := by
        rw [hnext 0]; unfold Lp.kick; rw [if_pos hbj]
      obtain ⟨e1, e2⟩ := rowsK_keep (n := n) (t := tj) (t' := tj) hjm (fun _ _ => rfl) hbj
      simp [wi, loopQ_normal]
      refine ⟨⟨j + 1, ⟨g.T, gR, gB, g.F, ids⟩, b⟩, ⟨by simp only; omega, by simp only; rw [ek, e1]; exact hTb, rfl, rfl, hal, hfb⟩, by simp only; omega, rfl, ?_, Sub.refl _⟩
      simp [ek, e2, hi]
    have hnb : ¬ tj.bs j < n := by omega
    have hzs : ∀ c, c < n + m + 1 → _ := fun c hc => Lp.zt_sign hkj.z hjm hc
    refine AW_runA ?_
    simp
    refine AW_run ?_
    simp
    refine AW_for (fun k : Nat => [(0, .loc g.T 6 0 0), (1, .int .i64 n), (4, .int .i64 i), (5, .int .i64 k)]) (fun _ => b) (fun k => k ≤ n ∧ ∀ c, c < k → ¬ tj.X j c ≠ 0) (fun k => n - k) _ 0 ⟨Nat.zero_le _, fun c hc => absurd hc (Nat.not_lt_zero _)⟩ ⟨rfl, by simp, Sub.refl _⟩ ?_
    rintro k ⟨hk, hall⟩
    have wk : IntKind.i64.wrap ((k : Int) + 1) = (k : Int) + 1 := i64_in (by omega) (by omega)
    refine AW_run ?_
    simp
    refine AW_way0 [(0, .loc g.T 6 0 0), (1, .int .i64 n), (4, .int .i64 i), (5, .int .i64 k)] _ b 40 (.bool (decide (k < n ∧ Lp.zt m E tj j k = 0))) ⟨rfl, by simp, Sub.refl _⟩ rfl ?_ ?_
    · by_cases hkn : k < n
      · have e3 : (k : Int) < (n : Int) + m + 1 := by omega
        simp [hkn, bT, bG, hiR, hgi, hgib, hat, show k < n + m + 1 by omega, e3]
        refine callP_ro (sign_ro _) ?_
        simp [Int.sign_eq_zero_iff_zero]
        by_cases h0 : Lp.zt m E tj j k = 0 <;> simp [h0]
      · simp [hkn]
    simp
    refine ⟨fun hkn h0 => ?_, fun hno => ?_⟩
    · simp [wk, loopQ_normal]
      refine ⟨k + 1, ⟨by omega, fun c hc => ?_⟩, by omega, rfl, by simp, Sub.refl _⟩
      by_cases ec : c = k
      · rw [ec]; exact (hzs k (by omega)).2.1 h0
      · have := hall c (by omega); grind
    · refine ⟨fun hkn => ?_, fun hkn => ?_⟩
      · have hx : tj.X j k ≠ 0 := fun h0 => hno hkn ((hzs k (by omega)).2.2 h0)
        have ek : Lp.kicks n t (j + 1) = Lp.piv tj j k := by
          rw [hnext 0]; unfold Lp.kick; rw [if_neg hnb, Lp.fstP_some.2 ⟨hkn, hx, hall⟩]
        obtain ⟨Y, hY, hYT⟩ := tn_piv hI hR hiR (show k < n + m by omega) (by rw [hat]; exact hx) fr
        rw [hat] at hYT
        obtain ⟨e1, e2⟩ := rowsK_keep (n := n) (t := tj) (t' := Lp.piv tj j k) hjm (fun x hx => (Lp.piv_bs_i tj k (show x ≠ j by omega)).symm) (by rw [Lp.piv_bs_r]; exact hkn)
        refine pivot_cp ⟨g.T, gR, gB, g.F, ids⟩ (tnOf n m E (rowsK n m tj j) tj fr) i k Y hTb (tn_zb hI hm hn hR) hiR (show k < n + m by omega) hY fun b' hT' hf' => ?_
        simp [wi, loopQ_normal]
        refine ⟨⟨j + 1, ⟨g.T, gR, gB, g.F, ids⟩, b'⟩, ⟨by simp only; omega, by simp only; rw [ek, e1]; exact hYT b' _ hT', rfl, rfl, hal, fun x y hx hn => ?_⟩, by simp only; omega, rfl, ?_, Sub.refl _⟩
        · have h1 := hfb x y hx hn
          refine hf' x y h1 fun hm2 => ?_
          rcases hal x hm2 with h2 | h2
          · exact hn h2
          · rw [h2] at hx; cases hx
        · simp [ek, e2, hi]
      · have ek : Lp.kicks n t (j + 1) = tj := by
          rw [hnext 0]; unfold Lp.kick; rw [if_neg hnb, Lp.fstP_none.2 fun c hc => hall c (by omega)]
        obtain ⟨e1, e2⟩ := rowsK_drop (n := n) (t := tj) hjm hnb
        rw [hi] at e1
        have nds := hTb.nd
        simp only [List.nodup_cons, List.mem_cons, not_or] at nds
        obtain ⟨⟨nTR, nTB, nTF, nTi⟩, ⟨nRB, nRF, nRi⟩, ⟨nBF, nBi⟩, nFi, nds2⟩ := nds
        have hil := hTb.grid.len
        simp only [tnOf] at hil
        generalize hL : (rowsK n m tj j).length = L at *
        refine AW_mixedP mixedO (rem b gR) (sub_remS b gR) [0, 1, 2, 3, 4, 5, 6, 7, 8, 9, 10, 11, 12, 13] 4 17 (by kernel_rfl) ?_
        have q1 : i ≤ L := by omega
        have q2 : i + 1 ≤ L := by omega
        have q3 : (i : Int) ≤ L := by omega
        have q4 : (i : Int) + 1 ≤ L := by omega
        have q5 : 0 ≤ (i : Int) + 1 := by omega
        have q6 : ((i : Int) + 1).toNat = i + 1 := by omega
        have hgR0 : 0 ≤ gR := by
          rcases Int.lt_or_le gR 0 with h9 | h9
          · have := hTb.pR h9; simp only [tnOf] at this; omega
          · exact h9
        obtain ⟨x1, hx1, hx2⟩ := cut_els (b := b) (g := gR) (els := ids.map fun g => [V.lsl g 2 0 (n + m + 1)]) (L := L) (i := i) hgR0 bG (by simp [hil]) q2
        simp [nTR, bT, wi, sliV, q1, q2, q3, q4, q5, q6, hgR0, hx1]
        refine DL_one (i := 14) false (by kernel_rfl) rfl rfl (by kernel_rfl) ?_
        simp [appV, hx2, bG, hil]
        rw [if_pos q1, ← List.map_take, ← List.map_drop, ← List.map_append]
        have hcl : (ids.take i ++ ids.drop (i + 1)).length = L - 1 := by simp; omega
        generalize hnew : ids.take i ++ ids.drop (i + 1) = nids at hcl
        simp [hcl]
        refine ⟨by omega, fun gN hgN hbN => ?_⟩
        have hsubN : ∀ X, Sub (rem b gR) (upd (rem b gR) gN X) := fun X z y hz => by
          rw [rem_apply] at hz
          rw [upd_apply, rem_apply]
          grind
        have nNT : ¬ gN = g.T := fun e => by have := hbN (by rw [e]; exact nTR); rw [e, bT] at this; cases this
        have nNB : ¬ gN = gB := fun e => by have := hbN (by rw [e]; exact Ne.symm nRB); rw [e, bB] at this; cases this
        have bF : b g.F = _ := hTb.fre
        have nNF : ¬ gN = g.F := fun e => by have := hbN (by rw [e]; exact Ne.symm nRF); rw [e, bF] at this; cases this
        have nNi : gN ∉ ids := fun hm2 => by
          obtain ⟨q, hq⟩ := List.mem_iff_getElem?.1 hm2
          have := hbN fun e => nRi (e ▸ hm2)
          rw [hTb.grid.row q gN hq] at this; cases this
        refine ⟨hsubN _, DL_one (i := 15) false (by kernel_rfl) rfl rfl (by kernel_rfl) ?_⟩
        simp
        refine ⟨hsubN _, DL_one (i := 16) false (by kernel_rfl) rfl rfl (by kernel_rfl) ?_⟩
        simp
        refine ⟨hsubN _, DL_one (i := 17) true (by kernel_rfl) rfl rfl (by kernel_rfl) ?_⟩
        simp [Ne.symm nNT, nTR, bT]
        refine DL_done (by kernel_rfl) ?_
        obtain ⟨b1, hb1⟩ : ∃ b1, b1 = upd (upd (rem b gR) gN (some ⟨1, nids.map fun g => [.lsl g 2 0 (n + m + 1)]⟩)) g.T (some ⟨6, [[.lsl gN 1 0 (L - 1), .bool (decide (Lp.dz m E tj < 0)), .sl (iv (lim (Lp.dz m E tj).natAbs)), .lsl gB 1 0 L, .int .i64 (n + m : Nat), .lsl g.F 1 0 (n + m)]]⟩) := ⟨_, rfl⟩
        have c1T : b1 g.T = some ⟨6, [[.lsl gN 1 0 (L - 1), .bool (decide (Lp.dz m E tj < 0)), .sl (iv (lim (Lp.dz m E tj).natAbs)), .lsl gB 1 0 L, .int .i64 (n + m : Nat), .lsl g.F 1 0 (n + m)]]⟩ := by rw [hb1]; simp
        have c1N : b1 gN = some ⟨1, nids.map fun g => [.lsl g 2 0 (n + m + 1)]⟩ := by rw [hb1]; simp [nNT]
        have c1 : ∀ x, x ≠ g.T → x ≠ gN → x ≠ gR → b1 x = b x := fun x x1 x2 x3 => by rw [hb1, upd_ne _ _ _ _ x1, upd_ne _ _ _ _ x2, rem_apply, if_neg x3]
        have c1B : b1 gB = b gB := c1 gB (Ne.symm nTB) (Ne.symm nNB) (Ne.symm nRB)
        rw [bB] at c1B
        refine AW_at [(0, .loc g.T 6 0 0), (1, .int .i64 n), (4, .int .i64 i), (5, .int .i64 k)] 86 b1 ⟨rfl, by simp, by rw [hb1]; exact sub_eq rfl⟩ ?_
        clear hb1
        have hgB0 : 0 ≤ gB := by
          rcases Int.lt_or_le gB 0 with h9 | h9
          · have := hTb.pB h9; simp only [tnOf] at this; omega
          · exact h9
        obtain ⟨bas, hbas⟩ : ∃ x, iv (lb L fun p => tj.bs (atR (rowsK n m tj j) p)) = x := ⟨_, rfl⟩
        have hbl : bas.length = L := by rw [← hbas]; simp
        rw [hbas] at c1B
        refine AW_mixedP mixedO (rem b1 gB) (sub_remS b1 gB) [0, 1, 2, 3, 4, 5, 6, 7, 8, 9, 10, 11, 12, 13] 4 17 (by kernel_rfl) ?_
        obtain ⟨x2, hx3, hx4⟩ := cut_els (b := b1) (g := gB) (els := bas) (L := L) (i := i) hgB0 c1B hbl q2
        simp [nTB, c1T, wi, sliV, q1, q2, q3, q4, q5, q6, hgB0, hx3]
        refine DL_one (i := 14) false (by kernel_rfl) rfl rfl (by kernel_rfl) ?_
        simp [appV, hx4, c1B, hbl]
        rw [if_pos q1]
        have hbl2 : (bas.take i ++ bas.drop (i + 1)).length = L - 1 := by simp; omega
        generalize hnb2 : bas.take i ++ bas.drop (i + 1) = nbas at hbl2
        simp [hbl2]
        refine ⟨by omega, fun gM hgM hbM => ?_⟩
        have hsubM : ∀ X, Sub (rem b1 gB) (upd (rem b1 gB) gM X) := fun X z y hz => by
          rw [rem_apply] at hz
          rw [upd_apply, rem_apply]
          grind
        have mMT : ¬ gM = g.T := fun e => by have := hbM (by rw [e]; exact nTB); rw [e, c1T] at this; cases this
        have mMN : ¬ gM = gN := fun e => by have := hbM (by rw [e]; exact nNB); rw [e, c1N] at this; cases this
        have c1F : b1 g.F = b g.F := c1 g.F (Ne.symm nTF) (Ne.symm nNF) (Ne.symm nRF)
        have mMF : ¬ gM = g.F := fun e => by have := hbM (by rw [e]; exact Ne.symm nBF); rw [e, c1F, bF] at this; cases this
        have c1i : ∀ x, x ∈ ids → b1 x = b x := fun x hx => c1 x (fun e => nTi (e ▸ hx)) (fun e => nNi (e ▸ hx)) (fun e => nRi (e ▸ hx))
        have mMi : gM ∉ ids := fun hm2 => by
          obtain ⟨q, hq⟩ := List.mem_iff_getElem?.1 hm2
          have := hbM fun e => nBi (e ▸ hm2)
          rw [c1i gM hm2, hTb.grid.row q gM hq] at this; cases this
        refine ⟨hsubM _, DL_one (i := 15) false (by kernel_rfl) rfl rfl (by kernel_rfl) ?_⟩
        simp
        refine ⟨hsubM _, DL_one (i := 16) false (by kernel_rfl) rfl rfl (by kernel_rfl) ?_⟩
        simp
        refine ⟨hsubM _, DL_one (i := 17) true (by kernel_rfl) rfl rfl (by kernel_rfl) ?_⟩
        simp [Ne.symm mMT, nTB, c1T]
        refine DL_done (by kernel_rfl) ?_
        simp [loopQ_normal]
        obtain ⟨b2, hb2⟩ : ∃ b2, b2 = (upd (upd (rem b1 gB) gM (some ⟨1, nbas⟩)) g.T (some ⟨6, [[.lsl gN 1 0 (L - 1), .bool (decide (Lp.dz m E tj < 0)), .sl (iv (lim (Lp.dz m E tj).natAbs)), .lsl gM 1 0 (L - 1), .int .i64 (n + m : Nat), .lsl g.F 1 0 (n + m)]]⟩)) := ⟨_, rfl⟩
        have hbF : b2 g.F = b g.F := by rw [hb2]; simp [Ne.symm nTF, Ne.symm mMF, Ne.symm nBF, c1F]
        have hb2R : b2 gN = some ⟨1, nids.map fun g => [.lsl g 2 0 (n + m + 1)]⟩ := by rw [hb2]; simp [nNT, Ne.symm mMN, nNB, c1N]
        have hb2B : b2 gM = some ⟨1, nbas⟩ := by rw [hb2]; simp [mMT]
        have hb2T : b2 g.T = some ⟨6, [[.lsl gN 1 0 (L - 1), .bool (decide (Lp.dz m E tj < 0)), .sl (iv (lim (Lp.dz m E tj).natAbs)), .lsl gM 1 0 (L - 1), .int .i64 (n + m : Nat), .lsl g.F 1 0 (n + m)]]⟩ := by rw [hb2]; simp
        have hb2i : ∀ x, x ∈ ids → b2 x = b x := fun x hx => by
          have x1 : x ≠ g.T := fun e => nTi (e ▸ hx)
          have x2 : x ≠ gM := fun e => mMi (e ▸ hx)
          have x3 : x ≠ gB := fun e => nBi (e ▸ hx)
          rw [hb2, upd_ne _ _ _ _ x1, upd_ne _ _ _ _ x2, rem_apply, if_neg x3]; exact c1i x hx
        have hb2x : ∀ x, x ≠ g.T → x ≠ gM → x ≠ gB → b2 x = b1 x := fun x x1 x2 x3 => by rw [hb2, upd_ne _ _ _ _ x1, upd_ne _ _ _ _ x2, rem_apply, if_neg x3]
        have hcut := hTb.cut (b' := b2) (i := i) (by rw [hL]; exact q2) gN gM (by rw [hb2R, hnew]) (by rw [hb2B]; simp only [hL, hbas, hnb2]) (by rw [hb2T, hL]) hbF hb2i
          (fun h9 => by rcases hgN with h8 | h8; omega; rw [hL, ← hcl, h8]; rfl) (fun h9 => by rcases hgM with h8 | h8; omega; rw [hL, ← hbl2, h8]; rfl)
          (by simp only [List.nodup_cons, List.mem_cons, not_or]; exact ⟨⟨Ne.symm nNT, Ne.symm mMT, nTF, nTi⟩, ⟨Ne.symm mMN, nNF, nNi⟩, ⟨mMF, mMi⟩, nFi, nds2⟩)
        rw [← e1] at hcut
        refine ⟨⟨j + 1, ⟨g.T, gN, gM, g.F, ids.take i ++ ids.drop (i + 1)⟩, b2⟩, ⟨by simp only; omega, by simp only; rw [ek]; exact hcut, rfl, rfl, fun x hx => ?_, fun x y hx hn => ?_⟩, by simp only; omega, rfl, by simp [ek, e2, hi], by rw [hb2]; exact sub_eq rfl⟩
        · have hT2 := hal g.T (by simp [TG.all])
          have hF2 := hal g.F (by simp [TG.all])
          have hblN : bl gN = none ∨ gN ∈ g.all := by
            by_cases e : gN = gR
            · rcases hal gR (by simp [TG.all]) with h9 | h9
              · exact .inr (e ▸ h9)
              · exact .inl (e ▸ h9)
            · cases hv : bl gN with
              | none => exact .inl rfl
              | some y =>
                by_cases hmem : gN ∈ g.all
                · exact .inr hmem
                · have := hfb gN y hv hmem
                  rw [hbN e] at this; cases this
          have hblM : bl gM = none ∨ gM ∈ g.all := by
            by_cases e : gM = gB
            · rcases hal gB (by simp [TG.all]) with h9 | h9
              · exact .inr (e ▸ h9)
              · exact .inl (e ▸ h9)
            · by_cases e3 : gM = gR
              · rcases hal gR (by simp [TG.all]) with h9 | h9
                · exact .inr (e3 ▸ h9)
                · exact .inl (e3 ▸ h9)
              · cases hv : bl gM with
                | none => exact .inl rfl
                | some y =>
                  by_cases hmem : gM ∈ g.all
                  · exact .inr hmem
                  · have h8 := hfb gM y hv hmem
                    have h7 := hbM e
                    rw [c1 gM mMT mMN e3, h8] at h7; cases h7
          simp only [TG.all, List.mem_cons] at hx
          rcases hx with rfl | rfl | rfl | rfl | hx
          · exact hT2
          · exact hblN.symm
          · exact hblM.symm
          · exact hF2
          · exact hal x (by
              simp only [TG.all, List.mem_cons]
              refine .inr (.inr (.inr (.inr ?_)))
              rcases List.mem_append.1 hx with hx | hx
              · exact List.mem_of_mem_take hx
              · exact List.mem_of_mem_drop hx)
        · have h9 := hfb x y hx hn
          have hne : ∀ z, z ∈ TG.all ⟨g.T, gR, gB, g.F, ids⟩ → x ≠ z := fun z hz e => by
            rcases hal z hz with h8 | h8
            · exact hn (e ▸ h8)
            · rw [e, h8] at hx; cases hx
          have xT := hne g.T (by simp [TG.all])
          have xR := hne gR (by simp [TG.all])
          have xB := hne gB (by simp [TG.all])
          have xN : x ≠ gN := fun e => by
            have := hbN fun e2 => xR (e.trans e2)
            rw [← e, h9] at this; cases this
          have xM : x ≠ gM := fun e => by
            have := hbM fun e2 => xB (e.trans e2)
            rw [← e, c1 x xT xN xR, h9] at this; cases this
          simp only
          rw [hb2x x xT xM xB, c1 x xT xN xR]
          exact h9
  · have hjm : j = m := by omega
    subst hjm
    rw [rowsK_all] at hTb
    rw [htj] at hK
    rw [retK_normal]
    exact ⟨[], by simp, hK b ⟨g.T, gR, gB, g.F, ids⟩ rfl rfl hTb hal hfb⟩
end Go.Proofs.YticmgmemnpcbbaaGreat.Vm

namespace Go.Proofs.YticmgmemnpcbbaaGreat.Vm
open Go Go.RowKit Go.Proofs
set_option linter.unusedSimpArgs false
set_option linter.unusedVariables false

/-- A program of m rows and n columns, with numbers that are not large. -/
structure PgN (p : Pg) (n m : Nat) : Prop where
  rows : p.rows = m
  cols : p.cols = n
  al : p.a.length = m * n
  bl : p.b.length = m
  cl : p.c.length = n
  am : ∀ x, x ∈ p.a → x.natAbs ≤ 1000
  bm : ∀ x, x ∈ p.b → x.natAbs ≤ 1000
  cm : ∀ x, x ∈ p.c → x.natAbs ≤ 1000
  ml : m ≤ 17
  nl : n + m ≤ 100
def pA (p : Pg) (n i j : Nat) : Int := p.a.getD (i * n + j) 0
def pB (p : Pg) (i : Nat) : Int := p.b.getD i 0
def pC (p : Pg) (j : Nat) : Int := p.c.getD j 0
theorem getD_le {l : List Int} (h : ∀ x, x ∈ l → x.natAbs ≤ 1000) (i : Nat) : (l.getD i 0).natAbs ≤ 1000 := by
  rw [List.getD_eq_getElem?_getD]
  cases hx : l[i]? with
  | none => simp
  | some x => exact h x (List.mem_of_getElem? hx)
theorem lz_of_list (l : List Int) : l = lz l.length fun i => l.getD i 0 := by
  apply List.ext_getElem
  · simp
  · intro i h1 h2
    simp [lz, List.getD_eq_getElem?_getD, h1]
theorem PgN.b {p : Pg} {n m : Nat} (h : PgN p n m) : p.b = lz m (pB p) := by rw [← h.bl]; exact lz_of_list p.b
theorem PgN.c {p : Pg} {n m : Nat} (h : PgN p n m) : p.c = lz n (pC p) := by rw [← h.cl]; exact lz_of_list p.c
theorem PgN.row {p : Pg} {n m i : Nat} (h : PgN p n m) (hi : i < m) : ((iv p.a).take (i * n + n)).drop (i * n) = iv (lz n (pA p n i)) := by
  have hl : i * n + n ≤ p.a.length := by
    rw [h.al]
    have := Nat.mul_le_mul_right n (show i + 1 ≤ m by omega)
    rwa [Nat.add_mul, Nat.one_mul] at this
  apply List.ext_getElem
  · simp; omega
  · intro j h1 h2
    have hj : j < n := by simpa using h2
    simp only [List.getElem_drop, List.getElem_take, iv_getE, lz_getE, pA]
    rw [List.getD_eq_getElem?_getD, List.getElem?_eq_getElem (by omega)]
    rfl
theorem row_ro (p : Pg) (n m i : Nat) (h : PgN p n m) (hi : i < m) : RO Tryz.prog 204 [.ptr p.v, .int .i64 i] (.sl (iv (lz n (pA p n i)))) := by
  have hr := h.row hi
  have hml := h.ml
  have hnl := h.nl
  have hal := h.al
  have hin : i * n ≤ 17 * 100 := Nat.mul_le_mul (by omega) (by omega)
  have hmn : i * n + n ≤ m * n := by
    have := Nat.mul_le_mul_right n (show i + 1 ≤ m by omega)
    rwa [Nat.add_mul, Nat.one_mul] at this
  have e1 : (i : Int) * (n : Int) = ((i * n : Nat) : Int) := (Int.natCast_mul i n).symm
  have e2 : ((i : Int) + 1) * (n : Int) = ((i * n + n : Nat) : Int) := by rw [Int.add_mul, Int.one_mul, e1]; omega
  have w0 : IntKind.i64.wrap ((i : Int) + 1) = (i : Int) + 1 := i64_in (by omega) (by omega)
  have w1 : IntKind.i64.wrap ((i : Int) * (n : Int)) = (i : Int) * n := by rw [e1]; exact i64_in (by omega) (by omega)
  have w2 : IntKind.i64.wrap (((i : Int) + 1) * (n : Int)) = (i : Int) * n + n := by rw [e2, i64_in (by omega) (by omega)]; simp
  have hc := h.cols
  have k1 : (0 : Int) ≤ (i : Int) * n := by rw [e1]; omega
  have k2 : (i : Int) * n ≤ (i : Int) * n + n := by omega
  have k3 : (i : Int) * n + n ≤ (p.a.length : Int) := by rw [hal, e1]; omega
  have k4 : ((i : Int) * n).toNat = i * n := by rw [e1]; omega
  have k5 : ((i : Int) * n + n).toNat = i * n + n := by rw [e1]; omega
  refine ro_of2 Tryz.func204 rfl rfl (by rw [Tryz.ntmps204]; simp) fun bl => ?_
  rw [Tryz.ntmps204, Tryz.results204]
  refine AW_run ?_
  simp
  refine AW_quiet mixedO (by kernel_rfl) ?_
  simp [Pg.v, hc, w0, w1, w2, k1, k2, k3, sliV, k4, k5, hr]
  refine ⟨fun x hx => (iv_clen _ x hx).symm, ?_⟩
  exact retRO [.sl (iv (lz n (pA p n i)))] 0 (by simp) (by simp [frz, V.cl]) (Sub.refl _)
/-- The numbers of the first tableau. -/
def sgB (p : Pg) (i : Nat) : Int := if pB p i < 0 then -1 else 1
def eZ (p : Pg) (n m i c : Nat) : Int := if c < n then sgB p i * pA p n i c else if c = n + m then sgB p i * pB p i else if c = n + i then 1 else 0
def eQ (p : Pg) (n m : Nat) : Nat → Nat → Rat := fun i c => (eZ p n m i c : Rat)
theorem eZ_le {p : Pg} {n m : Nat} (h : PgN p n m) (i c : Nat) : (eZ p n m i c).natAbs ≤ 1000 := by
  have hs : (sgB p i).natAbs = 1 := by unfold sgB; split <;> rfl
  unfold eZ
  split
  · rw [Int.natAbs_mul, hs, Nat.one_mul]; exact getD_le h.am _
  · split
    · rw [Int.natAbs_mul, hs, Nat.one_mul]; exact getD_le h.bm _
    · split <;> decide
theorem PgN.init {p : Pg} {n m : Nat} (h : PgN p n m) : Lp.Init n m 1000 (eQ p n m) := by
  refine ⟨⟨fun i c _ _ => ⟨_, rfl⟩, fun i c _ _ => ?_⟩, fun i j hi hj => ?_, fun i hi => ?_⟩
  · have := eZ_le h i c
    constructor
    · rw [show -((1000 : Nat) : Rat) = ((-1000 : Int) : Rat) from rfl]
      exact Rat.intCast_le_intCast.2 (by omega)
    · rw [show ((1000 : Nat) : Rat) = ((1000 : Int) : Rat) from rfl]
      exact Rat.intCast_le_intCast.2 (by omega)
  · unfold eQ eZ
    rw [if_neg (by omega), if_neg (by omega)]
    by_cases e : i = j
    · rw [if_pos (by omega), if_pos e]; rfl
    · rw [if_neg (by omega), if_neg e]; rfl
  · have : 0 ≤ eZ p n m i (n + m) := by
      unfold eZ sgB
      rw [if_neg (by omega), if_pos rfl]
      split
      · omega
      · omega
    exact Rat.intCast_le_intCast.2 this
theorem vol0 {p : Pg} {n m : Nat} (h : PgN p n m) : Lp.vol m (eQ p n m) (Lp.tab0 n (eQ p n m)) = 1 := by
  show Lp.det m (fun j i => eQ p n m i (n + j)) = 1
  exact Lp.det_id m _ fun j i hj hi => by
    rw [h.init.art i j hi hj]
    by_cases e : j = i
    · rw [if_pos e, if_pos e.symm]
    · rw [if_neg e, if_neg (Ne.symm e)]
theorem rabs1 : Lp.rabs 1 = 1 := by unfold Lp.rabs; decide
theorem dz0 {p : Pg} {n m : Nat} (h : PgN p n m) : Lp.dz m (eQ p n m) (Lp.tab0 n (eQ p n m)) = 1 := by
  unfold Lp.dz; rw [vol0 h, rabs1]; rfl
theorem zt0 {p : Pg} {n m : Nat} (h : PgN p n m) (i c : Nat) : Lp.zt m (eQ p n m) (Lp.tab0 n (eQ p n m)) i c = eZ p n m i c := by
  unfold Lp.zt
  rw [vol0 h, rabs1, Rat.mul_one]
  show (eQ p n m i c).num = _
  unfold eQ
  simp
end Go.Proofs.YticmgmemnpcbbaaGreat.Vm

namespace Go.Proofs.YticmgmemnpcbbaaGreat.Vm
open Go Go.RowKit Go.Proofs
set_option linter.unusedSimpArgs false
set_option linter.unusedVariables false

/-- A row of fractions. -/
def rqs (w : Nat) (f : Nat → Rat) : List (List V) := (List.range w).map fun c => (ro (some (f c))).c
@[simp] theorem rqs_length (w : Nat) (f : Nat → Rat) : (rqs w f).length = w := by simp [rqs]
@[simp] theorem rqs_getE (w : Nat) (f : Nat → Rat) (i : Nat) (h : i < (rqs w f).length) : (rqs w f)[i] = (ro (some (f i))).c := by simp [rqs]
theorem rqs_get {w i : Nat} (f : Nat → Rat) (h : i < w) : (rqs w f)[i]? = some (ro (some (f i))).c := by simp [rqs, h]
theorem rqs_congr {w : Nat} {f g : Nat → Rat} (h : ∀ c, c < w → f c = g c) : rqs w f = rqs w g := List.map_congr_left fun c hc => by rw [h c (by simpa using hc)]
theorem rqs_set {w i : Nat} (f : Nat → Rat) (v : Rat) (hi : i < w) : (rqs w f).set i (ro (some v)).c = rqs w fun c => if c = i then v else f c := by
  apply List.ext_getElem
  · simp
  · intro j h1 h2
    rw [List.getElem_set, rqs_getE, rqs_getE]
    by_cases e : i = j
    · rw [if_pos e, if_pos e.symm]
    · rw [if_neg e, if_neg (Ne.symm e)]
theorem rqs_cl (w : Nat) (f : Nat → Rat) : (rqs w f).all (fun r => r.all V.cl) = true := by simp [rqs, RT.c, V.cl]
theorem rqs_snoc (w : Nat) (f : Nat → Rat) : rqs (w + 1) f = rqs w f ++ [(ro (some (f w))).c] := by simp [rqs, List.range_succ]
/-! ### Sizes -/
@[irreducible] def capB : Nat := 10 ^ 72
theorem capB_fit : capB * capB < LB ^ 24 := by unfold capB; decide +kernel
theorem capB_top {m : Nat} (h : m ≤ 17) : Lp.lid 1000 m ≤ capB := Nat.le_trans (Lp.lid_top h) (by unfold capB; decide +kernel)
theorem capB_rc {m : Nat} (h : m ≤ 17) : (m + 1) * (1000 * Lp.lid 1000 m) ≤ capB := Nat.le_trans (Nat.mul_le_mul (show m + 1 ≤ 18 by omega) (Nat.mul_le_mul_left _ (Lp.lid_top h))) (by unfold capB; decide +kernel)
/-- A number of a tableau. -/
def tame (q : Rat) : Prop := Lp.sm capB q
theorem sm_fits {q : Rat} (h : Lp.sm (capB * capB) q) : fits q := by
  obtain ⟨h1, h2⟩ := Lp.sm_parts h
  exact ⟨lim_length_le.2 (Nat.lt_of_le_of_lt h1 capB_fit), lim_length_le.2 (Nat.lt_of_le_of_lt h2 capB_fit)⟩
theorem capB_one : 1 ≤ capB := by unfold capB; decide +kernel
theorem tame_fits {q : Rat} (h : tame q) : fits q := sm_fits (Lp.sm_mono h (by have := Nat.mul_le_mul_left capB capB_one; omega))
theorem tame_mul {p q : Rat} (hp : tame p) (hq : tame q) : fits (p * q) := sm_fits (Lp.sm_mul hp hq)
theorem tame_div {p q : Rat} (hp : tame p) (hq : tame q) (h : q ≠ 0) : fits (p / q) := sm_fits (Lp.sm_div hp hq h)
theorem op2_fit {f : Rat → Rat → Rat} {p q : Rat} (h : fits (f p q)) : op2 f (some p) (some q) = some (f p q) := by unfold op2; simp [fit, h]
theorem okS {q : Rat} (h : fits q) : okQ (some q) := fun p hp => by cases hp; exact h
theorem sgn_rq {q : Rat} (h : fits q) : sgq (rd (ro (some q))) = q.num.sign := by rw [ro_some, rd_rq h]; rfl
theorem num_zero {q : Rat} : q.num = 0 ↔ q = 0 := ⟨fun h => Rat.num_eq_zero.1 h, fun h => by rw [h]; rfl⟩
theorem RatSign_at {q : Rat} (h : fits q) : RO Tryz.prog 191 [.agg (ro (some q)).c] (.int .i64 q.num.sign) := by
  have h1 := h.1
  have h2 := h.2
  have := RatSign_ro (ro (some q)) (by show (lim _).length ≤ _; omega) (by show (lim _).length ≤ _; omega)
  rwa [sgn_rq h] at this
theorem RatDiv_at (a b : Rat) (ha : fits a) (hb : fits b) (h0 : b ≠ 0) : RO Tryz.prog 277 [.agg (ro (some a)).c, .agg (ro (some b)).c] (.agg (ro (fit (a / b))).c) := by
  have ha1 := ha.1
  have ha2 := ha.2
  have hb1 := hb.1
  have hb2 := hb.2
  have hbn : b.num ≠ 0 := fun e => h0 (num_zero.1 e)
  have ka : RO Tryz.prog 213 [.agg (rq a).c] (.bool true) := by
    have := spec_RatOk_ro (rq a) (by show (lim _).length ≤ _; omega) (by show (lim _).length ≤ _; omega)
    rwa [show decide (rq a).ok = true from by rw [decide_eq_true_iff, ← rd_ok, rd_rq ha]; rfl] at this
  have kb : RO Tryz.prog 213 [.agg (rq b).c] (.bool true) := by
    have := spec_RatOk_ro (rq b) (by show (lim _).length ≤ _; omega) (by show (lim _).length ≤ _; omega)
    rwa [show decide (rq b).ok = true from by rw [decide_eq_true_iff, ← rd_ok, rd_rq hb]; rfl] at this
  have n1 := len_mul ha1 hb2
  have n2 := len_mul ha2 hb1
  have e : lowQ (decide (a.num < 0) != decide (b.num < 0)) (a.num.natAbs * b.den) (a.den * b.num.natAbs) = fit (a / b) := by
    unfold lowQ
    rw [if_neg (show ¬ a.den * b.num.natAbs = 0 from Nat.mul_ne_zero a.den_nz (by omega))]
    rw [quot_num a b hbn, ← div_mk a b hbn]
  rw [ro_some, ro_some]
  simp only [rq, RT.c] at ka kb ⊢
  refine ro_of2 Tryz.func277 rfl rfl (by rw [Tryz.ntmps277]; simp) fun bl => ?_
  rw [Tryz.ntmps277, Tryz.results277]
  refine AW_runA ?_
  simp
  intro g hg0 hg g2 hg2 h2g hb2 g3 hg3 h32 h3g hb3
  refine AW_run ?_
  simp
  refine AW_way [(2, .loc g 3 0 0), (3, .loc g2 3 0 0), (4, .loc g3 3 0 0)] _ (upd (upd (upd bl g (some ⟨3, [(rq a).c]⟩)) g2 (some ⟨3, [(rq b).c]⟩)) g3 (some ⟨3, [[.bool false, .nils, .nils]]⟩)) 12 (.bool false) (upd (upd (upd bl g (some ⟨3, [(rq a).c]⟩)) g2 (some ⟨3, [(rq b).c]⟩)) g3 (some ⟨3, [[.bool false, .nils, .nils]]⟩)) ⟨rfl, by simp, sub_eq (by simp [RT.c, rq])⟩ rfl ?_ ?_
  · simp [RT.c, rq, h2g, Ne.symm h2g, h32, Ne.symm h32, h3g, Ne.symm h3g]
    refine callP_ro ka ?_
    simp [h2g, Ne.symm h2g, h32, Ne.symm h32, h3g, Ne.symm h3g]
    refine callP_ro kb ?_
    simp
  simp
  refine AW_mixedB mixedO (upd (upd bl g (some ⟨3, [(rq a).c]⟩)) g2 (some ⟨3, [(rq b).c]⟩)) (by simp [h32, h3g, hb3]) [0, 1, 2, 3, 4, 5, 6, 7, 8, 9, 10, 11, 12, 13, 14, 15, 16, 17, 18, 19] 1 (by kernel_rfl) ?_
  simp [RT.c, rq, h2g, Ne.symm h2g, h32, Ne.symm h32, h3g, Ne.symm h3g]
  refine hcQ_ro (l02Mul_ro _ _ (by omega) (by omega)) ?_
  simp [h2g, Ne.symm h2g, h32, Ne.symm h32, h3g, Ne.symm h3g]
  refine hcQ_ro (l02Mul_ro _ _ (by omega) (by omega)) ?_
  simp [h2g, Ne.symm h2g, h32, Ne.symm h32, h3g, Ne.symm h3g]
  refine hcQ_ro (l04Low_ro _ _ _ (by omega) (by omega)) ?_
  rw [e, ro_c]
  generalize fit (a / b) = z
  simp [h2g, Ne.symm h2g, h32, Ne.symm h32, h3g, Ne.symm h3g]
  refine DAny_one (i := 20) (by kernel_rfl) rfl rfl ?_
  simp [h2g, Ne.symm h2g, h32, Ne.symm h32, h3g, Ne.symm h3g]
  refine ⟨by simp [h32, h3g, hb3], DAny_done (by kernel_rfl) ?_⟩
  simp [h2g, Ne.symm h2g, h32, Ne.symm h32, h3g, Ne.symm h3g]
  rw [← RT.c, ro_c z]
  exact retRO [.agg [.bool (decide (nm z < 0)), .sl (iv (lim (nm z).natAbs)), .sl (iv (lim (dn z)))]] 1 (by simp [h2g, Ne.symm h2g, h32, Ne.symm h32, h3g, Ne.symm h3g]) (by simp [frz, V.cl]) (by simp [hg, hb2, hb3])
end Go.Proofs.YticmgmemnpcbbaaGreat.Vm

namespace Go.Proofs.YticmgmemnpcbbaaGreat.Vm
open Go Go.RowKit Go.Proofs
set_option linter.unusedSimpArgs false
set_option linter.unusedVariables false

/-- The blocks: the struct, its rows, its basis, its cost. -/
structure SG where
  T : Int
  R : Int
  B : Int
  C : Int
  ids : List Int
/-- The numbers. -/
structure SN where
  r : Nat
  w : Nat
  n : Nat
  Z : Nat → Nat → Rat
  co : Nat → Rat
  bs : Nat → Nat
def rrs (r w : Nat) (Z : Nat → Nat → Rat) : List (List V) := (List.range r).map fun i => [.sl (rqs w (Z i))]
@[simp] theorem rrs_length (r w : Nat) (Z : Nat → Nat → Rat) : (rrs r w Z).length = r := by simp [rrs]
@[simp] theorem rrs_getE (r w : Nat) (Z : Nat → Nat → Rat) (i : Nat) (h : i < (rrs r w Z).length) : (rrs r w Z)[i] = [.sl (rqs w (Z i))] := by simp [rrs]
def SN.c (t : SN) : List V := [.int .i64 t.n, .sl (rrs t.r t.w t.Z), .sl (iv (lb t.r t.bs)), .sl (rqs t.w t.co)]
def SG.all (g : SG) : List Int := g.T :: g.R :: g.B :: g.C :: g.ids
structure SS (b : Int → Option Blk) (g : SG) (t : SN) : Prop where
  len : g.ids.length = t.r
  top : b g.R = some ⟨1, g.ids.map fun x => [.lsl x 3 0 t.w]⟩
  row : ∀ (i : Nat) (x : Int), g.ids[i]? = some x → b x = some ⟨3, rqs t.w (t.Z i)⟩
  pos : ∀ x, x ∈ g.ids → 0 ≤ x
  hd : b g.T = some ⟨4, [[.int .i64 t.n, .lsl g.R 1 0 t.r, .lsl g.B 1 0 t.r, .lsl g.C 3 0 t.w]]⟩
  ba : b g.B = some ⟨1, iv (lb t.r t.bs)⟩
  cst : b g.C = some ⟨3, rqs t.w t.co⟩
  pT : 0 ≤ g.T
  pR : g.R < 0 → t.r = 0
  pB : g.B < 0 → t.r = 0
  pC : 0 ≤ g.C
  nd : g.all.Nodup
theorem SS.keep {b b' : Int → Option Blk} {g : SG} {t : SN} (h : SS b g t) (hk : ∀ x y, x ∈ g.all → b x = some y → b' x = some y) : SS b' g t :=
  ⟨h.len, hk _ _ (by simp [SG.all]) h.top, fun i x hi => hk _ _ (by simp [SG.all, List.mem_of_getElem? hi]) (h.row i x hi), h.pos, hk _ _ (by simp [SG.all]) h.hd, hk _ _ (by simp [SG.all]) h.ba, hk _ _ (by simp [SG.all]) h.cst, h.pT, h.pR, h.pB, h.pC, h.nd⟩
theorem SS.at {b : Int → Option Blk} {g : SG} {t : SN} (h : SS b g t) (i : Nat) (hi : i < t.r) : ∃ x, g.ids[i]? = some x ∧ x ∈ g.ids ∧ 0 ≤ x ∧ b x = some ⟨3, rqs t.w (t.Z i)⟩ := by
  have hl := h.len
  have e : g.ids[i]? = some (g.ids[i]'(by omega)) := List.getElem?_eq_getElem _
  exact ⟨_, e, List.mem_of_getElem? e, h.pos _ (List.mem_of_getElem? e), h.row i _ e⟩
theorem SS.inj {b : Int → Option Blk} {g : SG} {t : SN} (h : SS b g t) {i j : Nat} {x : Int} (hi : g.ids[i]? = some x) (hj : g.ids[j]? = some x) : i = j := by
  have nd := h.nd
  unfold SG.all at nd
  simp only [List.nodup_cons] at nd
  obtain ⟨-, -, -, -, nd⟩ := nd
  obtain ⟨i1, e1⟩ := List.getElem?_eq_some_iff.1 hi
  obtain ⟨j1, e2⟩ := List.getElem?_eq_some_iff.1 hj
  have hp := List.pairwise_iff_getElem.1 nd
  rcases Nat.lt_trichotomy i j with q | q | q
  · exact absurd (e1.trans e2.symm) (hp i j i1 j1 q)
  · exact q
  · exact absurd (e2.trans e1.symm) (hp j i j1 i1 q)
/-- Frozen. -/
theorem SS.frz {b : Int → Option Blk} {g : SG} {t : SN} (h : SS b g t) (m : Nat) : frz b (m + 4) (.loc g.T 4 0 0) = some (.ptr t.c) := by
  have hi : ∀ m (k : Int), Vm.frz b m (.int .i64 k) = some (.int .i64 k) := fun m k => by cases m <;> simp [Vm.frz]
  have h1 : Vm.frz b (m + 3) (.lsl g.R 1 0 t.r) = some (.sl (rrs t.r t.w t.Z)) := by
    rcases Int.lt_or_le g.R 0 with hneg | hR
    · have hr := h.pR hneg
      rw [hr]
      have e : rrs 0 t.w t.Z = [] := rfl
      rw [e]
      simp [Vm.frz, hneg]
    have h1 := frz_lsl (n := m + 2) hR h.top
    rw [List.length_map, h.len] at h1
    rw [h1]
    have h2 : (g.ids.map fun x => [V.lsl x 3 0 t.w]).mapM (fun e : List V => e.mapM (Vm.frz b (m + 2))) = some (rrs t.r t.w t.Z) := by
      refine mapM_idx _ _ (by simp [h.len]) fun i x y hx hy => ?_
      rw [List.getElem?_map] at hx
      cases hi : g.ids[i]? with
      | none => rw [hi] at hx; cases hx
      | some gi =>
        rw [hi] at hx; cases hx
        have hlt : i < t.r := by rw [← h.len]; exact (List.getElem?_eq_some_iff.1 hi).1
        rw [List.getElem?_eq_getElem (by simpa using hlt), rrs_getE] at hy
        cases hy
        have h3 := frz_lsl (bl := b) (n := m + 1) (sz := 3) (els := rqs t.w (t.Z i)) (h.pos gi (List.mem_of_getElem? hi)) (h.row i gi hi)
        rw [mapMM_cl (rqs_cl _ _)] at h3
        simp only [List.mapM_cons, List.mapM_nil]
        rw [show (rqs t.w (t.Z i)).length = t.w by simp] at h3
        rw [h3]; rfl
    rw [h2]; rfl
  have h2 : Vm.frz b (m + 3) (.lsl g.B 1 0 t.r) = some (.sl (iv (lb t.r t.bs))) := by
    rcases Int.lt_or_le g.B 0 with hneg | hB
    · have hr := h.pB hneg
      rw [hr]
      have e : lb 0 t.bs = [] := rfl
      rw [e]
      simp [Vm.frz, hneg, iv]
    have h1 := frz_lsl (n := m + 2) hB h.ba
    rw [mapMM_cl (iv_cl _)] at h1
    rw [show (iv (lb t.r t.bs)).length = t.r by simp] at h1
    rw [h1]; rfl
  have h3 : Vm.frz b (m + 3) (.lsl g.C 3 0 t.w) = some (.sl (rqs t.w t.co)) := by
    have h1 := frz_lsl (n := m + 2) h.pC h.cst
    rw [mapMM_cl (rqs_cl _ _)] at h1
    rw [show (rqs t.w t.co).length = t.w by simp] at h1
    rw [h1]; rfl
  rw [frz_loc0 h.hd]
  simp only [List.mapM_cons, List.mapM_nil, h1, h2, h3, hi]
  rfl
/-- A row is written anew. -/
theorem SS.put {b : Int → Option Blk} {g : SG} {t : SN} {i : Nat} {x : Int} (h : SS b g t) (hi : g.ids[i]? = some x) (Z' : Nat → Nat → Rat) (hZ : ∀ a c, a ≠ i → c < t.w → t.Z a c = Z' a c) : SS (upd b x (some ⟨3, rqs t.w (Z' i)⟩)) g ⟨t.r, t.w, t.n, Z', t.co, t.bs⟩ := by
  have hm := List.mem_of_getElem? hi
  have nd := h.nd
  unfold SG.all at nd
  simp only [List.nodup_cons, List.mem_cons, not_or] at nd
  obtain ⟨⟨-, -, -, n1⟩, ⟨-, -, n2⟩, ⟨-, n3⟩, n4, -⟩ := nd
  have e : ∀ y, y ∉ g.ids → y ≠ x := fun y hy e => hy (e ▸ hm)
  refine ⟨h.len, by rw [upd_ne _ _ _ _ (e _ n2)]; exact h.top, fun k y hk => ?_, h.pos, by rw [upd_ne _ _ _ _ (e _ n1)]; exact h.hd, by rw [upd_ne _ _ _ _ (e _ n3)]; exact h.ba, by rw [upd_ne _ _ _ _ (e _ n4)]; exact h.cst, h.pT, h.pR, h.pB, h.pC, h.nd⟩
  by_cases e2 : k = i
  · subst e2
    rw [hi] at hk; cases hk
    rw [upd_same]
  · have hne : y ≠ x := fun e3 => e2 (h.inj (i := k) (j := i) (by rw [hk, e3]) hi)
    rw [upd_ne _ _ _ _ hne, h.row k y hk]
    simp only
    rw [rqs_congr fun c hc => hZ k c e2 hc]
/-- The cost is written anew. -/
theorem SS.putC {b : Int → Option Blk} {g : SG} {t : SN} (h : SS b g t) (co' : Nat → Rat) : SS (upd b g.C (some ⟨3, rqs t.w co'⟩)) g ⟨t.r, t.w, t.n, t.Z, co', t.bs⟩ := by
  have nd := h.nd
  unfold SG.all at nd
  simp only [List.nodup_cons, List.mem_cons, not_or] at nd
  obtain ⟨⟨-, -, n1, -⟩, ⟨-, n2, -⟩, ⟨n3, -⟩, n4, -⟩ := nd
  exact ⟨h.len, by rw [upd_ne _ _ _ _ n2]; exact h.top, fun k y hk => by rw [upd_ne _ _ _ _ (fun e => n4 (by rw [← e]; exact List.mem_of_getElem? hk))]; exact h.row k y hk, h.pos, by rw [upd_ne _ _ _ _ n1]; exact h.hd, by rw [upd_ne _ _ _ _ n3]; exact h.ba, by rw [upd_same], h.pT, h.pR, h.pB, h.pC, h.nd⟩
/-- The basis is written anew. -/
theorem SS.putB {b : Int → Option Blk} {g : SG} {t : SN} (h : SS b g t) (bs' : Nat → Nat) : SS (upd b g.B (some ⟨1, iv (lb t.r bs')⟩)) g ⟨t.r, t.w, t.n, t.Z, t.co, bs'⟩ := by
  have nd := h.nd
  unfold SG.all at nd
  simp only [List.nodup_cons, List.mem_cons, not_or] at nd
  obtain ⟨⟨-, n1, -, -⟩, ⟨n2, -, -⟩, ⟨n3, n4⟩, -, -⟩ := nd
  exact ⟨h.len, by rw [upd_ne _ _ _ _ n2]; exact h.top, fun k y hk => by rw [upd_ne _ _ _ _ (fun e => n4 (by rw [← e]; exact List.mem_of_getElem? hk))]; exact h.row k y hk, h.pos, by rw [upd_ne _ _ _ _ n1]; exact h.hd, by rw [upd_same], by rw [upd_ne _ _ _ _ (Ne.symm n3)]; exact h.cst, h.pT, h.pR, h.pB, h.pC, h.nd⟩
end Go.Proofs.YticmgmemnpcbbaaGreat.Vm

namespace Go.Proofs.YticmgmemnpcbbaaGreat.Vm
open Go Go.RowKit Go.Proofs
set_option linter.unusedSimpArgs false
set_option linter.unusedVariables false

theorem l10Clear_cp {bl : Int → Option Blk} {K : V → (Int → Option Blk) → Prop} (gt gr : Int) (w k : Nat) (f h : Nat → Rat) (hw : w ≤ 200) (hk : k < w) (ht : bl gt = some ⟨3, rqs w f⟩) (hr : bl gr = some ⟨3, rqs w h⟩) (hne : gt ≠ gr) (h0t : 0 ≤ gt) (h0r : 0 ≤ gr)
    (hf : ∀ c, c < w → fits (f c)) (hh : ∀ c, c < w → fits (h c)) (hm : ∀ c, c < w → fits (f k * h c)) (hs : ∀ c, c < w → fits (f c - f k * h c))
    (hK : ∀ b', (∀ x y, bl x = some y → x ≠ gt → b' x = some y) → b' gt = some ⟨3, rqs w fun c => f c - f k * h c⟩ → K (.tup []) b') :
    CallP Tryz.prog 253 [.lsl gt 3 0 w, .lsl gr 3 0 w, .int .i64 k] bl K := by
  have kw : (k : Int) < w := by omega
  refine callP_of Tryz.func253 rfl rfl (by rw [Tryz.ntmps253]; simp) ?_
  rw [Tryz.ntmps253, Tryz.results253]
  refine AW_runA ?_
  simp [ht, kw, hk, RT.c]
  intro g6 hg6 hb6
  have n6t : ¬ g6 = gt := fun e => by rw [e, ht] at hb6; cases hb6
  have n6r : ¬ g6 = gr := fun e => by rw [e, hr] at hb6; cases hb6
  refine AW_frzAt 1 6 (.ptr (ro (some (f k))).c) bl (by intro z b hz; simp only [upd_apply] at hz ⊢; grind) (by simp [frz, dropB, hb6, V.cl, RT.c]) ?_
  have hsg := RatSign_at (hf k hk)
  refine AW_seq ?_
  have l3 : ∀ q : Rat, (rq q).c.length = 3 := fun _ => rfl
  have t3 : ∀ q : Rat, (rq q).c.take 3 = (rq q).c := fun _ => rfl
  refine AW_run ?_
  simp [l3, t3]
  refine callP_ro hsg ?_
  simp
  refine ⟨fun h0 => ?_, fun h0 => ?_⟩
  · rw [retK_ret]
    refine ⟨[], by simp, hK bl (fun x y hx _ => hx) ?_⟩
    rw [ht, rqs_congr (g := fun c => f c - f k * h c) fun c _ => by simp only [h0]; grind]
  have lN := l04Neg_ro (some (f k)) (okS (hf k hk))
  have okN : fits (-f k) := by
    have := okQ_neg (okS (hf k hk)) (-f k) rfl
    exact this
  refine AW_runA ?_
  simp [l3, t3]
  refine callP_ro (r := .agg (ro (some (-f k))).c) lN ?_
  simp [RT.c]
  intro g7 hg7 hb7
  refine AW_frzAt 1 7 (.ptr (ro (some (-f k))).c) bl (by intro z b hz; simp only [upd_apply] at hz ⊢; grind) (by simp [frz, dropB, hb7, V.cl, RT.c]) ?_
  refine AW_run ?_
  simp
  refine AW_for (fun j : Nat => [(0, .lsl gt 3 0 w), (1, .lsl gr 3 0 w), (7, .ptr (ro (some (-f k))).c), (19, .int .i64 w), (20, .int .i64 j)]) (fun j => upd bl gt (some ⟨3, rqs w fun c => if c < j then f c - f k * h c else f c⟩)) (fun j => j ≤ w) (fun j => w - j) _ 0 (Nat.zero_le _) ⟨rfl, by simp, sub_eq (by funext x; simp only [upd_apply]; split; rename_i e; rw [e, ht]; simp; rfl)⟩ ?_
  intro j hj
  have wj : IntKind.i64.wrap ((j : Int) + 1) = (j : Int) + 1 := i64_in (by omega) (by omega)
  refine AW_runA ?_
  simp
  refine AW_runA ?_
  simp
  refine ⟨fun hjw => ?_, fun hjw => ?_⟩
  · have hjw' : (j : Int) < w := by omega
    refine AW_seq (AW_block ?_)
    refine AW_runA ?_
    simp
    refine AW_runA ?_
    simp [hne, Ne.symm hne, hr, hjw, hjw', l3, t3]
    refine callP_ro (RatSign_at (hh j hjw)) ?_
    simp
    have hset : (rqs w fun c => if c < j then f c - f k * h c else f c).set j (ro (some (f j - f k * h j))).c = rqs w fun c => if c < j + 1 then f c - f k * h c else f c := by
      rw [rqs_set _ _ hjw]
      exact rqs_congr fun c _ => by
        by_cases e : c = j
        · subst e; rw [if_pos rfl, if_pos (by omega)]
        · rw [if_neg e]
          by_cases e2 : c < j
          · rw [if_pos e2, if_pos (by omega)]
          · rw [if_neg e2, if_neg (by omega)]
    by_cases hz : h j = 0
    · have hs0 : (rqs w fun c => if c < j then f c - f k * h c else f c) = rqs w fun c => if c < j + 1 then f c - f k * h c else f c := rqs_congr fun c _ => by
        by_cases e : c = j
        · subst e; rw [if_neg (by omega), if_pos (by omega), hz]; grind
        · by_cases e2 : c < j
          · rw [if_pos e2, if_pos (by omega)]
          · rw [if_neg e2, if_neg (by omega)]
      refine AW_run ?_
      simp [hz]
      refine AW_run ?_
      simp [wj, loopQ_normal]
      refine ⟨j + 1, by omega, by omega, rfl, by simp, sub_eq ?_⟩
      rw [hs0]
    · refine AW_run ?_
      simp [hz]
      have lM := l04Mul_ro (some (-f k)) (some (h j)) (okS okN) (okS (hh j hjw))
      have eM : op2 (· * ·) (some (-f k)) (some (h j)) = some (-(f k * h j)) := by
        rw [show -(f k * h j) = -f k * h j by grind]
        refine op2_fit ?_
        rw [show -f k * h j = -(f k * h j) by grind]
        exact okQ_neg (okS (hm j hjw)) _ rfl
      rw [eM] at lM
      have lA := l04Add_ro (some (f j)) (some (-(f k * h j))) (okS (hf j hjw)) (okS (okQ_neg (okS (hm j hjw)) _ rfl))
      have eA : op2 (· + ·) (some (f j)) (some (-(f k * h j))) = some (f j - f k * h j) := by
        rw [show f j - f k * h j = f j + -(f k * h j) by grind]
        refine op2_fit ?_
        rw [show f j + -(f k * h j) = f j - f k * h j by grind]
        exact hs j hjw
      rw [eA] at lA
      refine AW_mixedT mixedO [0, 1, 2, 3, 4, 5, 6, 7, 8, 9, 10, 11, 12, 13] 1 14 (by kernel_rfl) ?_
      simp [hne, Ne.symm hne, hr, hjw, hjw', l3, t3]
      refine hcQ_ro lM ?_
      simp [hne, Ne.symm hne, hr, hjw, hjw', l3, t3]
      refine hcQ_ro lA ?_
      simp [hjw, hjw']
      refine DAny_last (i := 14) (by kernel_rfl) rfl rfl rfl ?_
      generalize f j - f k * h j = y at hset
      simp [hjw, hjw', RT.c]
      refine DAny_done (by kernel_rfl) ?_
      simp
      refine AW_run ?_
      simp [wj, loopQ_normal]
      refine ⟨j + 1, by omega, by omega, rfl, by simp [RT.c], ?_⟩
      rw [← hset]
      intro z b hz
      simp only [upd_apply, RT.c, ro_some] at hz ⊢
      grind
  · have hjw2 : j = w := by omega
    subst hjw2
    rw [retK_normal]
    refine ⟨[], by simp, hK _ (fun x y hx hx2 => by simp only; rw [upd_ne _ _ _ _ hx2]; exact hx) ?_⟩
    simp only
    rw [upd_same, rqs_congr fun c hc => by rw [if_pos hc]]
end Go.Proofs.YticmgmemnpcbbaaGreat.Vm

namespace Go.Proofs.YticmgmemnpcbbaaGreat.Vm
open Go Go.RowKit Go.Proofs
set_option linter.unusedSimpArgs false
set_option linter.unusedVariables false

def zpv (Z : Nat → Nat → Rat) (r k : Nat) : Nat → Nat → Rat := fun i c => if i = r then Z r c / Z r k else Z i c - Z i k * (Z r c / Z r k)
def cpv (Z : Nat → Nat → Rat) (co : Nat → Rat) (r k : Nat) : Nat → Rat := fun c => co c - co k * (Z r c / Z r k)
def pvS (bs : Nat → Nat) (r k : Nat) : Nat → Nat := fun i => if i = r then k else bs i
def zAt (Z : Nat → Nat → Rat) (r k i : Nat) : Nat → Nat → Rat := fun a c => if a = r then Z r c / Z r k else if a < i then zpv Z r k a c else Z a c
/-- All numbers of a tableau are tame. -/
structure Tame (t : SN) : Prop where
  z : ∀ i c, i < t.r → c < t.w → tame (t.Z i c)
  co : ∀ c, c < t.w → tame (t.co c)
  w : t.w ≤ 200
  r : t.r ≤ 100
structure LoopP where
  i : Nat
  b : Int → Option Blk
theorem l10Pivot_cp {bl : Int → Option Blk} {K : V → (Int → Option Blk) → Prop} (g : SG) (t : SN) (r k : Nat) (hT : SS bl g t) (hr : r < t.r) (hk : k < t.w) (ht : Tame t) (hp : t.Z r k ≠ 0) (ht' : Tame ⟨t.r, t.w, t.n, zpv t.Z r k, cpv t.Z t.co r k, pvS t.bs r k⟩)
    (hK : ∀ b', SS b' g ⟨t.r, t.w, t.n, zpv t.Z r k, cpv t.Z t.co r k, pvS t.bs r k⟩ → (∀ x y, bl x = some y → x ∉ g.all → b' x = some y) → K (.tup []) b') :
    CallP Tryz.prog 250 [.loc g.T 4 0 0, .int .i64 r, .int .i64 k] bl K := by
  obtain ⟨gT, gR, gB, gC, ids⟩ := g
  obtain ⟨R, w, n, Z, co, bs⟩ := t
  simp only at hr hk hp
  have hw := ht.w
  have hR := ht.r
  simp only at hw hR
  have hrR : (r : Int) < R := by omega
  have hkw : (k : Int) < w := by omega
  have bT : bl gT = _ := hT.hd
  have bG : bl gR = _ := hT.top
  have bB : bl gB = _ := hT.ba
  have bC : bl gC = _ := hT.cst
  have hil := hT.len
  simp only at bT bG bB bC hil
  obtain ⟨gr, hgr, hgrm, hgr0, hgrb⟩ := hT.at r hr
  simp only at hgr hgrm hgrb
  have hgj : ∀ h, ids[r]'h = gr := fun h => by rw [List.getElem?_eq_getElem h] at hgr; exact Option.some.inj hgr
  have l3 : ∀ q : Rat, (rq q).c.length = 3 := fun _ => rfl
  have t3 : ∀ q : Rat, (rq q).c.take 3 = (rq q).c := fun _ => rfl
  have nd := hT.nd
  simp only [SG.all, List.nodup_cons, List.mem_cons, not_or] at nd
  obtain ⟨⟨nTR, nTB, nTC, nTi⟩, ⟨nRB, nRC, nRi⟩, ⟨nBC, nBi⟩, nCi, nds⟩ := nd
  have rT : ¬ gT = gr := fun e => nTi (e ▸ hgrm)
  have rR : ¬ gR = gr := fun e => nRi (e ▸ hgrm)
  refine callP_of Tryz.func250 rfl rfl (by rw [Tryz.ntmps250]; simp) ?_
  rw [Tryz.ntmps250, Tryz.results250]
  refine AW_runA ?_
  simp [bT, bG, hr, hrR, hk, hkw, hil, hgj, hgrb, RT.c]
  intro g6 hg6 hb6
  refine AW_frzAt 1 6 (.ptr (ro (some (Z r k))).c) bl (by intro z b hz; simp only [upd_apply] at hz ⊢; grind) (by simp [frz, dropB, hb6, V.cl, RT.c]) ?_
  refine AW_seq ?_
  refine AW_run ?_
  simp [bT, bG, hr, hrR, hil, hgj]
  refine AW_for (fun j : Nat => [(0, .loc gT 4 0 0), (1, .int .i64 r), (2, .int .i64 k), (6, .ptr (ro (some (Z r k))).c), (26, .int .i64 w), (27, .int .i64 j)]) (fun j => upd bl gr (some ⟨3, rqs w fun c => if c < j then Z r c / Z r k else Z r c⟩)) (fun j => j ≤ w) (fun j => w - j) _ 0 (Nat.zero_le _) ⟨rfl, by simp, sub_eq (by funext x; simp only [upd_apply]; split; rename_i e; rw [e, hgrb]; simp; rfl)⟩ ?_
  intro j hj
  have wj : IntKind.i64.wrap ((j : Int) + 1) = (j : Int) + 1 := i64_in (by omega) (by omega)
  refine AW_runA ?_
  simp
  refine AW_runA ?_
  simp
  refine ⟨fun hjw => ?_, fun hjw => ?_⟩
  · have hjw' : (j : Int) < w := by omega
    refine AW_seq (AW_block ?_)
    refine AW_runA ?_
    simp
    have lD := RatDiv_at (Z r j) (Z r k) (tame_fits (ht.z r j hr hjw)) (tame_fits (ht.z r k hr hk)) hp
    have hq : fits (Z r j / Z r k) := tame_div (ht.z r j hr hjw) (ht.z r k hr hk) hp
    have eD : fit (Z r j / Z r k) = some (Z r j / Z r k) := by simp [fit, hq]
    rw [eD] at lD
    have hset : (rqs w fun c => if c < j then Z r c / Z r k else Z r c).set j (ro (some (Z r j / Z r k))).c = rqs w fun c => if c < j + 1 then Z r c / Z r k else Z r c := by
      rw [rqs_set _ _ hjw]
      exact rqs_congr fun c _ => by
        by_cases e : c = j
        · subst e; rw [if_pos rfl, if_pos (by omega)]
        · rw [if_neg e]
          by_cases e2 : c < j
          · rw [if_pos e2, if_pos (by omega)]
          · rw [if_neg e2, if_neg (by omega)]
    refine AW_mixedT mixedO [0, 1, 2, 3, 4, 5, 6, 7, 8, 9, 10, 11, 12, 13, 14, 15, 16, 17, 18, 19, 20] 1 21 (by kernel_rfl) ?_
    simp [rT, Ne.symm rT, rR, Ne.symm rR, bT, bG, hr, hrR, hil, hgj, hjw, hjw', l3, t3]
    refine hcQ_ro lD ?_
    simp [hjw, hjw']
    refine DAny_last (i := 21) (by kernel_rfl) rfl rfl rfl ?_
    generalize Z r j / Z r k = y at hset
    simp [hjw, hjw', RT.c]
    refine DAny_done (by kernel_rfl) ?_
    simp
    refine AW_run ?_
    simp [wj, loopQ_normal]
    refine ⟨j + 1, by omega, by omega, rfl, by simp [RT.c], ?_⟩
    rw [← hset]
    intro z b hz
    simp only [upd_apply, RT.c, ro_some] at hz ⊢
    grind
  have hjw2 : j = w := by omega
  subst hjw2
  have hrow : (rqs j fun c => if c < j then Z r c / Z r k else Z r c) = rqs j (zAt Z r k 0 r) := rqs_congr fun c hc => by rw [if_pos hc]; unfold zAt; rw [if_pos rfl]
  rw [hrow]
  have hS0 : SS (upd bl gr (some ⟨3, rqs j (zAt Z r k 0 r)⟩)) ⟨gT, gR, gB, gC, ids⟩ ⟨R, j, n, zAt Z r k 0, co, bs⟩ := hT.put (i := r) hgr (zAt Z r k 0) fun a c ha _ => by unfold zAt; rw [if_neg ha, if_neg (by omega)]
  refine AW_seq ?_
  refine AW_run ?_
  simp [rT, Ne.symm rT, bT, rR, Ne.symm rR, bG]
  refine AW_for (fun s : LoopP => [(0, .loc gT 4 0 0), (1, .int .i64 r), (2, .int .i64 k), (56, .int .i64 R), (57, .int .i64 s.i)]) (fun s => s.b) (fun s => s.i ≤ R ∧ SS s.b ⟨gT, gR, gB, gC, ids⟩ ⟨R, j, n, zAt Z r k s.i, co, bs⟩ ∧ ∀ x y, bl x = some y → x ∉ SG.all ⟨gT, gR, gB, gC, ids⟩ → s.b x = some y) (fun s => R - s.i) _ ⟨0, upd bl gr (some ⟨3, rqs j (zAt Z r k 0 r)⟩)⟩ ⟨Nat.zero_le _, hS0, fun x y hx hn => by simp only; rw [upd_ne _ _ _ _ (fun e => hn (by rw [e]; simp [SG.all, hgrm]))]; exact hx⟩ ⟨rfl, by simp, Sub.refl _⟩ ?_
  rintro ⟨i, b⟩ ⟨hi, hS, hfb⟩
  simp only at hi hS hfb
  have wi : IntKind.i64.wrap ((i : Int) + 1) = (i : Int) + 1 := i64_in (by omega) (by omega)
  have cT : b gT = _ := hS.hd
  have cG : b gR = _ := hS.top
  have cB : b gB = _ := hS.ba
  have cC : b gC = _ := hS.cst
  simp only at cT cG cB cC
  have hgrb2 := hS.row r gr hgr
  simp only at hgrb2
  have hrow2 : rqs j (zAt Z r k i r) = rqs j fun c => Z r c / Z r k := rqs_congr fun c _ => by unfold zAt; rw [if_pos rfl]
  rw [hrow2] at hgrb2
  have hzr : ∀ c, c < j → fits (Z r c / Z r k) := fun c hc => tame_div (ht.z r c hr hc) (ht.z r k hr hk) hp
  have hzt : ∀ c, c < j → tame (Z r c / Z r k) := fun c hc => by
    have := ht'.z r c hr hc
    simp only [zpv, if_true] at this
    exact this
  refine AW_runA ?_
  simp
  refine AW_runA ?_
  simp
  refine ⟨fun hiR => ?_, fun hiR => ?_⟩
  · have hiR' : (i : Int) < R := by omega
    refine AW_seq (AW_block ?_)
    refine AW_runA ?_
    simp
    refine AW_runA ?_
    simp
    by_cases hir : i = r
    · have hz : zAt Z r k (i + 1) = zAt Z r k i := by
        funext a c
        unfold zAt
        by_cases e : a = r
        · rw [if_pos e, if_pos e]
        · rw [if_neg e, if_neg e]
          by_cases e2 : a < i
          · rw [if_pos e2, if_pos (by omega)]
          · rw [if_neg e2, if_neg (by omega)]
      refine AW_run ?_
      have wi2 := wi
      have hS' := hS
      rw [hir] at wi2 hz hS'
      simp [hir]
      refine AW_run ?_
      simp [wi2, loopQ_normal]
      refine ⟨⟨r + 1, b⟩, ⟨by simp only; omega, by simp only; rw [hz]; exact hS', hfb⟩, by simp only; omega, rfl, by simp, Sub.refl _⟩
    · have hir' : ¬ (i : Int) = r := by omega
      refine AW_run ?_
      simp [hir, hir']
      obtain ⟨gi, hgi, hgim, hgi0, hgib⟩ := hS.at i hiR
      simp only at hgi hgim hgib
      have hgij : ∀ h, ids[i]'h = gi := fun h => by rw [List.getElem?_eq_getElem h] at hgi; exact Option.some.inj hgi
      have hzi : rqs j (zAt Z r k i i) = rqs j (Z i) := rqs_congr fun c _ => by unfold zAt; rw [if_neg hir, if_neg (by omega)]
      rw [hzi] at hgib
      have hne : gi ≠ gr := fun e => hir (hS.inj (i := i) (j := r) (by rw [hgi, e]) hgr)
      have iT : ¬ gT = gi := fun e => nTi (e ▸ hgim)
      have iR : ¬ gR = gi := fun e => nRi (e ▸ hgim)
      refine AW_mixedB mixedO (rem b gi) (sub_remS b gi) [0, 1, 2, 3, 4, 5, 6, 7, 8, 9, 10, 11, 12, 13, 14] 1 (by kernel_rfl) ?_
      simp [iT, iR, cT, cG, hr, hrR, hil, hgj, hiR, hiR', hgij]
      refine DAny_one (i := 15) (by kernel_rfl) rfl rfl ?_
      simp
      refine l10Clear_cp gi gr j k (Z i) (fun c => Z r c / Z r k) hw hk hgib hgrb2 hne hgi0 hgr0 (fun c hc => tame_fits (ht.z i c hiR hc)) hzr (fun c hc => tame_mul (ht.z i k hiR hk) (hzt c hc)) (fun c hc => ?_) fun b' hx hb' => ?_
      · have := ht'.z i c hiR hc
        simp only [zpv, if_neg hir] at this
        exact tame_fits this
      simp
      refine ⟨fun z y hz => ?_, DAny_done (by kernel_rfl) ?_⟩
      · rw [rem_apply] at hz
        split at hz
        · cases hz
        · exact hx z y hz (by assumption)
      simp
      refine AW_run ?_
      simp [wi, loopQ_normal]
      refine ⟨⟨i + 1, b'⟩, ⟨by simp only; omega, ?_, fun x y h1 h2 => hx x y (hfb x y h1 h2) fun e => h2 (by rw [e]; simp [SG.all, hgim])⟩, by simp only; omega, rfl, by simp, Sub.refl _⟩
      have hput := hS.put (i := i) hgi (zAt Z r k (i + 1)) fun a c ha _ => by
        simp only [zAt]
        by_cases e : a = r
        · rw [if_pos e, if_pos e]
        · rw [if_neg e, if_neg e]
          by_cases e2 : a < i
          · rw [if_pos e2, if_pos (by omega)]
          · rw [if_neg e2, if_neg (by omega)]
      refine hput.keep fun x y hx1 hy => ?_
      by_cases e : x = gi
      · subst e
        rw [upd_same] at hy
        cases hy
        simp only
        rw [hb']
        congr 2
        exact rqs_congr fun c _ => by unfold zAt zpv; rw [if_neg hir, if_pos (by omega), if_neg hir]
      · rw [upd_ne _ _ _ _ e] at hy
        exact hx x y hy e
  have hie : i = R := by omega
  subst hie
  have hzall : SS b ⟨gT, gR, gB, gC, ids⟩ ⟨i, j, n, zpv Z r k, co, bs⟩ := ⟨hS.len, hS.top, fun a x ha => by
    rw [hS.row a x ha]
    have hai : a < i := by rw [← hil]; exact (List.getElem?_eq_some_iff.1 ha).1
    simp only
    congr 2
    exact rqs_congr fun c _ => by
      unfold zAt
      by_cases e : a = r
      · rw [if_pos e]; unfold zpv; rw [if_pos e]
      · rw [if_neg e, if_pos hai], hS.pos, hS.hd, hS.ba, hS.cst, hS.pT, hS.pR, hS.pB, hS.pC, hS.nd⟩
  have cTr : ¬ gT = gC := nTC
  have cCr : gC ≠ gr := fun e => nCi (by rw [e]; exact hgrm)
  refine AW_runA ?_
  refine AW_mixedB mixedO (rem b gC) (sub_remS b gC) [0, 1, 2, 3, 4, 5, 6, 7, 8, 9, 10, 11] 1 (by kernel_rfl) ?_
  simp [nTC, nRC, cT, cG, hr, hrR, hil, hgj]
  refine DAny_one (i := 12) (by kernel_rfl) rfl rfl ?_
  simp
  refine l10Clear_cp gC gr j k co (fun c => Z r c / Z r k) hw hk cC hgrb2 cCr hS.pC hgr0 (fun c hc => tame_fits (ht.co c hc)) hzr (fun c hc => tame_mul (ht.co k hk) (hzt c hc)) (fun c hc => tame_fits (ht'.co c hc)) fun b' hx hb' => ?_
  simp
  refine ⟨fun z y hz => ?_, DAny_done (by kernel_rfl) ?_⟩
  · rw [rem_apply] at hz
    split at hz
    · cases hz
    · exact hx z y hz (by assumption)
  have hS2 : SS b' ⟨gT, gR, gB, gC, ids⟩ ⟨i, j, n, zpv Z r k, cpv Z co r k, bs⟩ := (hzall.putC (cpv Z co r k)).keep fun x y hx1 hy => by
    by_cases e : x = gC
    · subst e
      simp only at hy
      rw [upd_same] at hy
      cases hy
      rw [hb']; rfl
    · simp only at hy
      rw [upd_ne _ _ _ _ e] at hy
      exact hx x y hy e
  have dT : b' gT = _ := hS2.hd
  have dB : b' gB = _ := hS2.ba
  simp only at dT dB
  simp
  refine AW_run ?_
  have hbp : 0 ≤ gB := by
    rcases Int.lt_or_le gB 0 with e | e
    · have := hS.pB e; simp only at this; omega
    · exact e
  have hlbs : (iv (lb i bs)).set r [.int .i64 k] = iv (lb i (pvS bs r k)) := lb_set bs hr
  simp [dT, dB, hr, hrR, hlbs]
  rw [retK_normal]
  refine ⟨[], by simp, hK _ (hS2.putB (pvS bs r k)) fun x y h1 h2 => ?_⟩
  have x1 : x ≠ gB := fun e => h2 (by rw [e]; simp [SG.all])
  have x2 : x ≠ gC := fun e => h2 (by rw [e]; simp [SG.all])
  simp only
  rw [upd_ne _ _ _ _ x1]
  exact hx x y (hfb x y h1 h2) x2
end Go.Proofs.YticmgmemnpcbbaaGreat.Vm

namespace Go.Proofs.YticmgmemnpcbbaaGreat.Lp
set_option linter.unusedSimpArgs false
set_option linter.unusedVariables false

/-- A column under the objective 'minus one number'. -/
theorem rc_less_self {m : Nat} {t : Tab} {C : Nat → Rat} {j : Nat} (hj : ∀ i, i < m → t.bs i ≠ j) : rc m (wl C (j + 1)) t j = -1 := by
  unfold rc wl
  simp only
  rw [if_pos trivial, S_zero]
  · grind
  · intro i hi; rw [if_neg (hj i hi)]; grind
/-- What is known of a column while its sign is sought. -/
def Deep (m : Nat) (C : Nat → Rat) (t : Tab) (j k : Nat) (s : Int) : Prop :=
  (s = 0 ∧ ∀ q, q ≤ k → rc m (wl C q) t j = 0) ∨ (s ≠ 0 ∧ ∃ q, q ≤ k ∧ (∀ p, p < q → rc m (wl C p) t j = 0) ∧ rc m (wl C q) t j ≠ 0 ∧ s = (rc m (wl C q) t j).num.sign)
theorem num_pos {q : Rat} : 0 < q.num ↔ 0 < q := by
  have h1 := Rat.num_nonneg (q := q)
  have h2 := Rat.num_eq_zero (q := q)
  constructor
  · intro h
    have h3 := h1.1 (by omega)
    have h4 : q ≠ 0 := fun e => by rw [e] at h; exact absurd h (by decide)
    grind
  · intro h
    have h3 := h1.2 (by grind)
    have h4 : q.num ≠ 0 := fun e => by have := h2.1 e; grind
    omega
theorem sign_pos {q : Rat} : 0 < q.num.sign ↔ 0 < q := by
  rw [← num_pos]
  rcases Int.lt_trichotomy q.num 0 with h | h | h
  · rw [Int.sign_eq_neg_one_of_neg h]; omega
  · rw [h]; decide
  · rw [Int.sign_eq_one_of_pos h]; omega
theorem sign_zero {q : Rat} : q.num.sign = 0 ↔ q = 0 := by
  rw [Int.sign_eq_zero_iff_zero]
  exact Rat.num_eq_zero
theorem Deep.start (m : Nat) (C : Nat → Rat) (t : Tab) (j : Nat) : Deep m C t j 0 (rc m C t j).num.sign := by
  by_cases h : rc m C t j = 0
  · refine .inl ⟨sign_zero.2 h, fun q hq => ?_⟩
    rw [show q = 0 by omega]; exact h
  · exact .inr ⟨fun e => h (sign_zero.1 e), 0, Nat.le_refl _, fun p hp => by omega, h, rfl⟩
theorem Deep.next {m : Nat} {C : Nat → Rat} {t : Tab} {j k : Nat} (h : Deep m C t j k 0) {s : Int} (hs : s = (rc m (wl C (k + 1)) t j).num.sign) : Deep m C t j (k + 1) s := by
  rcases h with ⟨_, h⟩ | ⟨h, _⟩
  · by_cases e : rc m (wl C (k + 1)) t j = 0
    · refine .inl ⟨by rw [hs]; exact sign_zero.2 e, fun q hq => ?_⟩
      by_cases e2 : q = k + 1
      · rw [e2]; exact e
      · exact h q (by omega)
    · exact .inr ⟨fun e2 => e (sign_zero.1 (hs ▸ e2)), k + 1, Nat.le_refl _, fun p hp => h p (by omega), e, hs⟩
  · exact absurd rfl h
theorem Deep.mono {m : Nat} {C : Nat → Rat} {t : Tab} {j k k' : Nat} {s : Int} (h : Deep m C t j k s) (hs : s ≠ 0) (hk : k ≤ k') : Deep m C t j k' s := by
  rcases h with ⟨h, _⟩ | ⟨h, q, h1, h2⟩
  · exact absurd h hs
  · exact .inr ⟨h, q, by omega, h2⟩
theorem Deep.own {m n : Nat} {C : Nat → Rat} {t : Tab} {j : Nat} (h : Deep m C t j j 0) (hj : ∀ i, i < m → t.bs i ≠ j) : ¬ lpos (n + 1) fun q => rc m (wl C q) t j := by
  rintro ⟨q, q1, q2, q3⟩
  rcases h with ⟨_, h⟩ | ⟨h, _⟩
  · have h5 := rc_less_self (C := C) hj
    rcases Nat.lt_trichotomy q (j + 1) with g | g | g
    · simp only at q2; rw [h q (by omega)] at q2; exact absurd q2 (by decide)
    · subst g; simp only at q2; rw [h5] at q2; exact absurd q2 (by decide)
    · have := q3 (j + 1) g
      simp only at this
      rw [h5] at this; exact absurd this (by decide)
  · exact h rfl
/-- The sign that is sought. -/
noncomputable def deepS (m : Nat) (C : Nat → Rat) (t : Tab) (j n : Nat) : Int := match fstP (fun q => rc m (wl C q) t j ≠ 0) (n + 1) with
  | some q => (rc m (wl C q) t j).num.sign
  | none => 0
theorem deepS_deep (m : Nat) (C : Nat → Rat) (t : Tab) (j n : Nat) : Deep m C t j n (deepS m C t j n) := by
  unfold deepS
  cases h : fstP (fun q => rc m (wl C q) t j ≠ 0) (n + 1) with
  | none =>
    have h1 := fstP_none.1 h
    exact .inl ⟨rfl, fun q hq => Classical.not_not.1 (h1 q (by omega))⟩
  | some q =>
    obtain ⟨h1, h2, h3⟩ := fstP_some.1 h
    exact .inr ⟨fun e => h2 (sign_zero.1 e), q, by omega, fun p hp => Classical.not_not.1 (h3 p hp), h2, rfl⟩
theorem Deep.uniq {m : Nat} {C : Nat → Rat} {t : Tab} {j n : Nat} {s s' : Int} (h : Deep m C t j n s) (h' : Deep m C t j n s') : s = s' := by
  rcases h with ⟨rfl, h⟩ | ⟨h, q, h1, h2, h3, h4⟩ <;> rcases h' with ⟨rfl, g⟩ | ⟨g, p, g1, g2, g3, g4⟩
  · rfl
  · exact absurd (h p g1) g3
  · exact absurd (g q h1) h3
  · have : p = q := by
      rcases Nat.lt_trichotomy p q with x | x | x
      · exact absurd (h2 p x) g3
      · exact x
      · exact absurd (g2 q x) h3
    subst this
    rw [h4, g4]
theorem Deep.eq {m : Nat} {C : Nat → Rat} {t : Tab} {j n : Nat} {s : Int} (h : Deep m C t j n s) : deepS m C t j n = s := (deepS_deep m C t j n).uniq h
end Go.Proofs.YticmgmemnpcbbaaGreat.Lp

namespace Go.Proofs.YticmgmemnpcbbaaGreat.Vm
open Go Go.RowKit Go.Proofs
set_option linter.unusedSimpArgs false
set_option linter.unusedVariables false

def basic (r : Nat) (bs : Nat → Nat) (j : Nat) : Prop := ∃ p, p < r ∧ bs p = j
instance (r : Nat) (bs : Nat → Nat) (j : Nat) : Decidable (basic r bs j) := by unfold basic; infer_instance
theorem l10Basic_ro (t : SN) (j : Nat) (hr : t.r ≤ 100) : RO Tryz.prog 247 [.ptr t.c, .int .i64 j] (.bool (decide (basic t.r t.bs j))) := by
  obtain ⟨R, w, n, Z, co, bs⟩ := t
  simp only at hr
  refine ro_of2 Tryz.func247 rfl rfl (by rw [Tryz.ntmps247]; simp) fun bl => ?_
  rw [Tryz.ntmps247, Tryz.results247]
  refine AW_run ?_
  simp [SN.c]
  refine AW_for (fun i : Nat => [(1, .int .i64 j), (10, .sl (iv (lb R bs))), (11, .int .i64 R), (12, .int .i64 i)]) (fun _ => bl) (fun i => i ≤ R ∧ ∀ p, p < i → bs p ≠ j) (fun i => R - i) _ 0 ⟨Nat.zero_le _, fun p hp => by omega⟩ ⟨rfl, by simp, Sub.refl _⟩ ?_
  rintro i ⟨hi, hall⟩
  have wi : IntKind.i64.wrap ((i : Int) + 1) = (i : Int) + 1 := i64_in (by omega) (by omega)
  refine AW_run ?_
  simp
  refine ⟨fun hiR => ?_, fun hiR => ?_⟩
  · simp [hiR]
    refine ⟨fun hb => ?_, fun hb => ?_⟩
    · have hd : basic R bs j := ⟨i, hiR, by omega⟩
      exact retRO0 (by simp [hd]) rfl rfl
    · simp [wi, loopQ_normal]
      refine ⟨i + 1, ⟨by omega, fun p hp => ?_⟩, by omega, rfl, by simp, Sub.refl _⟩
      by_cases e : p = i
      · rw [e]; omega
      · exact hall p (by omega)
  · have : ¬ basic R bs j := fun ⟨p, hp, e⟩ => hall p (by omega) e
    exact retRO0 (by simp [this]) rfl rfl
/-- The sign of a column on the objective alone. -/
theorem l10Sign_flat (t : SN) (j : Nat) (hj : j < t.w) (hf : fits (t.co j)) : RO Tryz.prog 248 [.ptr t.c, .int .i64 j, .bool false] (.int .i64 (t.co j).num.sign) := by
  obtain ⟨R, w, n, Z, co, bs⟩ := t
  simp only at hj hf
  have hjw : (j : Int) < w := by omega
  have l3 : ∀ q : Rat, (rq q).c.length = 3 := fun _ => rfl
  have t3 : ∀ q : Rat, (rq q).c.take 3 = (rq q).c := fun _ => rfl
  refine ro_of2 Tryz.func248 rfl rfl (by rw [Tryz.ntmps248]; simp) fun bl => ?_
  rw [Tryz.ntmps248, Tryz.results248]
  refine AW_run ?_
  simp [SN.c, hj, hjw, l3, t3]
  refine callP_ro (RatSign_at hf) ?_
  simp
  obtain ⟨s, hs⟩ : ∃ s, (co j).num.sign = s := ⟨_, rfl⟩
  rw [hs]
  refine AW_for (fun _ : Unit => [(0, .ptr [.int .i64 n, .sl (rrs R w Z), .sl (iv (lb R bs)), .sl (rqs w co)]), (1, .int .i64 j), (2, .bool false), (7, .int .i64 s), (8, .int .i64 0)]) (fun _ => bl) (fun _ => True) (fun _ => 0) _ () trivial ⟨rfl, by simp, Sub.refl _⟩ ?_
  rintro ⟨⟩ -
  refine AW_seq (AW_seq ?_)
  refine AW_way0 [(0, .ptr [.int .i64 n, .sl (rrs R w Z), .sl (iv (lb R bs)), .sl (rqs w co)]), (1, .int .i64 j), (2, .bool false), (7, .int .i64 s), (8, .int .i64 0)] _ bl 31 (.bool false) ⟨rfl, by simp, Sub.refl _⟩ rfl ?_ ?_
  · simp
  simp
  refine AW_run ?_
  simp
  exact retRO0 (by simp) rfl rfl
/-- What a view of a tableau is. -/
structure View (m b : Nat) (E : Nat → Nat → Rat) (T : Lp.Tab) (rows : List Nat) (t : SN) : Prop where
  ti : Lp.TI m E T
  rr : Rows m rows
  len : t.r = rows.length
  bs : ∀ p, p < t.r → t.bs p = T.bs (atR rows p)
  nl : t.n ≤ 100
  rl : t.r ≤ 100
  nw : t.w = t.n + 1
  wl : t.w ≤ 200
  dead : ∀ i, i < m → i ∉ rows → t.n ≤ T.bs i
  z : ∀ p j, p < t.r → j < t.n → t.Z p j = T.X (atR rows p) j
  zb : ∀ p, p < t.r → t.Z p t.n = T.X (atR rows p) b
  tm : Tame t
structure LoopD where
  k : Nat
  s : Int
end Go.Proofs.YticmgmemnpcbbaaGreat.Vm
