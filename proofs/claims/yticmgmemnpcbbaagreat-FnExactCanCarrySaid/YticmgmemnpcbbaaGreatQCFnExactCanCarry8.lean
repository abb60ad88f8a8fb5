/- The force program of the program. -/


import Derived.Test.YticmgmemnpcbbaaGreatQCFnExactCanCarry7

namespace Go.Proofs.YticmgmemnpcbbaaGreat.Vm
open Go Go.Proofs
set_option linter.unusedSimpArgs false
set_option linter.unusedVariables false

theorem flat_at {n : Nat} : ∀ (rs : List (List Int)), (∀ r, r ∈ rs → r.length = n) → ∀ (i k : Nat) (hi : i < rs.length), k < n → lat rs.flatten (i * n + k) = lat rs[i] k
  | [], _, i, k, hi, _ => by simp at hi
  | r :: rs, h, 0, k, hi, hk => by
    have := h r List.mem_cons_self
    simp [lat, List.flatten_cons, List.getElem?_append_left (show k < r.length by omega)]
  | r :: rs, h, i + 1, k, hi, hk => by
    have hr := h r List.mem_cons_self
    have ih := flat_at rs (fun r hr => h r (List.mem_cons_of_mem _ hr)) i k (by simpa using hi) hk
    have e : (i + 1) * n + k = r.length + (i * n + k) := by rw [hr, Nat.add_mul]; omega
    rw [List.flatten_cons, e]
    simp only [lat, List.getD_eq_getElem?_getD] at ih ⊢
    rw [List.getElem?_append_right (by omega), Nat.add_sub_cancel_left, ih]; rfl
theorem rowsF_flat (s : Str) : rowsF s = (eqRows s).flatten := by
  unfold rowsF eqRows
  induction frees s.js with
  | nil => rfl
  | cons j js ih => simp [ih]
theorem eqRows_len (s : Str) : ∀ r, r ∈ eqRows s → r.length = s.ms.length := by
  intro r hr
  unfold eqRows at hr
  obtain ⟨j, _, hr⟩ := List.mem_flatMap.1 hr
  simp at hr
  rcases hr with rfl | rfl <;> simp
theorem aTo_at (s : Str) (n m : Nat) (h : m < n) : (iv (aTo s n))[m]'(by simpa using h) = [.int .i64 (ent s (m / nC s) (m % nC s))] := by simp [aTo]
theorem right_length (s : Str) (l : List Int) : (right s l).length = nR s := by
  have e : right s l = rightTo s l (frees s.js).length := by simp [right, rightTo]
  rw [e, rightTo_length s l _ (Nat.le_refl _)]; rfl
theorem right_at (s : Str) (l : List Int) : ∀ (fs : List Int) (i : Nat) (h : i < fs.length), lat (fs.flatMap fun j => [-lat l (2 * j).toNat, -lat l (2 * j + 1).toNat]) (2 * i) = -lat l (2 * fs[i]).toNat ∧ lat (fs.flatMap fun j => [-lat l (2 * j).toNat, -lat l (2 * j + 1).toNat]) (2 * i + 1) = -lat l (2 * fs[i] + 1).toNat
  | [], i, h => by simp at h
  | f :: fs, 0, _ => by simp [lat]
  | f :: fs, i + 1, h => by
    have ih := right_at s l fs i (by simpa using h)
    have e1 : 2 * (i + 1) = (2 * i) + 1 + 1 := by omega
    have e2 : 2 * (i + 1) + 1 = (2 * i + 1) + 1 + 1 := by omega
    rw [e2, e1]
    simpa [lat] using ih

theorem equilibrium_ro (s : Str) (hs : SOk s) : RO Tryz.prog 148 [.ptr s.c] (.sl (ivv (eqRows s))) := by
  have := ro_of_nw 2 (equilibrium_nw s hs) (dII_dep _)
  rwa [dII_fz] at this

def dPg (p : Pg) : D := .a [.c (.int .i64 p.rows), .c (.int .i64 p.cols), fl 1 (iv p.a), fl 1 (iv p.b), fl 1 (iv p.c)]

structure ABC where
  a : Int
  b : Int
  c : Int
structure abcOk (bl : Int → Option Blk) (gr gp : Int) (p : ABC) : Prop where
  a0 : 0 ≤ p.a
  b0 : 0 ≤ p.b
  c0 : 0 ≤ p.c
  ba : ¬p.b = p.a
  ca : ¬p.c = p.a
  cb : ¬p.c = p.b
  ar : ¬p.a = gr
  ap : ¬p.a = gp
  br : ¬p.b = gr
  bp : ¬p.b = gp
  cr : ¬p.c = gr
  cp : ¬p.c = gp
  fa : bl p.a = none
  fb : bl p.b = none
  fc : bl p.c = none

set_option maxHeartbeats 4000000 in
theorem forceProgram_nw (s : Str) (l : List Int) (hL : LOk s l) : NW Tryz.prog 72 [.ptr s.c, .sl (iv l), .int .i64 0, .int .i64 0] (dPg (fprog s l)) := by
  have hs := hL.sok
  have h6 := hs.nj
  have h8 := hs.nm
  have hfr := freesTo_le s.js s.js.length
  change (frees s.js).length ≤ s.js.length at hfr
  have hcn : nC s ≤ 2 * s.ms.length := colsTo_le s.ms s.ms.length
  have hrn : nR s ≤ 12 := by unfold nR; omega
  have er : (eqRows s).length = nR s := by
    have e : eqRows s = eqTo s (frees s.js).length := by simp [eqTo, eqRows]
    rw [e, eqTo_length s _ (Nat.le_refl _)]; rfl
  have ec : (cols s.ms).length = nC s := rfl
  refine nw_of Tryz.func72 rfl rfl (by rw [Tryz.ntmps72]; simp) fun bl => ?_
  rw [Tryz.ntmps72, Tryz.results72]
  refine AW_runA ?_
  simp
  intro gr hgr0 hbr
  refine AW_runA ?_
  simp
  refine callP_ro (equilibrium_ro s hs) ?_
  simp
  refine callP_ro (columns_ro s (by omega)) ?_
  simp
  refine AW_runA ?_
  have w1 : IntKind.i64.wrap (nR s : Int) = nR s := i64_in (by omega) (by omega)
  have w2 : IntKind.i64.wrap (nC s : Int) = nC s := i64_in (by omega) (by omega)
  simp [er, ec, w1, w2]
  intro gp hgp0 hpr hbp
  obtain ⟨nA, hA⟩ : ∃ n : Nat, n = nR s * nC s := ⟨_, rfl⟩
  have hA2 : nA ≤ 12 * 16 := by rw [hA]; exact Nat.mul_le_mul (by omega) (by omega)
  have w3 : IntKind.i64.wrap ((nR s : Int) * nC s) = nA := by
    rw [hA]
    have : ((nR s * nC s : Nat) : Int) = nR s * nC s := by simp
    rw [← this]
    exact i64_in (by omega) (by omega)
  let S : ABC → List (Nat × V) := fun _ => [(0, .ptr s.c), (1, .sl (iv l)), (8, .loc gr 5 0 0), (9, .sl (ivv (eqRows s))), (10, .sl (cv (cols s.ms))), (11, .loc gp 5 0 0)]
  let B : ABC → Int → Option Blk := fun p => upd (upd (upd (upd (upd bl gr (some ⟨5, [[.int .i64 0, .int .i64 0, .nils, .nils, .nils]]⟩)) gp (some ⟨5, [[.int .i64 (nR s), .int .i64 (nC s), .lsl p.a 1 0 nA, .lsl p.b 1 0 (nR s), .lsl p.c 1 0 (nC s)]]⟩)) p.a (some ⟨1, List.replicate nA [.int .i64 0]⟩)) p.b (some ⟨1, List.replicate (nR s) [.int .i64 0]⟩)) p.c (some ⟨1, List.replicate (nC s) [.int .i64 0]⟩)
  have leaf : ∀ (n : Nat) (σ : St) (ga gb gc : Int), 0 ≤ ga → 0 ≤ gb → 0 ≤ gc → ¬gb = ga → ¬gc = ga → ¬gc = gb → ¬ga = gr → ¬ga = gp → ¬gb = gr → ¬gb = gp → ¬gc = gr → ¬gc = gp → bl ga = none → bl gb = none → bl gc = none → σ.n = n → (∀ p, p ∈ S ⟨ga, gb, gc⟩ → σ.sl p.1 = p.2) → Sub (B ⟨ga, gb, gc⟩) σ.bl →
      ∃ a, abcOk bl gr gp a ∧ Fit (S a) n (B a) σ := fun n σ ga gb gc h1 h2 h3 h4 h5 h6 h7 h8 h9 h10 h11 h12 h13 h14 h15 h16 h17 h18 => ⟨⟨ga, gb, gc⟩, ⟨h1, h2, h3, h4, h5, h6, h7, h8, h9, h10, h11, h12, h13, h14, h15⟩, h16, h17, h18⟩
  refine AW_mid S B (abcOk bl gr gp) 113 ?_ ?_
  · refine AW_mixedL mixedO _ (Sub.refl _) [0, 1, 2, 3, 4, 6, 7, 9, 10] 9 12 (by kernel_rfl) ?_
    simp [w3]
    refine DL_three (i := 5) (j := 8) (m := 11) false false false (by kernel_rfl) rfl rfl (by kernel_rfl) rfl rfl (by kernel_rfl) rfl rfl (by kernel_rfl) ?_ ?_ ?_
    · simp [hpr, Ne.symm hpr, hbr, hbp]
      refine ⟨by omega, by unfold maxLen; omega, ?_⟩
      intro ga hga
      intros
      have n_ga_gr : ¬ga = gr := by assumption
      have n_ga_gp : ¬ga = gp := by assumption
      have hb_ga : bl ga = none := by assumption
      refine ⟨by simp [hpr, Ne.symm hpr, n_ga_gr, Ne.symm n_ga_gr, n_ga_gp, Ne.symm n_ga_gp, hbr, hbp, hb_ga], ?_⟩
      refine DL_three (i := 8) (j := 11) (m := 12) false false true (by kernel_rfl) rfl rfl (by kernel_rfl) rfl rfl (by kernel_rfl) rfl rfl (by kernel_rfl) ?_ ?_ ?_
      · simp [hpr, Ne.symm hpr, n_ga_gr, Ne.symm n_ga_gr, n_ga_gp, Ne.symm n_ga_gp, hbr, hbp, hb_ga]
        refine ⟨by omega, by unfold maxLen; omega, ?_⟩
        intro gb hgb
        intros
        have n_gb_gr : ¬gb = gr := by assumption
        have n_gb_gp : ¬gb = gp := by assumption
        have n_gb_ga : ¬gb = ga := by assumption
        have hb_gb : bl gb = none := by assumption
        refine ⟨by simp [hpr, Ne.symm hpr, n_ga_gr, Ne.symm n_ga_gr, n_ga_gp, Ne.symm n_ga_gp, n_gb_gr, Ne.symm n_gb_gr, n_gb_gp, Ne.symm n_gb_gp, n_gb_ga, Ne.symm n_gb_ga, hbr, hbp, hb_ga, hb_gb], ?_⟩
        refine DL_two (i := 11) (j := 12) false true (by kernel_rfl) rfl rfl (by kernel_rfl) rfl rfl (by kernel_rfl) ?_ ?_
        · simp [hpr, Ne.symm hpr, n_ga_gr, Ne.symm n_ga_gr, n_ga_gp, Ne.symm n_ga_gp, n_gb_gr, Ne.symm n_gb_gr, n_gb_gp, Ne.symm n_gb_gp, n_gb_ga, Ne.symm n_gb_ga, hbr, hbp, hb_ga, hb_gb]
          refine ⟨by omega, by unfold maxLen; omega, ?_⟩
          intro gc hgc
          intros
          have n_gc_gr : ¬gc = gr := by assumption
          have n_gc_gp : ¬gc = gp := by assumption
          have n_gc_ga : ¬gc = ga := by assumption
          have n_gc_gb : ¬gc = gb := by assumption
          have hb_gc : bl gc = none := by assumption
          refine ⟨by simp [hpr, Ne.symm hpr, n_ga_gr, Ne.symm n_ga_gr, n_ga_gp, Ne.symm n_ga_gp, n_gb_gr, Ne.symm n_gb_gr, n_gb_gp, Ne.symm n_gb_gp, n_gb_ga, Ne.symm n_gb_ga, n_gc_gr, Ne.symm n_gc_gr, n_gc_gp, Ne.symm n_gc_gp, n_gc_ga, Ne.symm n_gc_ga, n_gc_gb, Ne.symm n_gc_gb, hbr, hbp, hb_ga, hb_gb, hb_gc], ?_⟩
          refine DL_one (i := 12) true (by kernel_rfl) rfl rfl (by kernel_rfl) ?_
          simp [hpr, Ne.symm hpr, n_ga_gr, Ne.symm n_ga_gr, n_ga_gp, Ne.symm n_ga_gp, n_gb_gr, Ne.symm n_gb_gr, n_gb_gp, Ne.symm n_gb_gp, n_gb_ga, Ne.symm n_gb_ga, n_gc_gr, Ne.symm n_gc_gr, n_gc_gp, Ne.symm n_gc_gp, n_gc_ga, Ne.symm n_gc_ga, n_gc_gb, Ne.symm n_gc_gb, hbr, hbp, hb_ga, hb_gb, hb_gc]
          refine DL_one (i := 13) true (by kernel_rfl) rfl rfl (by kernel_rfl) ?_
          simp [hpr, Ne.symm hpr, n_ga_gr, Ne.symm n_ga_gr, n_ga_gp, Ne.symm n_ga_gp, n_gb_gr, Ne.symm n_gb_gr, n_gb_gp, Ne.symm n_gb_gp, n_gb_ga, Ne.symm n_gb_ga, n_gc_gr, Ne.symm n_gc_gr, n_gc_gp, Ne.symm n_gc_gp, n_gc_ga, Ne.symm n_gc_ga, n_gc_gb, Ne.symm n_gc_gb, hbr, hbp, hb_ga, hb_gb, hb_gc]
          refine DL_one (i := 14) true (by kernel_rfl) rfl rfl (by kernel_rfl) ?_
          simp [hpr, Ne.symm hpr, n_ga_gr, Ne.symm n_ga_gr, n_ga_gp, Ne.symm n_ga_gp, n_gb_gr, Ne.symm n_gb_gr, n_gb_gp, Ne.symm n_gb_gp, n_gb_ga, Ne.symm n_gb_ga, n_gc_gr, Ne.symm n_gc_gr, n_gc_gp, Ne.symm n_gc_gp, n_gc_ga, Ne.symm n_gc_ga, n_gc_gb, Ne.symm n_gc_gb, hbr, hbp, hb_ga, hb_gb, hb_gc]
          refine DL_one (i := 15) true (by kernel_rfl) rfl rfl (by kernel_rfl) ?_
          simp [hpr, Ne.symm hpr, n_ga_gr, Ne.symm n_ga_gr, n_ga_gp, Ne.symm n_ga_gp, n_gb_gr, Ne.symm n_gb_gr, n_gb_gp, Ne.symm n_gb_gp, n_gb_ga, Ne.symm n_gb_ga, n_gc_gr, Ne.symm n_gc_gr, n_gc_gp, Ne.symm n_gc_gp, n_gc_ga, Ne.symm n_gc_ga, n_gc_gb, Ne.symm n_gc_gb, hbr, hbp, hb_ga, hb_gb, hb_gc]
          refine DL_one (i := 16) true (by kernel_rfl) rfl rfl (by kernel_rfl) ?_
          simp [hpr, Ne.symm hpr, n_ga_gr, Ne.symm n_ga_gr, n_ga_gp, Ne.symm n_ga_gp, n_gb_gr, Ne.symm n_gb_gr, n_gb_gp, Ne.symm n_gb_gp, n_gb_ga, Ne.symm n_gb_ga, n_gc_gr, Ne.symm n_gc_gr, n_gc_gp, Ne.symm n_gc_gp, n_gc_ga, Ne.symm n_gc_ga, n_gc_gb, Ne.symm n_gc_gb, hbr, hbp, hb_ga, hb_gb, hb_gc]
          refine DL_one (i := 17) true (by kernel_rfl) rfl rfl (by kernel_rfl) ?_
          simp [hpr, Ne.symm hpr, n_ga_gr, Ne.symm n_ga_gr, n_ga_gp, Ne.symm n_ga_gp, n_gb_gr, Ne.symm n_gb_gr, n_gb_gp, Ne.symm n_gb_gp, n_gb_ga, Ne.symm n_gb_ga, n_gc_gr, Ne.symm n_gc_gr, n_gc_gp, Ne.symm n_gc_gp, n_gc_ga, Ne.symm n_gc_ga, n_gc_gb, Ne.symm n_gc_gb, hbr, hbp, hb_ga, hb_gb, hb_gc]
          refine DL_done (by kernel_rfl) ?_
          rw [midQ_normal]
          exact leaf _ _ ga gb gc hga hgb hgc (by first | exact n_gb_ga | exact Ne.symm n_ga_gb) (by first | exact n_gc_ga | exact Ne.symm n_ga_gc) (by first | exact n_gc_gb | exact Ne.symm n_gb_gc) n_ga_gr n_ga_gp n_gb_gr n_gb_gp n_gc_gr n_gc_gp hb_ga hb_gb hb_gc rfl (by simp [S]) (by intro x y hx; simp only [B, upd_apply] at hx ⊢; grind)
        · simp [hpr, Ne.symm hpr, n_ga_gr, Ne.symm n_ga_gr, n_ga_gp, Ne.symm n_ga_gp, n_gb_gr, Ne.symm n_gb_gr, n_gb_gp, Ne.symm n_gb_gp, n_gb_ga, Ne.symm n_gb_ga, hbr, hbp, hb_ga, hb_gb]
          refine DL_two (i := 11) (j := 13) true true (by kernel_rfl) rfl rfl (by kernel_rfl) rfl rfl (by kernel_rfl) ?_ ?_
          · simp [hpr, Ne.symm hpr, n_ga_gr, Ne.symm n_ga_gr, n_ga_gp, Ne.symm n_ga_gp, n_gb_gr, Ne.symm n_gb_gr, n_gb_gp, Ne.symm n_gb_gp, n_gb_ga, Ne.symm n_gb_ga, hbr, hbp, hb_ga, hb_gb]
            refine ⟨by omega, by unfold maxLen; omega, ?_⟩
            intro gc hgc
            intros
            have n_gc_gr : ¬gc = gr := by assumption
            have n_gc_gp : ¬gc = gp := by assumption
            have n_gc_ga : ¬gc = ga := by assumption
            have n_gc_gb : ¬gc = gb := by assumption
            have hb_gc : bl gc = none := by assumption
            refine DL_one (i := 13) true (by kernel_rfl) rfl rfl (by kernel_rfl) ?_
            simp [hpr, Ne.symm hpr, n_ga_gr, Ne.symm n_ga_gr, n_ga_gp, Ne.symm n_ga_gp, n_gb_gr, Ne.symm n_gb_gr, n_gb_gp, Ne.symm n_gb_gp, n_gb_ga, Ne.symm n_gb_ga, n_gc_gr, Ne.symm n_gc_gr, n_gc_gp, Ne.symm n_gc_gp, n_gc_ga, Ne.symm n_gc_ga, n_gc_gb, Ne.symm n_gc_gb, hbr, hbp, hb_ga, hb_gb, hb_gc]
            refine DL_one (i := 14) true (by kernel_rfl) rfl rfl (by kernel_rfl) ?_
            simp [hpr, Ne.symm hpr, n_ga_gr, Ne.symm n_ga_gr, n_ga_gp, Ne.symm n_ga_gp, n_gb_gr, Ne.symm n_gb_gr, n_gb_gp, Ne.symm n_gb_gp, n_gb_ga, Ne.symm n_gb_ga, n_gc_gr, Ne.symm n_gc_gr, n_gc_gp, Ne.symm n_gc_gp, n_gc_ga, Ne.symm n_gc_ga, n_gc_gb, Ne.symm n_gc_gb, hbr, hbp, hb_ga, hb_gb, hb_gc]
            refine DL_one (i := 15) true (by kernel_rfl) rfl rfl (by kernel_rfl) ?_
            simp [hpr, Ne.symm hpr, n_ga_gr, Ne.symm n_ga_gr, n_ga_gp, Ne.symm n_ga_gp, n_gb_gr, Ne.symm n_gb_gr, n_gb_gp, Ne.symm n_gb_gp, n_gb_ga, Ne.symm n_gb_ga, n_gc_gr, Ne.symm n_gc_gr, n_gc_gp, Ne.symm n_gc_gp, n_gc_ga, Ne.symm n_gc_ga, n_gc_gb, Ne.symm n_gc_gb, hbr, hbp, hb_ga, hb_gb, hb_gc]
            refine DL_one (i := 16) true (by kernel_rfl) rfl rfl (by kernel_rfl) ?_
            simp [hpr, Ne.symm hpr, n_ga_gr, Ne.symm n_ga_gr, n_ga_gp, Ne.symm n_ga_gp, n_gb_gr, Ne.symm n_gb_gr, n_gb_gp, Ne.symm n_gb_gp, n_gb_ga, Ne.symm n_gb_ga, n_gc_gr, Ne.symm n_gc_gr, n_gc_gp, Ne.symm n_gc_gp, n_gc_ga, Ne.symm n_gc_ga, n_gc_gb, Ne.symm n_gc_gb, hbr, hbp, hb_ga, hb_gb, hb_gc]
            refine DL_one (i := 17) true (by kernel_rfl) rfl rfl (by kernel_rfl) ?_
            simp [hpr, Ne.symm hpr, n_ga_gr, Ne.symm n_ga_gr, n_ga_gp, Ne.symm n_ga_gp, n_gb_gr, Ne.symm n_gb_gr, n_gb_gp, Ne.symm n_gb_gp, n_gb_ga, Ne.symm n_gb_ga, n_gc_gr, Ne.symm n_gc_gr, n_gc_gp, Ne.symm n_gc_gp, n_gc_ga, Ne.symm n_gc_ga, n_gc_gb, Ne.symm n_gc_gb, hbr, hbp, hb_ga, hb_gb, hb_gc]
            refine DL_done (by kernel_rfl) ?_
            rw [midQ_normal]
            exact leaf _ _ ga gb gc hga hgb hgc (by first | exact n_gb_ga | exact Ne.symm n_ga_gb) (by first | exact n_gc_ga | exact Ne.symm n_ga_gc) (by first | exact n_gc_gb | exact Ne.symm n_gb_gc) n_ga_gr n_ga_gp n_gb_gr n_gb_gp n_gc_gr n_gc_gp hb_ga hb_gb hb_gc rfl (by simp [S]) (by intro x y hx; simp only [B, upd_apply] at hx ⊢; grind)
          · simp [hpr, Ne.symm hpr, n_ga_gr, Ne.symm n_ga_gr, n_ga_gp, Ne.symm n_ga_gp, n_gb_gr, Ne.symm n_gb_gr, n_gb_gp, Ne.symm n_gb_gp, n_gb_ga, Ne.symm n_gb_ga, hbr, hbp, hb_ga, hb_gb]
            refine DL_two (i := 11) (j := 14) true true (by kernel_rfl) rfl rfl (by kernel_rfl) rfl rfl (by kernel_rfl) ?_ ?_
            · simp [hpr, Ne.symm hpr, n_ga_gr, Ne.symm n_ga_gr, n_ga_gp, Ne.symm n_ga_gp, n_gb_gr, Ne.symm n_gb_gr, n_gb_gp, Ne.symm n_gb_gp, n_gb_ga, Ne.symm n_gb_ga, hbr, hbp, hb_ga, hb_gb]
              refine ⟨by omega, by unfold maxLen; omega, ?_⟩
              intro gc hgc
              intros
              have n_gc_gr : ¬gc = gr := by assumption
              have n_gc_gp : ¬gc = gp := by assumption
              have n_gc_ga : ¬gc = ga := by assumption
              have n_gc_gb : ¬gc = gb := by assumption
              have hb_gc : bl gc = none := by assumption
              refine DL_one (i := 14) true (by kernel_rfl) rfl rfl (by kernel_rfl) ?_
              simp [hpr, Ne.symm hpr, n_ga_gr, Ne.symm n_ga_gr, n_ga_gp, Ne.symm n_ga_gp, n_gb_gr, Ne.symm n_gb_gr, n_gb_gp, Ne.symm n_gb_gp, n_gb_ga, Ne.symm n_gb_ga, n_gc_gr, Ne.symm n_gc_gr, n_gc_gp, Ne.symm n_gc_gp, n_gc_ga, Ne.symm n_gc_ga, n_gc_gb, Ne.symm n_gc_gb, hbr, hbp, hb_ga, hb_gb, hb_gc]
              refine DL_one (i := 15) true (by kernel_rfl) rfl rfl (by kernel_rfl) ?_
              simp [hpr, Ne.symm hpr, n_ga_gr, Ne.symm n_ga_gr, n_ga_gp, Ne.symm n_ga_gp, n_gb_gr, Ne.symm n_gb_gr, n_gb_gp, Ne.symm n_gb_gp, n_gb_ga, Ne.symm n_gb_ga, n_gc_gr, Ne.symm n_gc_gr, n_gc_gp, Ne.symm n_gc_gp, n_gc_ga, Ne.symm n_gc_ga, n_gc_gb, Ne.symm n_gc_gb, hbr, hbp, hb_ga, hb_gb, hb_gc]
              refine DL_one (i := 16) true (by kernel_rfl) rfl rfl (by kernel_rfl) ?_
              simp [hpr, Ne.symm hpr, n_ga_gr, Ne.symm n_ga_gr, n_ga_gp, Ne.symm n_ga_gp, n_gb_gr, Ne.symm n_gb_gr, n_gb_gp, Ne.symm n_gb_gp, n_gb_ga, Ne.symm n_gb_ga, n_gc_gr, Ne.symm n_gc_gr, n_gc_gp, Ne.symm n_gc_gp, n_gc_ga, Ne.symm n_gc_ga, n_gc_gb, Ne.symm n_gc_gb, hbr, hbp, hb_ga, hb_gb, hb_gc]
              refine DL_one (i := 17) true (by kernel_rfl) rfl rfl (by kernel_rfl) ?_
              simp [hpr, Ne.symm hpr, n_ga_gr, Ne.symm n_ga_gr, n_ga_gp, Ne.symm n_ga_gp, n_gb_gr, Ne.symm n_gb_gr, n_gb_gp, Ne.symm n_gb_gp, n_gb_ga, Ne.symm n_gb_ga, n_gc_gr, Ne.symm n_gc_gr, n_gc_gp, Ne.symm n_gc_gp, n_gc_ga, Ne.symm n_gc_ga, n_gc_gb, Ne.symm n_gc_gb, hbr, hbp, hb_ga, hb_gb, hb_gc]
              refine DL_done (by kernel_rfl) ?_
              rw [midQ_normal]
              exact leaf _ _ ga gb gc hga hgb hgc (by first | exact n_gb_ga | exact Ne.symm n_ga_gb) (by first | exact n_gc_ga | exact Ne.symm n_ga_gc) (by first | exact n_gc_gb | exact Ne.symm n_gb_gc) n_ga_gr n_ga_gp n_gb_gr n_gb_gp n_gc_gr n_gc_gp hb_ga hb_gb hb_gc rfl (by simp [S]) (by intro x y hx; simp only [B, upd_apply] at hx ⊢; grind)
            · simp [hpr, Ne.symm hpr, n_ga_gr, Ne.symm n_ga_gr, n_ga_gp, Ne.symm n_ga_gp, n_gb_gr, Ne.symm n_gb_gr, n_gb_gp, Ne.symm n_gb_gp, n_gb_ga, Ne.symm n_gb_ga, hbr, hbp, hb_ga, hb_gb]
              refine DL_two (i := 11) (j := 15) true true (by kernel_rfl) rfl rfl (by kernel_rfl) rfl rfl (by kernel_rfl) ?_ ?_
              · simp [hpr, Ne.symm hpr, n_ga_gr, Ne.symm n_ga_gr, n_ga_gp, Ne.symm n_ga_gp, n_gb_gr, Ne.symm n_gb_gr, n_gb_gp, Ne.symm n_gb_gp, n_gb_ga, Ne.symm n_gb_ga, hbr, hbp, hb_ga, hb_gb]
                refine ⟨by omega, by unfold maxLen; omega, ?_⟩
                intro gc hgc
                intros
                have n_gc_gr : ¬gc = gr := by assumption
                have n_gc_gp : ¬gc = gp := by assumption
                have n_gc_ga : ¬gc = ga := by assumption
                have n_gc_gb : ¬gc = gb := by assumption
                have hb_gc : bl gc = none := by assumption
                refine DL_one (i := 15) true (by kernel_rfl) rfl rfl (by kernel_rfl) ?_
                simp [hpr, Ne.symm hpr, n_ga_gr, Ne.symm n_ga_gr, n_ga_gp, Ne.symm n_ga_gp, n_gb_gr, Ne.symm n_gb_gr, n_gb_gp, Ne.symm n_gb_gp, n_gb_ga, Ne.symm n_gb_ga, n_gc_gr, Ne.symm n_gc_gr, n_gc_gp, Ne.symm n_gc_gp, n_gc_ga, Ne.symm n_gc_ga, n_gc_gb, Ne.symm n_gc_gb, hbr, hbp, hb_ga, hb_gb, hb_gc]
                refine DL_one (i := 16) true (by kernel_rfl) rfl rfl (by kernel_rfl) ?_
                simp [hpr, Ne.symm hpr, n_ga_gr, Ne.symm n_ga_gr, n_ga_gp, Ne.symm n_ga_gp, n_gb_gr, Ne.symm n_gb_gr, n_gb_gp, Ne.symm n_gb_gp, n_gb_ga, Ne.symm n_gb_ga, n_gc_gr, Ne.symm n_gc_gr, n_gc_gp, Ne.symm n_gc_gp, n_gc_ga, Ne.symm n_gc_ga, n_gc_gb, Ne.symm n_gc_gb, hbr, hbp, hb_ga, hb_gb, hb_gc]
                refine DL_one (i := 17) true (by kernel_rfl) rfl rfl (by kernel_rfl) ?_
                simp [hpr, Ne.symm hpr, n_ga_gr, Ne.symm n_ga_gr, n_ga_gp, Ne.symm n_ga_gp, n_gb_gr, Ne.symm n_gb_gr, n_gb_gp, Ne.symm n_gb_gp, n_gb_ga, Ne.symm n_gb_ga, n_gc_gr, Ne.symm n_gc_gr, n_gc_gp, Ne.symm n_gc_gp, n_gc_ga, Ne.symm n_gc_ga, n_gc_gb, Ne.symm n_gc_gb, hbr, hbp, hb_ga, hb_gb, hb_gc]
                refine DL_done (by kernel_rfl) ?_
                rw [midQ_normal]
                exact leaf _ _ ga gb gc hga hgb hgc (by first | exact n_gb_ga | exact Ne.symm n_ga_gb) (by first | exact n_gc_ga | exact Ne.symm n_ga_gc) (by first | exact n_gc_gb | exact Ne.symm n_gb_gc) n_ga_gr n_ga_gp n_gb_gr n_gb_gp n_gc_gr n_gc_gp hb_ga hb_gb hb_gc rfl (by simp [S]) (by intro x y hx; simp only [B, upd_apply] at hx ⊢; grind)
              · simp [hpr, Ne.symm hpr, n_ga_gr, Ne.symm n_ga_gr, n_ga_gp, Ne.symm n_ga_gp, n_gb_gr, Ne.symm n_gb_gr, n_gb_gp, Ne.symm n_gb_gp, n_gb_ga, Ne.symm n_gb_ga, hbr, hbp, hb_ga, hb_gb]
                refine DL_one (i := 11) true (by kernel_rfl) rfl rfl (by kernel_rfl) ?_
                simp [hpr, Ne.symm hpr, n_ga_gr, Ne.symm n_ga_gr, n_ga_gp, Ne.symm n_ga_gp, n_gb_gr, Ne.symm n_gb_gr, n_gb_gp, Ne.symm n_gb_gp, n_gb_ga, Ne.symm n_gb_ga, hbr, hbp, hb_ga, hb_gb]
                refine ⟨by omega, by unfold maxLen; omega, ?_⟩
                intro gc hgc
                intros
                have n_gc_gr : ¬gc = gr := by assumption
                have n_gc_gp : ¬gc = gp := by assumption
                have n_gc_ga : ¬gc = ga := by assumption
                have n_gc_gb : ¬gc = gb := by assumption
                have hb_gc : bl gc = none := by assumption
                refine DL_one (i := 16) true (by kernel_rfl) rfl rfl (by kernel_rfl) ?_
                simp [hpr, Ne.symm hpr, n_ga_gr, Ne.symm n_ga_gr, n_ga_gp, Ne.symm n_ga_gp, n_gb_gr, Ne.symm n_gb_gr, n_gb_gp, Ne.symm n_gb_gp, n_gb_ga, Ne.symm n_gb_ga, n_gc_gr, Ne.symm n_gc_gr, n_gc_gp, Ne.symm n_gc_gp, n_gc_ga, Ne.symm n_gc_ga, n_gc_gb, Ne.symm n_gc_gb, hbr, hbp, hb_ga, hb_gb, hb_gc]
                refine DL_one (i := 17) true (by kernel_rfl) rfl rfl (by kernel_rfl) ?_
                simp [hpr, Ne.symm hpr, n_ga_gr, Ne.symm n_ga_gr, n_ga_gp, Ne.symm n_ga_gp, n_gb_gr, Ne.symm n_gb_gr, n_gb_gp, Ne.symm n_gb_gp, n_gb_ga, Ne.symm n_gb_ga, n_gc_gr, Ne.symm n_gc_gr, n_gc_gp, Ne.symm n_gc_gp, n_gc_ga, Ne.symm n_gc_ga, n_gc_gb, Ne.symm n_gc_gb, hbr, hbp, hb_ga, hb_gb, hb_gc]
                refine DL_done (by kernel_rfl) ?_
                rw [midQ_normal]
                exact leaf _ _ ga gb gc hga hgb hgc (by first | exact n_gb_ga | exact Ne.symm n_ga_gb) (by first | exact n_gc_ga | exact Ne.symm n_ga_gc) (by first | exact n_gc_gb | exact Ne.symm n_gb_gc) n_ga_gr n_ga_gp n_gb_gr n_gb_gp n_gc_gr n_gc_gp hb_ga hb_gb hb_gc rfl (by simp [S]) (by intro x y hx; simp only [B, upd_apply] at hx ⊢; grind)
      · simp [hpr, Ne.symm hpr, n_ga_gr, Ne.symm n_ga_gr, n_ga_gp, Ne.symm n_ga_gp, hbr, hbp, hb_ga]
        refine ⟨by omega, by unfold maxLen; omega, ?_⟩
        intro gc hgc
        intros
        have n_gc_gr : ¬gc = gr := by assumption
        have n_gc_gp : ¬gc = gp := by assumption
        have n_gc_ga : ¬gc = ga := by assumption
        have hb_gc : bl gc = none := by assumption
        refine ⟨by simp [hpr, Ne.symm hpr, n_ga_gr, Ne.symm n_ga_gr, n_ga_gp, Ne.symm n_ga_gp, n_gc_gr, Ne.symm n_gc_gr, n_gc_gp, Ne.symm n_gc_gp, n_gc_ga, Ne.symm n_gc_ga, hbr, hbp, hb_ga, hb_gc], ?_⟩
        refine DL_two (i := 8) (j := 12) false true (by kernel_rfl) rfl rfl (by kernel_rfl) rfl rfl (by kernel_rfl) ?_ ?_
        · simp [hpr, Ne.symm hpr, n_ga_gr, Ne.symm n_ga_gr, n_ga_gp, Ne.symm n_ga_gp, n_gc_gr, Ne.symm n_gc_gr, n_gc_gp, Ne.symm n_gc_gp, n_gc_ga, Ne.symm n_gc_ga, hbr, hbp, hb_ga, hb_gc]
          refine ⟨by omega, by unfold maxLen; omega, ?_⟩
          intro gb hgb
          intros
          have n_gb_gr : ¬gb = gr := by assumption
          have n_gb_gp : ¬gb = gp := by assumption
          have n_gb_ga : ¬gb = ga := by assumption
          have n_gb_gc : ¬gb = gc := by assumption
          have hb_gb : bl gb = none := by assumption
          refine ⟨by simp [hpr, Ne.symm hpr, n_ga_gr, Ne.symm n_ga_gr, n_ga_gp, Ne.symm n_ga_gp, n_gc_gr, Ne.symm n_gc_gr, n_gc_gp, Ne.symm n_gc_gp, n_gc_ga, Ne.symm n_gc_ga, n_gb_gr, Ne.symm n_gb_gr, n_gb_gp, Ne.symm n_gb_gp, n_gb_ga, Ne.symm n_gb_ga, n_gb_gc, Ne.symm n_gb_gc, hbr, hbp, hb_ga, hb_gc, hb_gb], ?_⟩
          refine DL_one (i := 12) true (by kernel_rfl) rfl rfl (by kernel_rfl) ?_
          simp [hpr, Ne.symm hpr, n_ga_gr, Ne.symm n_ga_gr, n_ga_gp, Ne.symm n_ga_gp, n_gc_gr, Ne.symm n_gc_gr, n_gc_gp, Ne.symm n_gc_gp, n_gc_ga, Ne.symm n_gc_ga, n_gb_gr, Ne.symm n_gb_gr, n_gb_gp, Ne.symm n_gb_gp, n_gb_ga, Ne.symm n_gb_ga, n_gb_gc, Ne.symm n_gb_gc, hbr, hbp, hb_ga, hb_gc, hb_gb]
          refine DL_one (i := 13) true (by kernel_rfl) rfl rfl (by kernel_rfl) ?_
          simp [hpr, Ne.symm hpr, n_ga_gr, Ne.symm n_ga_gr, n_ga_gp, Ne.symm n_ga_gp, n_gc_gr, Ne.symm n_gc_gr, n_gc_gp, Ne.symm n_gc_gp, n_gc_ga, Ne.symm n_gc_ga, n_gb_gr, Ne.symm n_gb_gr, n_gb_gp, Ne.symm n_gb_gp, n_gb_ga, Ne.symm n_gb_ga, n_gb_gc, Ne.symm n_gb_gc, hbr, hbp, hb_ga, hb_gc, hb_gb]
          refine DL_one (i := 14) true (by kernel_rfl) rfl rfl (by kernel_rfl) ?_
          simp [hpr, Ne.symm hpr, n_ga_gr, Ne.symm n_ga_gr, n_ga_gp, Ne.symm n_ga_gp, n_gc_gr, Ne.symm n_gc_gr, n_gc_gp, Ne.symm n_gc_gp, n_gc_ga, Ne.symm n_gc_ga, n_gb_gr, Ne.symm n_gb_gr, n_gb_gp, Ne.symm n_gb_gp, n_gb_ga, Ne.symm n_gb_ga, n_gb_gc, Ne.symm n_gb_gc, hbr, hbp, hb_ga, hb_gc, hb_gb]
          refine DL_one (i := 15) true (by kernel_rfl) rfl rfl (by kernel_rfl) ?_
          simp [hpr, Ne.symm hpr, n_ga_gr, Ne.symm n_ga_gr, n_ga_gp, Ne.symm n_ga_gp, n_gc_gr, Ne.symm n_gc_gr, n_gc_gp, Ne.symm n_gc_gp, n_gc_ga, Ne.symm n_gc_ga, n_gb_gr, Ne.symm n_gb_gr, n_gb_gp, Ne.symm n_gb_gp, n_gb_ga, Ne.symm n_gb_ga, n_gb_gc, Ne.symm n_gb_gc, hbr, hbp, hb_ga, hb_gc, hb_gb]
          refine DL_one (i := 16) true (by kernel_rfl) rfl rfl (by kernel_rfl) ?_
          simp [hpr, Ne.symm hpr, n_ga_gr, Ne.symm n_ga_gr, n_ga_gp, Ne.symm n_ga_gp, n_gc_gr, Ne.symm n_gc_gr, n_gc_gp, Ne.symm n_gc_gp, n_gc_ga, Ne.symm n_gc_ga, n_gb_gr, Ne.symm n_gb_gr, n_gb_gp, Ne.symm n_gb_gp, n_gb_ga, Ne.symm n_gb_ga, n_gb_gc, Ne.symm n_gb_gc, hbr, hbp, hb_ga, hb_gc, hb_gb]
          refine DL_one (i := 17) true (by kernel_rfl) rfl rfl (by kernel_rfl) ?_
          simp [hpr, Ne.symm hpr, n_ga_gr, Ne.symm n_ga_gr, n_ga_gp, Ne.symm n_ga_gp, n_gc_gr, Ne.symm n_gc_gr, n_gc_gp, Ne.symm n_gc_gp, n_gc_ga, Ne.symm n_gc_ga, n_gb_gr, Ne.symm n_gb_gr, n_gb_gp, Ne.symm n_gb_gp, n_gb_ga, Ne.symm n_gb_ga, n_gb_gc, Ne.symm n_gb_gc, hbr, hbp, hb_ga, hb_gc, hb_gb]
          refine DL_done (by kernel_rfl) ?_
          rw [midQ_normal]
          exact leaf _ _ ga gb gc hga hgb hgc (by first | exact n_gb_ga | exact Ne.symm n_ga_gb) (by first | exact n_gc_ga | exact Ne.symm n_ga_gc) (by first | exact n_gc_gb | exact Ne.symm n_gb_gc) n_ga_gr n_ga_gp n_gb_gr n_gb_gp n_gc_gr n_gc_gp hb_ga hb_gb hb_gc rfl (by simp [S]) (by intro x y hx; simp only [B, upd_apply] at hx ⊢; grind)
        · simp [hpr, Ne.symm hpr, n_ga_gr, Ne.symm n_ga_gr, n_ga_gp, Ne.symm n_ga_gp, n_gc_gr, Ne.symm n_gc_gr, n_gc_gp, Ne.symm n_gc_gp, n_gc_ga, Ne.symm n_gc_ga, hbr, hbp, hb_ga, hb_gc]
          refine DL_two (i := 8) (j := 13) true true (by kernel_rfl) rfl rfl (by kernel_rfl) rfl rfl (by kernel_rfl) ?_ ?_
          · simp [hpr, Ne.symm hpr, n_ga_gr, Ne.symm n_ga_gr, n_ga_gp, Ne.symm n_ga_gp, n_gc_gr, Ne.symm n_gc_gr, n_gc_gp, Ne.symm n_gc_gp, n_gc_ga, Ne.symm n_gc_ga, hbr, hbp, hb_ga, hb_gc]
            refine ⟨by omega, by unfold maxLen; omega, ?_⟩
            intro gb hgb
            intros
            have n_gb_gr : ¬gb = gr := by assumption
            have n_gb_gp : ¬gb = gp := by assumption
            have n_gb_ga : ¬gb = ga := by assumption
            have n_gb_gc : ¬gb = gc := by assumption
            have hb_gb : bl gb = none := by assumption
            refine DL_one (i := 13) true (by kernel_rfl) rfl rfl (by kernel_rfl) ?_
            simp [hpr, Ne.symm hpr, n_ga_gr, Ne.symm n_ga_gr, n_ga_gp, Ne.symm n_ga_gp, n_gc_gr, Ne.symm n_gc_gr, n_gc_gp, Ne.symm n_gc_gp, n_gc_ga, Ne.symm n_gc_ga, n_gb_gr, Ne.symm n_gb_gr, n_gb_gp, Ne.symm n_gb_gp, n_gb_ga, Ne.symm n_gb_ga, n_gb_gc, Ne.symm n_gb_gc, hbr, hbp, hb_ga, hb_gc, hb_gb]
            refine DL_one (i := 14) true (by kernel_rfl) rfl rfl (by kernel_rfl) ?_
            simp [hpr, Ne.symm hpr, n_ga_gr, Ne.symm n_ga_gr, n_ga_gp, Ne.symm n_ga_gp, n_gc_gr, Ne.symm n_gc_gr, n_gc_gp, Ne.symm n_gc_gp, n_gc_ga, Ne.symm n_gc_ga, n_gb_gr, Ne.symm n_gb_gr, n_gb_gp, Ne.symm n_gb_gp, n_gb_ga, Ne.symm n_gb_ga, n_gb_gc, Ne.symm n_gb_gc, hbr, hbp, hb_ga, hb_gc, hb_gb]
            refine DL_one (i := 15) true (by kernel_rfl) rfl rfl (by kernel_rfl) ?_
            simp [hpr, Ne.symm hpr, n_ga_gr, Ne.symm n_ga_gr, n_ga_gp, Ne.symm n_ga_gp, n_gc_gr, Ne.symm n_gc_gr, n_gc_gp, Ne.symm n_gc_gp, n_gc_ga, Ne.symm n_gc_ga, n_gb_gr, Ne.symm n_gb_gr, n_gb_gp, Ne.symm n_gb_gp, n_gb_ga, Ne.symm n_gb_ga, n_gb_gc, Ne.symm n_gb_gc, hbr, hbp, hb_ga, hb_gc, hb_gb]
            refine DL_one (i := 16) true (by kernel_rfl) rfl rfl (by kernel_rfl) ?_
            simp [hpr, Ne.symm hpr, n_ga_gr, Ne.symm n_ga_gr, n_ga_gp, Ne.symm n_ga_gp, n_gc_gr, Ne.symm n_gc_gr, n_gc_gp, Ne.symm n_gc_gp, n_gc_ga, Ne.symm n_gc_ga, n_gb_gr, Ne.symm n_gb_gr, n_gb_gp, Ne.symm n_gb_gp, n_gb_ga, Ne.symm n_gb_ga, n_gb_gc, Ne.symm n_gb_gc, hbr, hbp, hb_ga, hb_gc, hb_gb]
            refine DL_one (i := 17) true (by kernel_rfl) rfl rfl (by kernel_rfl) ?_
            simp [hpr, Ne.symm hpr, n_ga_gr, Ne.symm n_ga_gr, n_ga_gp, Ne.symm n_ga_gp, n_gc_gr, Ne.symm n_gc_gr, n_gc_gp, Ne.symm n_gc_gp, n_gc_ga, Ne.symm n_gc_ga, n_gb_gr, Ne.symm n_gb_gr, n_gb_gp, Ne.symm n_gb_gp, n_gb_ga, Ne.symm n_gb_ga, n_gb_gc, Ne.symm n_gb_gc, hbr, hbp, hb_ga, hb_gc, hb_gb]
            refine DL_done (by kernel_rfl) ?_
            rw [midQ_normal]
            exact leaf _ _ ga gb gc hga hgb hgc (by first | exact n_gb_ga | exact Ne.symm n_ga_gb) (by first | exact n_gc_ga | exact Ne.symm n_ga_gc) (by first | exact n_gc_gb | exact Ne.symm n_gb_gc) n_ga_gr n_ga_gp n_gb_gr n_gb_gp n_gc_gr n_gc_gp hb_ga hb_gb hb_gc rfl (by simp [S]) (by intro x y hx; simp only [B, upd_apply] at hx ⊢; grind)
          · simp [hpr, Ne.symm hpr, n_ga_gr, Ne.symm n_ga_gr, n_ga_gp, Ne.symm n_ga_gp, n_gc_gr, Ne.symm n_gc_gr, n_gc_gp, Ne.symm n_gc_gp, n_gc_ga, Ne.symm n_gc_ga, hbr, hbp, hb_ga, hb_gc]
            refine DL_one (i := 8) true (by kernel_rfl) rfl rfl (by kernel_rfl) ?_
            simp [hpr, Ne.symm hpr, n_ga_gr, Ne.symm n_ga_gr, n_ga_gp, Ne.symm n_ga_gp, n_gc_gr, Ne.symm n_gc_gr, n_gc_gp, Ne.symm n_gc_gp, n_gc_ga, Ne.symm n_gc_ga, hbr, hbp, hb_ga, hb_gc]
            refine ⟨by omega, by unfold maxLen; omega, ?_⟩
            intro gb hgb
            intros
            have n_gb_gr : ¬gb = gr := by assumption
            have n_gb_gp : ¬gb = gp := by assumption
            have n_gb_ga : ¬gb = ga := by assumption
            have n_gb_gc : ¬gb = gc := by assumption
            have hb_gb : bl gb = none := by assumption
            refine DL_one (i := 14) true (by kernel_rfl) rfl rfl (by kernel_rfl) ?_
            simp [hpr, Ne.symm hpr, n_ga_gr, Ne.symm n_ga_gr, n_ga_gp, Ne.symm n_ga_gp, n_gc_gr, Ne.symm n_gc_gr, n_gc_gp, Ne.symm n_gc_gp, n_gc_ga, Ne.symm n_gc_ga, n_gb_gr, Ne.symm n_gb_gr, n_gb_gp, Ne.symm n_gb_gp, n_gb_ga, Ne.symm n_gb_ga, n_gb_gc, Ne.symm n_gb_gc, hbr, hbp, hb_ga, hb_gc, hb_gb]
            refine DL_one (i := 15) true (by kernel_rfl) rfl rfl (by kernel_rfl) ?_
            simp [hpr, Ne.symm hpr, n_ga_gr, Ne.symm n_ga_gr, n_ga_gp, Ne.symm n_ga_gp, n_gc_gr, Ne.symm n_gc_gr, n_gc_gp, Ne.symm n_gc_gp, n_gc_ga, Ne.symm n_gc_ga, n_gb_gr, Ne.symm n_gb_gr, n_gb_gp, Ne.symm n_gb_gp, n_gb_ga, Ne.symm n_gb_ga, n_gb_gc, Ne.symm n_gb_gc, hbr, hbp, hb_ga, hb_gc, hb_gb]
            refine DL_one (i := 16) true (by kernel_rfl) rfl rfl (by kernel_rfl) ?_
            simp [hpr, Ne.symm hpr, n_ga_gr, Ne.symm n_ga_gr, n_ga_gp, Ne.symm n_ga_gp, n_gc_gr, Ne.symm n_gc_gr, n_gc_gp, Ne.symm n_gc_gp, n_gc_ga, Ne.symm n_gc_ga, n_gb_gr, Ne.symm n_gb_gr, n_gb_gp, Ne.symm n_gb_gp, n_gb_ga, Ne.symm n_gb_ga, n_gb_gc, Ne.symm n_gb_gc, hbr, hbp, hb_ga, hb_gc, hb_gb]
            refine DL_one (i := 17) true (by kernel_rfl) rfl rfl (by kernel_rfl) ?_
            simp [hpr, Ne.symm hpr, n_ga_gr, Ne.symm n_ga_gr, n_ga_gp, Ne.symm n_ga_gp, n_gc_gr, Ne.symm n_gc_gr, n_gc_gp, Ne.symm n_gc_gp, n_gc_ga, Ne.symm n_gc_ga, n_gb_gr, Ne.symm n_gb_gr, n_gb_gp, Ne.symm n_gb_gp, n_gb_ga, Ne.symm n_gb_ga, n_gb_gc, Ne.symm n_gb_gc, hbr, hbp, hb_ga, hb_gc, hb_gb]
            refine DL_done (by kernel_rfl) ?_
            rw [midQ_normal]
            exact leaf _ _ ga gb gc hga hgb hgc (by first | exact n_gb_ga | exact Ne.symm n_ga_gb) (by first | exact n_gc_ga | exact Ne.symm n_ga_gc) (by first | exact n_gc_gb | exact Ne.symm n_gb_gc) n_ga_gr n_ga_gp n_gb_gr n_gb_gp n_gc_gr n_gc_gp hb_ga hb_gb hb_gc rfl (by simp [S]) (by intro x y hx; simp only [B, upd_apply] at hx ⊢; grind)
      · simp [hpr, Ne.symm hpr, n_ga_gr, Ne.symm n_ga_gr, n_ga_gp, Ne.symm n_ga_gp, hbr, hbp, hb_ga]
        refine DL_three (i := 8) (j := 11) (m := 13) true true true (by kernel_rfl) rfl rfl (by kernel_rfl) rfl rfl (by kernel_rfl) rfl rfl (by kernel_rfl) ?_ ?_ ?_
        · simp [hpr, Ne.symm hpr, n_ga_gr, Ne.symm n_ga_gr, n_ga_gp, Ne.symm n_ga_gp, hbr, hbp, hb_ga]
          refine ⟨by omega, by unfold maxLen; omega, ?_⟩
          intro gb hgb
          intros
          have n_gb_gr : ¬gb = gr := by assumption
          have n_gb_gp : ¬gb = gp := by assumption
          have n_gb_ga : ¬gb = ga := by assumption
          have hb_gb : bl gb = none := by assumption
          refine DL_two (i := 11) (j := 13) true true (by kernel_rfl) rfl rfl (by kernel_rfl) rfl rfl (by kernel_rfl) ?_ ?_
          · simp [hpr, Ne.symm hpr, n_ga_gr, Ne.symm n_ga_gr, n_ga_gp, Ne.symm n_ga_gp, n_gb_gr, Ne.symm n_gb_gr, n_gb_gp, Ne.symm n_gb_gp, n_gb_ga, Ne.symm n_gb_ga, hbr, hbp, hb_ga, hb_gb]
            refine ⟨by omega, by unfold maxLen; omega, ?_⟩
            intro gc hgc
            intros
            have n_gc_gr : ¬gc = gr := by assumption
            have n_gc_gp : ¬gc = gp := by assumption
            have n_gc_ga : ¬gc = ga := by assumption
            have n_gc_gb : ¬gc = gb := by assumption
            have hb_gc : bl gc = none := by assumption
            refine DL_one (i := 13) true (by kernel_rfl) rfl rfl (by kernel_rfl) ?_
            simp [hpr, Ne.symm hpr, n_ga_gr, Ne.symm n_ga_gr, n_ga_gp, Ne.symm n_ga_gp, n_gb_gr, Ne.symm n_gb_gr, n_gb_gp, Ne.symm n_gb_gp, n_gb_ga, Ne.symm n_gb_ga, n_gc_gr, Ne.symm n_gc_gr, n_gc_gp, Ne.symm n_gc_gp, n_gc_ga, Ne.symm n_gc_ga, n_gc_gb, Ne.symm n_gc_gb, hbr, hbp, hb_ga, hb_gb, hb_gc]
            refine DL_one (i := 14) true (by kernel_rfl) rfl rfl (by kernel_rfl) ?_
            simp [hpr, Ne.symm hpr, n_ga_gr, Ne.symm n_ga_gr, n_ga_gp, Ne.symm n_ga_gp, n_gb_gr, Ne.symm n_gb_gr, n_gb_gp, Ne.symm n_gb_gp, n_gb_ga, Ne.symm n_gb_ga, n_gc_gr, Ne.symm n_gc_gr, n_gc_gp, Ne.symm n_gc_gp, n_gc_ga, Ne.symm n_gc_ga, n_gc_gb, Ne.symm n_gc_gb, hbr, hbp, hb_ga, hb_gb, hb_gc]
            refine DL_one (i := 15) true (by kernel_rfl) rfl rfl (by kernel_rfl) ?_
            simp [hpr, Ne.symm hpr, n_ga_gr, Ne.symm n_ga_gr, n_ga_gp, Ne.symm n_ga_gp, n_gb_gr, Ne.symm n_gb_gr, n_gb_gp, Ne.symm n_gb_gp, n_gb_ga, Ne.symm n_gb_ga, n_gc_gr, Ne.symm n_gc_gr, n_gc_gp, Ne.symm n_gc_gp, n_gc_ga, Ne.symm n_gc_ga, n_gc_gb, Ne.symm n_gc_gb, hbr, hbp, hb_ga, hb_gb, hb_gc]
            refine DL_one (i := 16) true (by kernel_rfl) rfl rfl (by kernel_rfl) ?_
            simp [hpr, Ne.symm hpr, n_ga_gr, Ne.symm n_ga_gr, n_ga_gp, Ne.symm n_ga_gp, n_gb_gr, Ne.symm n_gb_gr, n_gb_gp, Ne.symm n_gb_gp, n_gb_ga, Ne.symm n_gb_ga, n_gc_gr, Ne.symm n_gc_gr, n_gc_gp, Ne.symm n_gc_gp, n_gc_ga, Ne.symm n_gc_ga, n_gc_gb, Ne.symm n_gc_gb, hbr, hbp, hb_ga, hb_gb, hb_gc]
            refine DL_one (i := 17) true (by kernel_rfl) rfl rfl (by kernel_rfl) ?_
            simp [hpr, Ne.symm hpr, n_ga_gr, Ne.symm n_ga_gr, n_ga_gp, Ne.symm n_ga_gp, n_gb_gr, Ne.symm n_gb_gr, n_gb_gp, Ne.symm n_gb_gp, n_gb_ga, Ne.symm n_gb_ga, n_gc_gr, Ne.symm n_gc_gr, n_gc_gp, Ne.symm n_gc_gp, n_gc_ga, Ne.symm n_gc_ga, n_gc_gb, Ne.symm n_gc_gb, hbr, hbp, hb_ga, hb_gb, hb_gc]
            refine DL_done (by kernel_rfl) ?_
            rw [midQ_normal]
            exact leaf _ _ ga gb gc hga hgb hgc (by first | exact n_gb_ga | exact Ne.symm n_ga_gb) (by first | exact n_gc_ga | exact Ne.symm n_ga_gc) (by first | exact n_gc_gb | exact Ne.symm n_gb_gc) n_ga_gr n_ga_gp n_gb_gr n_gb_gp n_gc_gr n_gc_gp hb_ga hb_gb hb_gc rfl (by simp [S]) (by intro x y hx; simp only [B, upd_apply] at hx ⊢; grind)
          · simp [hpr, Ne.symm hpr, n_ga_gr, Ne.symm n_ga_gr, n_ga_gp, Ne.symm n_ga_gp, n_gb_gr, Ne.symm n_gb_gr, n_gb_gp, Ne.symm n_gb_gp, n_gb_ga, Ne.symm n_gb_ga, hbr, hbp, hb_ga, hb_gb]
            refine DL_two (i := 11) (j := 14) true true (by kernel_rfl) rfl rfl (by kernel_rfl) rfl rfl (by kernel_rfl) ?_ ?_
            · simp [hpr, Ne.symm hpr, n_ga_gr, Ne.symm n_ga_gr, n_ga_gp, Ne.symm n_ga_gp, n_gb_gr, Ne.symm n_gb_gr, n_gb_gp, Ne.symm n_gb_gp, n_gb_ga, Ne.symm n_gb_ga, hbr, hbp, hb_ga, hb_gb]
              refine ⟨by omega, by unfold maxLen; omega, ?_⟩
              intro gc hgc
              intros
              have n_gc_gr : ¬gc = gr := by assumption
              have n_gc_gp : ¬gc = gp := by assumption
              have n_gc_ga : ¬gc = ga := by assumption
              have n_gc_gb : ¬gc = gb := by assumption
              have hb_gc : bl gc = none := by assumption
              refine DL_one (i := 14) true (by kernel_rfl) rfl rfl (by kernel_rfl) ?_
              simp [hpr, Ne.symm hpr, n_ga_gr, Ne.symm n_ga_gr, n_ga_gp, Ne.symm n_ga_gp, n_gb_gr, Ne.symm n_gb_gr, n_gb_gp, Ne.symm n_gb_gp, n_gb_ga, Ne.symm n_gb_ga, n_gc_gr, Ne.symm n_gc_gr, n_gc_gp, Ne.symm n_gc_gp, n_gc_ga, Ne.symm n_gc_ga, n_gc_gb, Ne.symm n_gc_gb, hbr, hbp, hb_ga, hb_gb, hb_gc]
              refine DL_one (i := 15) true (by kernel_rfl) rfl rfl (by kernel_rfl) ?_
              simp [hpr, Ne.symm hpr, n_ga_gr, Ne.symm n_ga_gr, n_ga_gp, Ne.symm n_ga_gp, n_gb_gr, Ne.symm n_gb_gr, n_gb_gp, Ne.symm n_gb_gp, n_gb_ga, Ne.symm n_gb_ga, n_gc_gr, Ne.symm n_gc_gr, n_gc_gp, Ne.symm n_gc_gp, n_gc_ga, Ne.symm n_gc_ga, n_gc_gb, Ne.symm n_gc_gb, hbr, hbp, hb_ga, hb_gb, hb_gc]
              refine DL_one (i := 16) true (by kernel_rfl) rfl rfl (by kernel_rfl) ?_
              simp [hpr, Ne.symm hpr, n_ga_gr, Ne.symm n_ga_gr, n_ga_gp, Ne.symm n_ga_gp, n_gb_gr, Ne.symm n_gb_gr, n_gb_gp, Ne.symm n_gb_gp, n_gb_ga, Ne.symm n_gb_ga, n_gc_gr, Ne.symm n_gc_gr, n_gc_gp, Ne.symm n_gc_gp, n_gc_ga, Ne.symm n_gc_ga, n_gc_gb, Ne.symm n_gc_gb, hbr, hbp, hb_ga, hb_gb, hb_gc]
              refine DL_one (i := 17) true (by kernel_rfl) rfl rfl (by kernel_rfl) ?_
              simp [hpr, Ne.symm hpr, n_ga_gr, Ne.symm n_ga_gr, n_ga_gp, Ne.symm n_ga_gp, n_gb_gr, Ne.symm n_gb_gr, n_gb_gp, Ne.symm n_gb_gp, n_gb_ga, Ne.symm n_gb_ga, n_gc_gr, Ne.symm n_gc_gr, n_gc_gp, Ne.symm n_gc_gp, n_gc_ga, Ne.symm n_gc_ga, n_gc_gb, Ne.symm n_gc_gb, hbr, hbp, hb_ga, hb_gb, hb_gc]
              refine DL_done (by kernel_rfl) ?_
              rw [midQ_normal]
              exact leaf _ _ ga gb gc hga hgb hgc (by first | exact n_gb_ga | exact Ne.symm n_ga_gb) (by first | exact n_gc_ga | exact Ne.symm n_ga_gc) (by first | exact n_gc_gb | exact Ne.symm n_gb_gc) n_ga_gr n_ga_gp n_gb_gr n_gb_gp n_gc_gr n_gc_gp hb_ga hb_gb hb_gc rfl (by simp [S]) (by intro x y hx; simp only [B, upd_apply] at hx ⊢; grind)
            · simp [hpr, Ne.symm hpr, n_ga_gr, Ne.symm n_ga_gr, n_ga_gp, Ne.symm n_ga_gp, n_gb_gr, Ne.symm n_gb_gr, n_gb_gp, Ne.symm n_gb_gp, n_gb_ga, Ne.symm n_gb_ga, hbr, hbp, hb_ga, hb_gb]
              refine DL_two (i := 11) (j := 15) true true (by kernel_rfl) rfl rfl (by kernel_rfl) rfl rfl (by kernel_rfl) ?_ ?_
              · simp [hpr, Ne.symm hpr, n_ga_gr, Ne.symm n_ga_gr, n_ga_gp, Ne.symm n_ga_gp, n_gb_gr, Ne.symm n_gb_gr, n_gb_gp, Ne.symm n_gb_gp, n_gb_ga, Ne.symm n_gb_ga, hbr, hbp, hb_ga, hb_gb]
                refine ⟨by omega, by unfold maxLen; omega, ?_⟩
                intro gc hgc
                intros
                have n_gc_gr : ¬gc = gr := by assumption
                have n_gc_gp : ¬gc = gp := by assumption
                have n_gc_ga : ¬gc = ga := by assumption
                have n_gc_gb : ¬gc = gb := by assumption
                have hb_gc : bl gc = none := by assumption
                refine DL_one (i := 15) true (by kernel_rfl) rfl rfl (by kernel_rfl) ?_
                simp [hpr, Ne.symm hpr, n_ga_gr, Ne.symm n_ga_gr, n_ga_gp, Ne.symm n_ga_gp, n_gb_gr, Ne.symm n_gb_gr, n_gb_gp, Ne.symm n_gb_gp, n_gb_ga, Ne.symm n_gb_ga, n_gc_gr, Ne.symm n_gc_gr, n_gc_gp, Ne.symm n_gc_gp, n_gc_ga, Ne.symm n_gc_ga, n_gc_gb, Ne.symm n_gc_gb, hbr, hbp, hb_ga, hb_gb, hb_gc]
                refine DL_one (i := 16) true (by kernel_rfl) rfl rfl (by kernel_rfl) ?_
                simp [hpr, Ne.symm hpr, n_ga_gr, Ne.symm n_ga_gr, n_ga_gp, Ne.symm n_ga_gp, n_gb_gr, Ne.symm n_gb_gr, n_gb_gp, Ne.symm n_gb_gp, n_gb_ga, Ne.symm n_gb_ga, n_gc_gr, Ne.symm n_gc_gr, n_gc_gp, Ne.symm n_gc_gp, n_gc_ga, Ne.symm n_gc_ga, n_gc_gb, Ne.symm n_gc_gb, hbr, hbp, hb_ga, hb_gb, hb_gc]
                refine DL_one (i := 17) true (by kernel_rfl) rfl rfl (by kernel_rfl) ?_
                simp [hpr, Ne.symm hpr, n_ga_gr, Ne.symm n_ga_gr, n_ga_gp, Ne.symm n_ga_gp, n_gb_gr, Ne.symm n_gb_gr, n_gb_gp, Ne.symm n_gb_gp, n_gb_ga, Ne.symm n_gb_ga, n_gc_gr, Ne.symm n_gc_gr, n_gc_gp, Ne.symm n_gc_gp, n_gc_ga, Ne.symm n_gc_ga, n_gc_gb, Ne.symm n_gc_gb, hbr, hbp, hb_ga, hb_gb, hb_gc]
                refine DL_done (by kernel_rfl) ?_
                rw [midQ_normal]
                exact leaf _ _ ga gb gc hga hgb hgc (by first | exact n_gb_ga | exact Ne.symm n_ga_gb) (by first | exact n_gc_ga | exact Ne.symm n_ga_gc) (by first | exact n_gc_gb | exact Ne.symm n_gb_gc) n_ga_gr n_ga_gp n_gb_gr n_gb_gp n_gc_gr n_gc_gp hb_ga hb_gb hb_gc rfl (by simp [S]) (by intro x y hx; simp only [B, upd_apply] at hx ⊢; grind)
              · simp [hpr, Ne.symm hpr, n_ga_gr, Ne.symm n_ga_gr, n_ga_gp, Ne.symm n_ga_gp, n_gb_gr, Ne.symm n_gb_gr, n_gb_gp, Ne.symm n_gb_gp, n_gb_ga, Ne.symm n_gb_ga, hbr, hbp, hb_ga, hb_gb]
                refine DL_one (i := 11) true (by kernel_rfl) rfl rfl (by kernel_rfl) ?_
                simp [hpr, Ne.symm hpr, n_ga_gr, Ne.symm n_ga_gr, n_ga_gp, Ne.symm n_ga_gp, n_gb_gr, Ne.symm n_gb_gr, n_gb_gp, Ne.symm n_gb_gp, n_gb_ga, Ne.symm n_gb_ga, hbr, hbp, hb_ga, hb_gb]
                refine ⟨by omega, by unfold maxLen; omega, ?_⟩
                intro gc hgc
                intros
                have n_gc_gr : ¬gc = gr := by assumption
                have n_gc_gp : ¬gc = gp := by assumption
                have n_gc_ga : ¬gc = ga := by assumption
                have n_gc_gb : ¬gc = gb := by assumption
                have hb_gc : bl gc = none := by assumption
                refine DL_one (i := 16) true (by kernel_rfl) rfl rfl (by kernel_rfl) ?_
                simp [hpr, Ne.symm hpr, n_ga_gr, Ne.symm n_ga_gr, n_ga_gp, Ne.symm n_ga_gp, n_gb_gr, Ne.symm n_gb_gr, n_gb_gp, Ne.symm n_gb_gp, n_gb_ga, Ne.symm n_gb_ga, n_gc_gr, Ne.symm n_gc_gr, n_gc_gp, Ne.symm n_gc_gp, n_gc_ga, Ne.symm n_gc_ga, n_gc_gb, Ne.symm n_gc_gb, hbr, hbp, hb_ga, hb_gb, hb_gc]
                refine DL_one (i := 17) true (by kernel_rfl) rfl rfl (by kernel_rfl) ?_
                simp [hpr, Ne.symm hpr, n_ga_gr, Ne.symm n_ga_gr, n_ga_gp, Ne.symm n_ga_gp, n_gb_gr, Ne.symm n_gb_gr, n_gb_gp, Ne.symm n_gb_gp, n_gb_ga, Ne.symm n_gb_ga, n_gc_gr, Ne.symm n_gc_gr, n_gc_gp, Ne.symm n_gc_gp, n_gc_ga, Ne.symm n_gc_ga, n_gc_gb, Ne.symm n_gc_gb, hbr, hbp, hb_ga, hb_gb, hb_gc]
                refine DL_done (by kernel_rfl) ?_
                rw [midQ_normal]
                exact leaf _ _ ga gb gc hga hgb hgc (by first | exact n_gb_ga | exact Ne.symm n_ga_gb) (by first | exact n_gc_ga | exact Ne.symm n_ga_gc) (by first | exact n_gc_gb | exact Ne.symm n_gb_gc) n_ga_gr n_ga_gp n_gb_gr n_gb_gp n_gc_gr n_gc_gp hb_ga hb_gb hb_gc rfl (by simp [S]) (by intro x y hx; simp only [B, upd_apply] at hx ⊢; grind)
        · simp [hpr, Ne.symm hpr, n_ga_gr, Ne.symm n_ga_gr, n_ga_gp, Ne.symm n_ga_gp, hbr, hbp, hb_ga]
          refine ⟨by omega, by unfold maxLen; omega, ?_⟩
          intro gc hgc
          intros
          have n_gc_gr : ¬gc = gr := by assumption
          have n_gc_gp : ¬gc = gp := by assumption
          have n_gc_ga : ¬gc = ga := by assumption
          have hb_gc : bl gc = none := by assumption
          refine DL_two (i := 8) (j := 13) true true (by kernel_rfl) rfl rfl (by kernel_rfl) rfl rfl (by kernel_rfl) ?_ ?_
          · simp [hpr, Ne.symm hpr, n_ga_gr, Ne.symm n_ga_gr, n_ga_gp, Ne.symm n_ga_gp, n_gc_gr, Ne.symm n_gc_gr, n_gc_gp, Ne.symm n_gc_gp, n_gc_ga, Ne.symm n_gc_ga, hbr, hbp, hb_ga, hb_gc]
            refine ⟨by omega, by unfold maxLen; omega, ?_⟩
            intro gb hgb
            intros
            have n_gb_gr : ¬gb = gr := by assumption
            have n_gb_gp : ¬gb = gp := by assumption
            have n_gb_ga : ¬gb = ga := by assumption
            have n_gb_gc : ¬gb = gc := by assumption
            have hb_gb : bl gb = none := by assumption
            refine DL_one (i := 13) true (by kernel_rfl) rfl rfl (by kernel_rfl) ?_
            simp [hpr, Ne.symm hpr, n_ga_gr, Ne.symm n_ga_gr, n_ga_gp, Ne.symm n_ga_gp, n_gc_gr, Ne.symm n_gc_gr, n_gc_gp, Ne.symm n_gc_gp, n_gc_ga, Ne.symm n_gc_ga, n_gb_gr, Ne.symm n_gb_gr, n_gb_gp, Ne.symm n_gb_gp, n_gb_ga, Ne.symm n_gb_ga, n_gb_gc, Ne.symm n_gb_gc, hbr, hbp, hb_ga, hb_gc, hb_gb]
            refine DL_one (i := 14) true (by kernel_rfl) rfl rfl (by kernel_rfl) ?_
            simp [hpr, Ne.symm hpr, n_ga_gr, Ne.symm n_ga_gr, n_ga_gp, Ne.symm n_ga_gp, n_gc_gr, Ne.symm n_gc_gr, n_gc_gp, Ne.symm n_gc_gp, n_gc_ga, Ne.symm n_gc_ga, n_gb_gr, Ne.symm n_gb_gr, n_gb_gp, Ne.symm n_gb_gp, n_gb_ga, Ne.symm n_gb_ga, n_gb_gc, Ne.symm n_gb_gc, hbr, hbp, hb_ga, hb_gc, hb_gb]
            refine DL_one (i := 15) true (by kernel_rfl) rfl rfl (by kernel_rfl) ?_
            simp [hpr, Ne.symm hpr, n_ga_gr, Ne.symm n_ga_gr, n_ga_gp, Ne.symm n_ga_gp, n_gc_gr, Ne.symm n_gc_gr, n_gc_gp, Ne.symm n_gc_gp, n_gc_ga, Ne.symm n_gc_ga, n_gb_gr, Ne.symm n_gb_gr, n_gb_gp, Ne.symm n_gb_gp, n_gb_ga, Ne.symm n_gb_ga, n_gb_gc, Ne.symm n_gb_gc, hbr, hbp, hb_ga, hb_gc, hb_gb]
            refine DL_one (i := 16) true (by kernel_rfl) rfl rfl (by kernel_rfl) ?_
            simp [hpr, Ne.symm hpr, n_ga_gr, Ne.symm n_ga_gr, n_ga_gp, Ne.symm n_ga_gp, n_gc_gr, Ne.symm n_gc_gr, n_gc_gp, Ne.symm n_gc_gp, n_gc_ga, Ne.symm n_gc_ga, n_gb_gr, Ne.symm n_gb_gr, n_gb_gp, Ne.symm n_gb_gp, n_gb_ga, Ne.symm n_gb_ga, n_gb_gc, Ne.symm n_gb_gc, hbr, hbp, hb_ga, hb_gc, hb_gb]
            refine DL_one (i := 17) true (by kernel_rfl) rfl rfl (by kernel_rfl) ?_
            simp [hpr, Ne.symm hpr, n_ga_gr, Ne.symm n_ga_gr, n_ga_gp, Ne.symm n_ga_gp, n_gc_gr, Ne.symm n_gc_gr, n_gc_gp, Ne.symm n_gc_gp, n_gc_ga, Ne.symm n_gc_ga, n_gb_gr, Ne.symm n_gb_gr, n_gb_gp, Ne.symm n_gb_gp, n_gb_ga, Ne.symm n_gb_ga, n_gb_gc, Ne.symm n_gb_gc, hbr, hbp, hb_ga, hb_gc, hb_gb]
            refine DL_done (by kernel_rfl) ?_
            rw [midQ_normal]
            exact leaf _ _ ga gb gc hga hgb hgc (by first | exact n_gb_ga | exact Ne.symm n_ga_gb) (by first | exact n_gc_ga | exact Ne.symm n_ga_gc) (by first | exact n_gc_gb | exact Ne.symm n_gb_gc) n_ga_gr n_ga_gp n_gb_gr n_gb_gp n_gc_gr n_gc_gp hb_ga hb_gb hb_gc rfl (by simp [S]) (by intro x y hx; simp only [B, upd_apply] at hx ⊢; grind)
          · simp [hpr, Ne.symm hpr, n_ga_gr, Ne.symm n_ga_gr, n_ga_gp, Ne.symm n_ga_gp, n_gc_gr, Ne.symm n_gc_gr, n_gc_gp, Ne.symm n_gc_gp, n_gc_ga, Ne.symm n_gc_ga, hbr, hbp, hb_ga, hb_gc]
            refine DL_one (i := 8) true (by kernel_rfl) rfl rfl (by kernel_rfl) ?_
            simp [hpr, Ne.symm hpr, n_ga_gr, Ne.symm n_ga_gr, n_ga_gp, Ne.symm n_ga_gp, n_gc_gr, Ne.symm n_gc_gr, n_gc_gp, Ne.symm n_gc_gp, n_gc_ga, Ne.symm n_gc_ga, hbr, hbp, hb_ga, hb_gc]
            refine ⟨by omega, by unfold maxLen; omega, ?_⟩
            intro gb hgb
            intros
            have n_gb_gr : ¬gb = gr := by assumption
            have n_gb_gp : ¬gb = gp := by assumption
            have n_gb_ga : ¬gb = ga := by assumption
            have n_gb_gc : ¬gb = gc := by assumption
            have hb_gb : bl gb = none := by assumption
            refine DL_one (i := 14) true (by kernel_rfl) rfl rfl (by kernel_rfl) ?_
            simp [hpr, Ne.symm hpr, n_ga_gr, Ne.symm n_ga_gr, n_ga_gp, Ne.symm n_ga_gp, n_gc_gr, Ne.symm n_gc_gr, n_gc_gp, Ne.symm n_gc_gp, n_gc_ga, Ne.symm n_gc_ga, n_gb_gr, Ne.symm n_gb_gr, n_gb_gp, Ne.symm n_gb_gp, n_gb_ga, Ne.symm n_gb_ga, n_gb_gc, Ne.symm n_gb_gc, hbr, hbp, hb_ga, hb_gc, hb_gb]
            refine DL_one (i := 15) true (by kernel_rfl) rfl rfl (by kernel_rfl) ?_
            simp [hpr, Ne.symm hpr, n_ga_gr, Ne.symm n_ga_gr, n_ga_gp, Ne.symm n_ga_gp, n_gc_gr, Ne.symm n_gc_gr, n_gc_gp, Ne.symm n_gc_gp, n_gc_ga, Ne.symm n_gc_ga, n_gb_gr, Ne.symm n_gb_gr, n_gb_gp, Ne.symm n_gb_gp, n_gb_ga, Ne.symm n_gb_ga, n_gb_gc, Ne.symm n_gb_gc, hbr, hbp, hb_ga, hb_gc, hb_gb]
            refine DL_one (i := 16) true (by kernel_rfl) rfl rfl (by kernel_rfl) ?_
            simp [hpr, Ne.symm hpr, n_ga_gr, Ne.symm n_ga_gr, n_ga_gp, Ne.symm n_ga_gp, n_gc_gr, Ne.symm n_gc_gr, n_gc_gp, Ne.symm n_gc_gp, n_gc_ga, Ne.symm n_gc_ga, n_gb_gr, Ne.symm n_gb_gr, n_gb_gp, Ne.symm n_gb_gp, n_gb_ga, Ne.symm n_gb_ga, n_gb_gc, Ne.symm n_gb_gc, hbr, hbp, hb_ga, hb_gc, hb_gb]
            refine DL_one (i := 17) true (by kernel_rfl) rfl rfl (by kernel_rfl) ?_
            simp [hpr, Ne.symm hpr, n_ga_gr, Ne.symm n_ga_gr, n_ga_gp, Ne.symm n_ga_gp, n_gc_gr, Ne.symm n_gc_gr, n_gc_gp, Ne.symm n_gc_gp, n_gc_ga, Ne.symm n_gc_ga, n_gb_gr, Ne.symm n_gb_gr, n_gb_gp, Ne.symm n_gb_gp, n_gb_ga, Ne.symm n_gb_ga, n_gb_gc, Ne.symm n_gb_gc, hbr, hbp, hb_ga, hb_gc, hb_gb]
            refine DL_done (by kernel_rfl) ?_
            rw [midQ_normal]
            exact leaf _ _ ga gb gc hga hgb hgc (by first | exact n_gb_ga | exact Ne.symm n_ga_gb) (by first | exact n_gc_ga | exact Ne.symm n_ga_gc) (by first | exact n_gc_gb | exact Ne.symm n_gb_gc) n_ga_gr n_ga_gp n_gb_gr n_gb_gp n_gc_gr n_gc_gp hb_ga hb_gb hb_gc rfl (by simp [S]) (by intro x y hx; simp only [B, upd_apply] at hx ⊢; grind)
        · simp [hpr, Ne.symm hpr, n_ga_gr, Ne.symm n_ga_gr, n_ga_gp, Ne.symm n_ga_gp, hbr, hbp, hb_ga]
          refine DL_two (i := 8) (j := 11) true true (by kernel_rfl) rfl rfl (by kernel_rfl) rfl rfl (by kernel_rfl) ?_ ?_
          · simp [hpr, Ne.symm hpr, n_ga_gr, Ne.symm n_ga_gr, n_ga_gp, Ne.symm n_ga_gp, hbr, hbp, hb_ga]
            refine ⟨by omega, by unfold maxLen; omega, ?_⟩
            intro gb hgb
            intros
            have n_gb_gr : ¬gb = gr := by assumption
            have n_gb_gp : ¬gb = gp := by assumption
            have n_gb_ga : ¬gb = ga := by assumption
            have hb_gb : bl gb = none := by assumption
            refine DL_two (i := 11) (j := 14) true true (by kernel_rfl) rfl rfl (by kernel_rfl) rfl rfl (by kernel_rfl) ?_ ?_
            · simp [hpr, Ne.symm hpr, n_ga_gr, Ne.symm n_ga_gr, n_ga_gp, Ne.symm n_ga_gp, n_gb_gr, Ne.symm n_gb_gr, n_gb_gp, Ne.symm n_gb_gp, n_gb_ga, Ne.symm n_gb_ga, hbr, hbp, hb_ga, hb_gb]
              refine ⟨by omega, by unfold maxLen; omega, ?_⟩
              intro gc hgc
              intros
              have n_gc_gr : ¬gc = gr := by assumption
              have n_gc_gp : ¬gc = gp := by assumption
              have n_gc_ga : ¬gc = ga := by assumption
              have n_gc_gb : ¬gc = gb := by assumption
              have hb_gc : bl gc = none := by assumption
              refine DL_one (i := 14) true (by kernel_rfl) rfl rfl (by kernel_rfl) ?_
              simp [hpr, Ne.symm hpr, n_ga_gr, Ne.symm n_ga_gr, n_ga_gp, Ne.symm n_ga_gp, n_gb_gr, Ne.symm n_gb_gr, n_gb_gp, Ne.symm n_gb_gp, n_gb_ga, Ne.symm n_gb_ga, n_gc_gr, Ne.symm n_gc_gr, n_gc_gp, Ne.symm n_gc_gp, n_gc_ga, Ne.symm n_gc_ga, n_gc_gb, Ne.symm n_gc_gb, hbr, hbp, hb_ga, hb_gb, hb_gc]
              refine DL_one (i := 15) true (by kernel_rfl) rfl rfl (by kernel_rfl) ?_
              simp [hpr, Ne.symm hpr, n_ga_gr, Ne.symm n_ga_gr, n_ga_gp, Ne.symm n_ga_gp, n_gb_gr, Ne.symm n_gb_gr, n_gb_gp, Ne.symm n_gb_gp, n_gb_ga, Ne.symm n_gb_ga, n_gc_gr, Ne.symm n_gc_gr, n_gc_gp, Ne.symm n_gc_gp, n_gc_ga, Ne.symm n_gc_ga, n_gc_gb, Ne.symm n_gc_gb, hbr, hbp, hb_ga, hb_gb, hb_gc]
              refine DL_one (i := 16) true (by kernel_rfl) rfl rfl (by kernel_rfl) ?_
              simp [hpr, Ne.symm hpr, n_ga_gr, Ne.symm n_ga_gr, n_ga_gp, Ne.symm n_ga_gp, n_gb_gr, Ne.symm n_gb_gr, n_gb_gp, Ne.symm n_gb_gp, n_gb_ga, Ne.symm n_gb_ga, n_gc_gr, Ne.symm n_gc_gr, n_gc_gp, Ne.symm n_gc_gp, n_gc_ga, Ne.symm n_gc_ga, n_gc_gb, Ne.symm n_gc_gb, hbr, hbp, hb_ga, hb_gb, hb_gc]
              refine DL_one (i := 17) true (by kernel_rfl) rfl rfl (by kernel_rfl) ?_
              simp [hpr, Ne.symm hpr, n_ga_gr, Ne.symm n_ga_gr, n_ga_gp, Ne.symm n_ga_gp, n_gb_gr, Ne.symm n_gb_gr, n_gb_gp, Ne.symm n_gb_gp, n_gb_ga, Ne.symm n_gb_ga, n_gc_gr, Ne.symm n_gc_gr, n_gc_gp, Ne.symm n_gc_gp, n_gc_ga, Ne.symm n_gc_ga, n_gc_gb, Ne.symm n_gc_gb, hbr, hbp, hb_ga, hb_gb, hb_gc]
              refine DL_done (by kernel_rfl) ?_
              rw [midQ_normal]
              exact leaf _ _ ga gb gc hga hgb hgc (by first | exact n_gb_ga | exact Ne.symm n_ga_gb) (by first | exact n_gc_ga | exact Ne.symm n_ga_gc) (by first | exact n_gc_gb | exact Ne.symm n_gb_gc) n_ga_gr n_ga_gp n_gb_gr n_gb_gp n_gc_gr n_gc_gp hb_ga hb_gb hb_gc rfl (by simp [S]) (by intro x y hx; simp only [B, upd_apply] at hx ⊢; grind)
            · simp [hpr, Ne.symm hpr, n_ga_gr, Ne.symm n_ga_gr, n_ga_gp, Ne.symm n_ga_gp, n_gb_gr, Ne.symm n_gb_gr, n_gb_gp, Ne.symm n_gb_gp, n_gb_ga, Ne.symm n_gb_ga, hbr, hbp, hb_ga, hb_gb]
              refine DL_two (i := 11) (j := 15) true true (by kernel_rfl) rfl rfl (by kernel_rfl) rfl rfl (by kernel_rfl) ?_ ?_
              · simp [hpr, Ne.symm hpr, n_ga_gr, Ne.symm n_ga_gr, n_ga_gp, Ne.symm n_ga_gp, n_gb_gr, Ne.symm n_gb_gr, n_gb_gp, Ne.symm n_gb_gp, n_gb_ga, Ne.symm n_gb_ga, hbr, hbp, hb_ga, hb_gb]
                refine ⟨by omega, by unfold maxLen; omega, ?_⟩
                intro gc hgc
                intros
                have n_gc_gr : ¬gc = gr := by assumption
                have n_gc_gp : ¬gc = gp := by assumption
                have n_gc_ga : ¬gc = ga := by assumption
                have n_gc_gb : ¬gc = gb := by assumption
                have hb_gc : bl gc = none := by assumption
                refine DL_one (i := 15) true (by kernel_rfl) rfl rfl (by kernel_rfl) ?_
                simp [hpr, Ne.symm hpr, n_ga_gr, Ne.symm n_ga_gr, n_ga_gp, Ne.symm n_ga_gp, n_gb_gr, Ne.symm n_gb_gr, n_gb_gp, Ne.symm n_gb_gp, n_gb_ga, Ne.symm n_gb_ga, n_gc_gr, Ne.symm n_gc_gr, n_gc_gp, Ne.symm n_gc_gp, n_gc_ga, Ne.symm n_gc_ga, n_gc_gb, Ne.symm n_gc_gb, hbr, hbp, hb_ga, hb_gb, hb_gc]
                refine DL_one (i := 16) true (by kernel_rfl) rfl rfl (by kernel_rfl) ?_
                simp [hpr, Ne.symm hpr, n_ga_gr, Ne.symm n_ga_gr, n_ga_gp, Ne.symm n_ga_gp, n_gb_gr, Ne.symm n_gb_gr, n_gb_gp, Ne.symm n_gb_gp, n_gb_ga, Ne.symm n_gb_ga, n_gc_gr, Ne.symm n_gc_gr, n_gc_gp, Ne.symm n_gc_gp, n_gc_ga, Ne.symm n_gc_ga, n_gc_gb, Ne.symm n_gc_gb, hbr, hbp, hb_ga, hb_gb, hb_gc]
                refine DL_one (i := 17) true (by kernel_rfl) rfl rfl (by kernel_rfl) ?_
                simp [hpr, Ne.symm hpr, n_ga_gr, Ne.symm n_ga_gr, n_ga_gp, Ne.symm n_ga_gp, n_gb_gr, Ne.symm n_gb_gr, n_gb_gp, Ne.symm n_gb_gp, n_gb_ga, Ne.symm n_gb_ga, n_gc_gr, Ne.symm n_gc_gr, n_gc_gp, Ne.symm n_gc_gp, n_gc_ga, Ne.symm n_gc_ga, n_gc_gb, Ne.symm n_gc_gb, hbr, hbp, hb_ga, hb_gb, hb_gc]
                refine DL_done (by kernel_rfl) ?_
                rw [midQ_normal]
                exact leaf _ _ ga gb gc hga hgb hgc (by first | exact n_gb_ga | exact Ne.symm n_ga_gb) (by first | exact n_gc_ga | exact Ne.symm n_ga_gc) (by first | exact n_gc_gb | exact Ne.symm n_gb_gc) n_ga_gr n_ga_gp n_gb_gr n_gb_gp n_gc_gr n_gc_gp hb_ga hb_gb hb_gc rfl (by simp [S]) (by intro x y hx; simp only [B, upd_apply] at hx ⊢; grind)
              · simp [hpr, Ne.symm hpr, n_ga_gr, Ne.symm n_ga_gr, n_ga_gp, Ne.symm n_ga_gp, n_gb_gr, Ne.symm n_gb_gr, n_gb_gp, Ne.symm n_gb_gp, n_gb_ga, Ne.symm n_gb_ga, hbr, hbp, hb_ga, hb_gb]
                refine DL_one (i := 11) true (by kernel_rfl) rfl rfl (by kernel_rfl) ?_
                simp [hpr, Ne.symm hpr, n_ga_gr, Ne.symm n_ga_gr, n_ga_gp, Ne.symm n_ga_gp, n_gb_gr, Ne.symm n_gb_gr, n_gb_gp, Ne.symm n_gb_gp, n_gb_ga, Ne.symm n_gb_ga, hbr, hbp, hb_ga, hb_gb]
                refine ⟨by omega, by unfold maxLen; omega, ?_⟩
                intro gc hgc
                intros
                have n_gc_gr : ¬gc = gr := by assumption
                have n_gc_gp : ¬gc = gp := by assumption
                have n_gc_ga : ¬gc = ga := by assumption
                have n_gc_gb : ¬gc = gb := by assumption
                have hb_gc : bl gc = none := by assumption
                refine DL_one (i := 16) true (by kernel_rfl) rfl rfl (by kernel_rfl) ?_
                simp [hpr, Ne.symm hpr, n_ga_gr, Ne.symm n_ga_gr, n_ga_gp, Ne.symm n_ga_gp, n_gb_gr, Ne.symm n_gb_gr, n_gb_gp, Ne.symm n_gb_gp, n_gb_ga, Ne.symm n_gb_ga, n_gc_gr, Ne.symm n_gc_gr, n_gc_gp, Ne.symm n_gc_gp, n_gc_ga, Ne.symm n_gc_ga, n_gc_gb, Ne.symm n_gc_gb, hbr, hbp, hb_ga, hb_gb, hb_gc]
                refine DL_one (i := 17) true (by kernel_rfl) rfl rfl (by kernel_rfl) ?_
                simp [hpr, Ne.symm hpr, n_ga_gr, Ne.symm n_ga_gr, n_ga_gp, Ne.symm n_ga_gp, n_gb_gr, Ne.symm n_gb_gr, n_gb_gp, Ne.symm n_gb_gp, n_gb_ga, Ne.symm n_gb_ga, n_gc_gr, Ne.symm n_gc_gr, n_gc_gp, Ne.symm n_gc_gp, n_gc_ga, Ne.symm n_gc_ga, n_gc_gb, Ne.symm n_gc_gb, hbr, hbp, hb_ga, hb_gb, hb_gc]
                refine DL_done (by kernel_rfl) ?_
                rw [midQ_normal]
                exact leaf _ _ ga gb gc hga hgb hgc (by first | exact n_gb_ga | exact Ne.symm n_ga_gb) (by first | exact n_gc_ga | exact Ne.symm n_ga_gc) (by first | exact n_gc_gb | exact Ne.symm n_gb_gc) n_ga_gr n_ga_gp n_gb_gr n_gb_gp n_gc_gr n_gc_gp hb_ga hb_gb hb_gc rfl (by simp [S]) (by intro x y hx; simp only [B, upd_apply] at hx ⊢; grind)
          · simp [hpr, Ne.symm hpr, n_ga_gr, Ne.symm n_ga_gr, n_ga_gp, Ne.symm n_ga_gp, hbr, hbp, hb_ga]
            refine ⟨by omega, by unfold maxLen; omega, ?_⟩
            intro gc hgc
            intros
            have n_gc_gr : ¬gc = gr := by assumption
            have n_gc_gp : ¬gc = gp := by assumption
            have n_gc_ga : ¬gc = ga := by assumption
            have hb_gc : bl gc = none := by assumption
            refine DL_one (i := 8) true (by kernel_rfl) rfl rfl (by kernel_rfl) ?_
            simp [hpr, Ne.symm hpr, n_ga_gr, Ne.symm n_ga_gr, n_ga_gp, Ne.symm n_ga_gp, n_gc_gr, Ne.symm n_gc_gr, n_gc_gp, Ne.symm n_gc_gp, n_gc_ga, Ne.symm n_gc_ga, hbr, hbp, hb_ga, hb_gc]
            refine ⟨by omega, by unfold maxLen; omega, ?_⟩
            intro gb hgb
            intros
            have n_gb_gr : ¬gb = gr := by assumption
            have n_gb_gp : ¬gb = gp := by assumption
            have n_gb_ga : ¬gb = ga := by assumption
            have n_gb_gc : ¬gb = gc := by assumption
            have hb_gb : bl gb = none := by assumption
            refine DL_one (i := 14) true (by kernel_rfl) rfl rfl (by kernel_rfl) ?_
            simp [hpr, Ne.symm hpr, n_ga_gr, Ne.symm n_ga_gr, n_ga_gp, Ne.symm n_ga_gp, n_gc_gr, Ne.symm n_gc_gr, n_gc_gp, Ne.symm n_gc_gp, n_gc_ga, Ne.symm n_gc_ga, n_gb_gr, Ne.symm n_gb_gr, n_gb_gp, Ne.symm n_gb_gp, n_gb_ga, Ne.symm n_gb_ga, n_gb_gc, Ne.symm n_gb_gc, hbr, hbp, hb_ga, hb_gc, hb_gb]
            refine DL_one (i := 15) true (by kernel_rfl) rfl rfl (by kernel_rfl) ?_
            simp [hpr, Ne.symm hpr, n_ga_gr, Ne.symm n_ga_gr, n_ga_gp, Ne.symm n_ga_gp, n_gc_gr, Ne.symm n_gc_gr, n_gc_gp, Ne.symm n_gc_gp, n_gc_ga, Ne.symm n_gc_ga, n_gb_gr, Ne.symm n_gb_gr, n_gb_gp, Ne.symm n_gb_gp, n_gb_ga, Ne.symm n_gb_ga, n_gb_gc, Ne.symm n_gb_gc, hbr, hbp, hb_ga, hb_gc, hb_gb]
            refine DL_one (i := 16) true (by kernel_rfl) rfl rfl (by kernel_rfl) ?_
            simp [hpr, Ne.symm hpr, n_ga_gr, Ne.symm n_ga_gr, n_ga_gp, Ne.symm n_ga_gp, n_gc_gr, Ne.symm n_gc_gr, n_gc_gp, Ne.symm n_gc_gp, n_gc_ga, Ne.symm n_gc_ga, n_gb_gr, Ne.symm n_gb_gr, n_gb_gp, Ne.symm n_gb_gp, n_gb_ga, Ne.symm n_gb_ga, n_gb_gc, Ne.symm n_gb_gc, hbr, hbp, hb_ga, hb_gc, hb_gb]
            refine DL_one (i := 17) true (by kernel_rfl) rfl rfl (by kernel_rfl) ?_
            simp [hpr, Ne.symm hpr, n_ga_gr, Ne.symm n_ga_gr, n_ga_gp, Ne.symm n_ga_gp, n_gc_gr, Ne.symm n_gc_gr, n_gc_gp, Ne.symm n_gc_gp, n_gc_ga, Ne.symm n_gc_ga, n_gb_gr, Ne.symm n_gb_gr, n_gb_gp, Ne.symm n_gb_gp, n_gb_ga, Ne.symm n_gb_ga, n_gb_gc, Ne.symm n_gb_gc, hbr, hbp, hb_ga, hb_gc, hb_gb]
            refine DL_done (by kernel_rfl) ?_
            rw [midQ_normal]
            exact leaf _ _ ga gb gc hga hgb hgc (by first | exact n_gb_ga | exact Ne.symm n_ga_gb) (by first | exact n_gc_ga | exact Ne.symm n_ga_gc) (by first | exact n_gc_gb | exact Ne.symm n_gb_gc) n_ga_gr n_ga_gp n_gb_gr n_gb_gp n_gc_gr n_gc_gp hb_ga hb_gb hb_gc rfl (by simp [S]) (by intro x y hx; simp only [B, upd_apply] at hx ⊢; grind)
    · simp [hpr, Ne.symm hpr, hbr, hbp]
      refine ⟨by omega, by unfold maxLen; omega, ?_⟩
      intro gb hgb
      intros
      have n_gb_gr : ¬gb = gr := by assumption
      have n_gb_gp : ¬gb = gp := by assumption
      have hb_gb : bl gb = none := by assumption
      refine ⟨by simp [hpr, Ne.symm hpr, n_gb_gr, Ne.symm n_gb_gr, n_gb_gp, Ne.symm n_gb_gp, hbr, hbp, hb_gb], ?_⟩
      refine DL_two (i := 5) (j := 11) false false (by kernel_rfl) rfl rfl (by kernel_rfl) rfl rfl (by kernel_rfl) ?_ ?_
      · simp [hpr, Ne.symm hpr, n_gb_gr, Ne.symm n_gb_gr, n_gb_gp, Ne.symm n_gb_gp, hbr, hbp, hb_gb]
        refine ⟨by omega, by unfold maxLen; omega, ?_⟩
        intro ga hga
        intros
        have n_ga_gr : ¬ga = gr := by assumption
        have n_ga_gp : ¬ga = gp := by assumption
        have n_ga_gb : ¬ga = gb := by assumption
        have hb_ga : bl ga = none := by assumption
        refine ⟨by simp [hpr, Ne.symm hpr, n_gb_gr, Ne.symm n_gb_gr, n_gb_gp, Ne.symm n_gb_gp, n_ga_gr, Ne.symm n_ga_gr, n_ga_gp, Ne.symm n_ga_gp, n_ga_gb, Ne.symm n_ga_gb, hbr, hbp, hb_gb, hb_ga], ?_⟩
        refine DL_two (i := 11) (j := 12) false true (by kernel_rfl) rfl rfl (by kernel_rfl) rfl rfl (by kernel_rfl) ?_ ?_
        · simp [hpr, Ne.symm hpr, n_gb_gr, Ne.symm n_gb_gr, n_gb_gp, Ne.symm n_gb_gp, n_ga_gr, Ne.symm n_ga_gr, n_ga_gp, Ne.symm n_ga_gp, n_ga_gb, Ne.symm n_ga_gb, hbr, hbp, hb_gb, hb_ga]
          refine ⟨by omega, by unfold maxLen; omega, ?_⟩
          intro gc hgc
          intros
          have n_gc_gr : ¬gc = gr := by assumption
          have n_gc_gp : ¬gc = gp := by assumption
          have n_gc_gb : ¬gc = gb := by assumption
          have n_gc_ga : ¬gc = ga := by assumption
          have hb_gc : bl gc = none := by assumption
          refine ⟨by simp [hpr, Ne.symm hpr, n_gb_gr, Ne.symm n_gb_gr, n_gb_gp, Ne.symm n_gb_gp, n_ga_gr, Ne.symm n_ga_gr, n_ga_gp, Ne.symm n_ga_gp, n_ga_gb, Ne.symm n_ga_gb, n_gc_gr, Ne.symm n_gc_gr, n_gc_gp, Ne.symm n_gc_gp, n_gc_gb, Ne.symm n_gc_gb, n_gc_ga, Ne.symm n_gc_ga, hbr, hbp, hb_gb, hb_ga, hb_gc], ?_⟩
          refine DL_one (i := 12) true (by kernel_rfl) rfl rfl (by kernel_rfl) ?_
          simp [hpr, Ne.symm hpr, n_gb_gr, Ne.symm n_gb_gr, n_gb_gp, Ne.symm n_gb_gp, n_ga_gr, Ne.symm n_ga_gr, n_ga_gp, Ne.symm n_ga_gp, n_ga_gb, Ne.symm n_ga_gb, n_gc_gr, Ne.symm n_gc_gr, n_gc_gp, Ne.symm n_gc_gp, n_gc_gb, Ne.symm n_gc_gb, n_gc_ga, Ne.symm n_gc_ga, hbr, hbp, hb_gb, hb_ga, hb_gc]
          refine DL_one (i := 13) true (by kernel_rfl) rfl rfl (by kernel_rfl) ?_
          simp [hpr, Ne.symm hpr, n_gb_gr, Ne.symm n_gb_gr, n_gb_gp, Ne.symm n_gb_gp, n_ga_gr, Ne.symm n_ga_gr, n_ga_gp, Ne.symm n_ga_gp, n_ga_gb, Ne.symm n_ga_gb, n_gc_gr, Ne.symm n_gc_gr, n_gc_gp, Ne.symm n_gc_gp, n_gc_gb, Ne.symm n_gc_gb, n_gc_ga, Ne.symm n_gc_ga, hbr, hbp, hb_gb, hb_ga, hb_gc]
          refine DL_one (i := 14) true (by kernel_rfl) rfl rfl (by kernel_rfl) ?_
          simp [hpr, Ne.symm hpr, n_gb_gr, Ne.symm n_gb_gr, n_gb_gp, Ne.symm n_gb_gp, n_ga_gr, Ne.symm n_ga_gr, n_ga_gp, Ne.symm n_ga_gp, n_ga_gb, Ne.symm n_ga_gb, n_gc_gr, Ne.symm n_gc_gr, n_gc_gp, Ne.symm n_gc_gp, n_gc_gb, Ne.symm n_gc_gb, n_gc_ga, Ne.symm n_gc_ga, hbr, hbp, hb_gb, hb_ga, hb_gc]
          refine DL_one (i := 15) true (by kernel_rfl) rfl rfl (by kernel_rfl) ?_
          simp [hpr, Ne.symm hpr, n_gb_gr, Ne.symm n_gb_gr, n_gb_gp, Ne.symm n_gb_gp, n_ga_gr, Ne.symm n_ga_gr, n_ga_gp, Ne.symm n_ga_gp, n_ga_gb, Ne.symm n_ga_gb, n_gc_gr, Ne.symm n_gc_gr, n_gc_gp, Ne.symm n_gc_gp, n_gc_gb, Ne.symm n_gc_gb, n_gc_ga, Ne.symm n_gc_ga, hbr, hbp, hb_gb, hb_ga, hb_gc]
          refine DL_one (i := 16) true (by kernel_rfl) rfl rfl (by kernel_rfl) ?_
          simp [hpr, Ne.symm hpr, n_gb_gr, Ne.symm n_gb_gr, n_gb_gp, Ne.symm n_gb_gp, n_ga_gr, Ne.symm n_ga_gr, n_ga_gp, Ne.symm n_ga_gp, n_ga_gb, Ne.symm n_ga_gb, n_gc_gr, Ne.symm n_gc_gr, n_gc_gp, Ne.symm n_gc_gp, n_gc_gb, Ne.symm n_gc_gb, n_gc_ga, Ne.symm n_gc_ga, hbr, hbp, hb_gb, hb_ga, hb_gc]
          refine DL_one (i := 17) true (by kernel_rfl) rfl rfl (by kernel_rfl) ?_
          simp [hpr, Ne.symm hpr, n_gb_gr, Ne.symm n_gb_gr, n_gb_gp, Ne.symm n_gb_gp, n_ga_gr, Ne.symm n_ga_gr, n_ga_gp, Ne.symm n_ga_gp, n_ga_gb, Ne.symm n_ga_gb, n_gc_gr, Ne.symm n_gc_gr, n_gc_gp, Ne.symm n_gc_gp, n_gc_gb, Ne.symm n_gc_gb, n_gc_ga, Ne.symm n_gc_ga, hbr, hbp, hb_gb, hb_ga, hb_gc]
          refine DL_done (by kernel_rfl) ?_
          rw [midQ_normal]
          exact leaf _ _ ga gb gc hga hgb hgc (by first | exact n_gb_ga | exact Ne.symm n_ga_gb) (by first | exact n_gc_ga | exact Ne.symm n_ga_gc) (by first | exact n_gc_gb | exact Ne.symm n_gb_gc) n_ga_gr n_ga_gp n_gb_gr n_gb_gp n_gc_gr n_gc_gp hb_ga hb_gb hb_gc rfl (by simp [S]) (by intro x y hx; simp only [B, upd_apply] at hx ⊢; grind)
        · simp [hpr, Ne.symm hpr, n_gb_gr, Ne.symm n_gb_gr, n_gb_gp, Ne.symm n_gb_gp, n_ga_gr, Ne.symm n_ga_gr, n_ga_gp, Ne.symm n_ga_gp, n_ga_gb, Ne.symm n_ga_gb, hbr, hbp, hb_gb, hb_ga]
          refine DL_two (i := 11) (j := 13) true true (by kernel_rfl) rfl rfl (by kernel_rfl) rfl rfl (by kernel_rfl) ?_ ?_
          · simp [hpr, Ne.symm hpr, n_gb_gr, Ne.symm n_gb_gr, n_gb_gp, Ne.symm n_gb_gp, n_ga_gr, Ne.symm n_ga_gr, n_ga_gp, Ne.symm n_ga_gp, n_ga_gb, Ne.symm n_ga_gb, hbr, hbp, hb_gb, hb_ga]
            refine ⟨by omega, by unfold maxLen; omega, ?_⟩
            intro gc hgc
            intros
            have n_gc_gr : ¬gc = gr := by assumption
            have n_gc_gp : ¬gc = gp := by assumption
            have n_gc_gb : ¬gc = gb := by assumption
            have n_gc_ga : ¬gc = ga := by assumption
            have hb_gc : bl gc = none := by assumption
            refine DL_one (i := 13) true (by kernel_rfl) rfl rfl (by kernel_rfl) ?_
            simp [hpr, Ne.symm hpr, n_gb_gr, Ne.symm n_gb_gr, n_gb_gp, Ne.symm n_gb_gp, n_ga_gr, Ne.symm n_ga_gr, n_ga_gp, Ne.symm n_ga_gp, n_ga_gb, Ne.symm n_ga_gb, n_gc_gr, Ne.symm n_gc_gr, n_gc_gp, Ne.symm n_gc_gp, n_gc_gb, Ne.symm n_gc_gb, n_gc_ga, Ne.symm n_gc_ga, hbr, hbp, hb_gb, hb_ga, hb_gc]
            refine DL_one (i := 14) true (by kernel_rfl) rfl rfl (by kernel_rfl) ?_
            simp [hpr, Ne.symm hpr, n_gb_gr, Ne.symm n_gb_gr, n_gb_gp, Ne.symm n_gb_gp, n_ga_gr, Ne.symm n_ga_gr, n_ga_gp, Ne.symm n_ga_gp, n_ga_gb, Ne.symm n_ga_gb, n_gc_gr, Ne.symm n_gc_gr, n_gc_gp, Ne.symm n_gc_gp, n_gc_gb, Ne.symm n_gc_gb, n_gc_ga, Ne.symm n_gc_ga, hbr, hbp, hb_gb, hb_ga, hb_gc]
            refine DL_one (i := 15) true (by kernel_rfl) rfl rfl (by kernel_rfl) ?_
            simp [hpr, Ne.symm hpr, n_gb_gr, Ne.symm n_gb_gr, n_gb_gp, Ne.symm n_gb_gp, n_ga_gr, Ne.symm n_ga_gr, n_ga_gp, Ne.symm n_ga_gp, n_ga_gb, Ne.symm n_ga_gb, n_gc_gr, Ne.symm n_gc_gr, n_gc_gp, Ne.symm n_gc_gp, n_gc_gb, Ne.symm n_gc_gb, n_gc_ga, Ne.symm n_gc_ga, hbr, hbp, hb_gb, hb_ga, hb_gc]
            refine DL_one (i := 16) true (by kernel_rfl) rfl rfl (by kernel_rfl) ?_
            simp [hpr, Ne.symm hpr, n_gb_gr, Ne.symm n_gb_gr, n_gb_gp, Ne.symm n_gb_gp, n_ga_gr, Ne.symm n_ga_gr, n_ga_gp, Ne.symm n_ga_gp, n_ga_gb, Ne.symm n_ga_gb, n_gc_gr, Ne.symm n_gc_gr, n_gc_gp, Ne.symm n_gc_gp, n_gc_gb, Ne.symm n_gc_gb, n_gc_ga, Ne.symm n_gc_ga, hbr, hbp, hb_gb, hb_ga, hb_gc]
            refine DL_one (i := 17) true (by kernel_rfl) rfl rfl (by kernel_rfl) ?_
            simp [hpr, Ne.symm hpr, n_gb_gr, Ne.symm n_gb_gr, n_gb_gp, Ne.symm n_gb_gp, n_ga_gr, Ne.symm n_ga_gr, n_ga_gp, Ne.symm n_ga_gp, n_ga_gb, Ne.symm n_ga_gb, n_gc_gr, Ne.symm n_gc_gr, n_gc_gp, Ne.symm n_gc_gp, n_gc_gb, Ne.symm n_gc_gb, n_gc_ga, Ne.symm n_gc_ga, hbr, hbp, hb_gb, hb_ga, hb_gc]
            refine DL_done (by kernel_rfl) ?_
            rw [midQ_normal]
            exact leaf _ _ ga gb gc hga hgb hgc (by first | exact n_gb_ga | exact Ne.symm n_ga_gb) (by first | exact n_gc_ga | exact Ne.symm n_ga_gc) (by first | exact n_gc_gb | exact Ne.symm n_gb_gc) n_ga_gr n_ga_gp n_gb_gr n_gb_gp n_gc_gr n_gc_gp hb_ga hb_gb hb_gc rfl (by simp [S]) (by intro x y hx; simp only [B, upd_apply] at hx ⊢; grind)
          · simp [hpr, Ne.symm hpr, n_gb_gr, Ne.symm n_gb_gr, n_gb_gp, Ne.symm n_gb_gp, n_ga_gr, Ne.symm n_ga_gr, n_ga_gp, Ne.symm n_ga_gp, n_ga_gb, Ne.symm n_ga_gb, hbr, hbp, hb_gb, hb_ga]
            refine DL_two (i := 11) (j := 14) true true (by kernel_rfl) rfl rfl (by kernel_rfl) rfl rfl (by kernel_rfl) ?_ ?_
            · simp [hpr, Ne.symm hpr, n_gb_gr, Ne.symm n_gb_gr, n_gb_gp, Ne.symm n_gb_gp, n_ga_gr, Ne.symm n_ga_gr, n_ga_gp, Ne.symm n_ga_gp, n_ga_gb, Ne.symm n_ga_gb, hbr, hbp, hb_gb, hb_ga]
              refine ⟨by omega, by unfold maxLen; omega, ?_⟩
              intro gc hgc
              intros
              have n_gc_gr : ¬gc = gr := by assumption
              have n_gc_gp : ¬gc = gp := by assumption
              have n_gc_gb : ¬gc = gb := by assumption
              have n_gc_ga : ¬gc = ga := by assumption
              have hb_gc : bl gc = none := by assumption
              refine DL_one (i := 14) true (by kernel_rfl) rfl rfl (by kernel_rfl) ?_
              simp [hpr, Ne.symm hpr, n_gb_gr, Ne.symm n_gb_gr, n_gb_gp, Ne.symm n_gb_gp, n_ga_gr, Ne.symm n_ga_gr, n_ga_gp, Ne.symm n_ga_gp, n_ga_gb, Ne.symm n_ga_gb, n_gc_gr, Ne.symm n_gc_gr, n_gc_gp, Ne.symm n_gc_gp, n_gc_gb, Ne.symm n_gc_gb, n_gc_ga, Ne.symm n_gc_ga, hbr, hbp, hb_gb, hb_ga, hb_gc]
              refine DL_one (i := 15) true (by kernel_rfl) rfl rfl (by kernel_rfl) ?_
              simp [hpr, Ne.symm hpr, n_gb_gr, Ne.symm n_gb_gr, n_gb_gp, Ne.symm n_gb_gp, n_ga_gr, Ne.symm n_ga_gr, n_ga_gp, Ne.symm n_ga_gp, n_ga_gb, Ne.symm n_ga_gb, n_gc_gr, Ne.symm n_gc_gr, n_gc_gp, Ne.symm n_gc_gp, n_gc_gb, Ne.symm n_gc_gb, n_gc_ga, Ne.symm n_gc_ga, hbr, hbp, hb_gb, hb_ga, hb_gc]
              refine DL_one (i := 16) true (by kernel_rfl) rfl rfl (by kernel_rfl) ?_
              simp [hpr, Ne.symm hpr, n_gb_gr, Ne.symm n_gb_gr, n_gb_gp, Ne.symm n_gb_gp, n_ga_gr, Ne.symm n_ga_gr, n_ga_gp, Ne.symm n_ga_gp, n_ga_gb, Ne.symm n_ga_gb, n_gc_gr, Ne.symm n_gc_gr, n_gc_gp, Ne.symm n_gc_gp, n_gc_gb, Ne.symm n_gc_gb, n_gc_ga, Ne.symm n_gc_ga, hbr, hbp, hb_gb, hb_ga, hb_gc]
              refine DL_one (i := 17) true (by kernel_rfl) rfl rfl (by kernel_rfl) ?_
              simp [hpr, Ne.symm hpr, n_gb_gr, Ne.symm n_gb_gr, n_gb_gp, Ne.symm n_gb_gp, n_ga_gr, Ne.symm n_ga_gr, n_ga_gp, Ne.symm n_ga_gp, n_ga_gb, Ne.symm n_ga_gb, n_gc_gr, Ne.symm n_gc_gr, n_gc_gp, Ne.symm n_gc_gp, n_gc_gb, Ne.symm n_gc_gb, n_gc_ga, Ne.symm n_gc_ga, hbr, hbp, hb_gb, hb_ga, hb_gc]
              refine DL_done (by kernel_rfl) ?_
              rw [midQ_normal]
              exact leaf _ _ ga gb gc hga hgb hgc (by first | exact n_gb_ga | exact Ne.symm n_ga_gb) (by first | exact n_gc_ga | exact Ne.symm n_ga_gc) (by first | exact n_gc_gb | exact Ne.symm n_gb_gc) n_ga_gr n_ga_gp n_gb_gr n_gb_gp n_gc_gr n_gc_gp hb_ga hb_gb hb_gc rfl (by simp [S]) (by intro x y hx; simp only [B, upd_apply] at hx ⊢; grind)
            · simp [hpr, Ne.symm hpr, n_gb_gr, Ne.symm n_gb_gr, n_gb_gp, Ne.symm n_gb_gp, n_ga_gr, Ne.symm n_ga_gr, n_ga_gp, Ne.symm n_ga_gp, n_ga_gb, Ne.symm n_ga_gb, hbr, hbp, hb_gb, hb_ga]
              refine DL_two (i := 11) (j := 15) true true (by kernel_rfl) rfl rfl (by kernel_rfl) rfl rfl (by kernel_rfl) ?_ ?_
              · simp [hpr, Ne.symm hpr, n_gb_gr, Ne.symm n_gb_gr, n_gb_gp, Ne.symm n_gb_gp, n_ga_gr, Ne.symm n_ga_gr, n_ga_gp, Ne.symm n_ga_gp, n_ga_gb, Ne.symm n_ga_gb, hbr, hbp, hb_gb, hb_ga]
                refine ⟨by omega, by unfold maxLen; omega, ?_⟩
                intro gc hgc
                intros
                have n_gc_gr : ¬gc = gr := by assumption
                have n_gc_gp : ¬gc = gp := by assumption
                have n_gc_gb : ¬gc = gb := by assumption
                have n_gc_ga : ¬gc = ga := by assumption
                have hb_gc : bl gc = none := by assumption
                refine DL_one (i := 15) true (by kernel_rfl) rfl rfl (by kernel_rfl) ?_
                simp [hpr, Ne.symm hpr, n_gb_gr, Ne.symm n_gb_gr, n_gb_gp, Ne.symm n_gb_gp, n_ga_gr, Ne.symm n_ga_gr, n_ga_gp, Ne.symm n_ga_gp, n_ga_gb, Ne.symm n_ga_gb, n_gc_gr, Ne.symm n_gc_gr, n_gc_gp, Ne.symm n_gc_gp, n_gc_gb, Ne.symm n_gc_gb, n_gc_ga, Ne.symm n_gc_ga, hbr, hbp, hb_gb, hb_ga, hb_gc]
                refine DL_one (i := 16) true (by kernel_rfl) rfl rfl (by kernel_rfl) ?_
                simp [hpr, Ne.symm hpr, n_gb_gr, Ne.symm n_gb_gr, n_gb_gp, Ne.symm n_gb_gp, n_ga_gr, Ne.symm n_ga_gr, n_ga_gp, Ne.symm n_ga_gp, n_ga_gb, Ne.symm n_ga_gb, n_gc_gr, Ne.symm n_gc_gr, n_gc_gp, Ne.symm n_gc_gp, n_gc_gb, Ne.symm n_gc_gb, n_gc_ga, Ne.symm n_gc_ga, hbr, hbp, hb_gb, hb_ga, hb_gc]
                refine DL_one (i := 17) true (by kernel_rfl) rfl rfl (by kernel_rfl) ?_
                simp [hpr, Ne.symm hpr, n_gb_gr, Ne.symm n_gb_gr, n_gb_gp, Ne.symm n_gb_gp, n_ga_gr, Ne.symm n_ga_gr, n_ga_gp, Ne.symm n_ga_gp, n_ga_gb, Ne.symm n_ga_gb, n_gc_gr, Ne.symm n_gc_gr, n_gc_gp, Ne.symm n_gc_gp, n_gc_gb, Ne.symm n_gc_gb, n_gc_ga, Ne.symm n_gc_ga, hbr, hbp, hb_gb, hb_ga, hb_gc]
                refine DL_done (by kernel_rfl) ?_
                rw [midQ_normal]
                exact leaf _ _ ga gb gc hga hgb hgc (by first | exact n_gb_ga | exact Ne.symm n_ga_gb) (by first | exact n_gc_ga | exact Ne.symm n_ga_gc) (by first | exact n_gc_gb | exact Ne.symm n_gb_gc) n_ga_gr n_ga_gp n_gb_gr n_gb_gp n_gc_gr n_gc_gp hb_ga hb_gb hb_gc rfl (by simp [S]) (by intro x y hx; simp only [B, upd_apply] at hx ⊢; grind)
              · simp [hpr, Ne.symm hpr, n_gb_gr, Ne.symm n_gb_gr, n_gb_gp, Ne.symm n_gb_gp, n_ga_gr, Ne.symm n_ga_gr, n_ga_gp, Ne.symm n_ga_gp, n_ga_gb, Ne.symm n_ga_gb, hbr, hbp, hb_gb, hb_ga]
                refine DL_one (i := 11) true (by kernel_rfl) rfl rfl (by kernel_rfl) ?_
                simp [hpr, Ne.symm hpr, n_gb_gr, Ne.symm n_gb_gr, n_gb_gp, Ne.symm n_gb_gp, n_ga_gr, Ne.symm n_ga_gr, n_ga_gp, Ne.symm n_ga_gp, n_ga_gb, Ne.symm n_ga_gb, hbr, hbp, hb_gb, hb_ga]
                refine ⟨by omega, by unfold maxLen; omega, ?_⟩
                intro gc hgc
                intros
                have n_gc_gr : ¬gc = gr := by assumption
                have n_gc_gp : ¬gc = gp := by assumption
                have n_gc_gb : ¬gc = gb := by assumption
                have n_gc_ga : ¬gc = ga := by assumption
                have hb_gc : bl gc = none := by assumption
                refine DL_one (i := 16) true (by kernel_rfl) rfl rfl (by kernel_rfl) ?_
                simp [hpr, Ne.symm hpr, n_gb_gr, Ne.symm n_gb_gr, n_gb_gp, Ne.symm n_gb_gp, n_ga_gr, Ne.symm n_ga_gr, n_ga_gp, Ne.symm n_ga_gp, n_ga_gb, Ne.symm n_ga_gb, n_gc_gr, Ne.symm n_gc_gr, n_gc_gp, Ne.symm n_gc_gp, n_gc_gb, Ne.symm n_gc_gb, n_gc_ga, Ne.symm n_gc_ga, hbr, hbp, hb_gb, hb_ga, hb_gc]
                refine DL_one (i := 17) true (by kernel_rfl) rfl rfl (by kernel_rfl) ?_
                simp [hpr, Ne.symm hpr, n_gb_gr, Ne.symm n_gb_gr, n_gb_gp, Ne.symm n_gb_gp, n_ga_gr, Ne.symm n_ga_gr, n_ga_gp, Ne.symm n_ga_gp, n_ga_gb, Ne.symm n_ga_gb, n_gc_gr, Ne.symm n_gc_gr, n_gc_gp, Ne.symm n_gc_gp, n_gc_gb, Ne.symm n_gc_gb, n_gc_ga, Ne.symm n_gc_ga, hbr, hbp, hb_gb, hb_ga, hb_gc]
                refine DL_done (by kernel_rfl) ?_
                rw [midQ_normal]
                exact leaf _ _ ga gb gc hga hgb hgc (by first | exact n_gb_ga | exact Ne.symm n_ga_gb) (by first | exact n_gc_ga | exact Ne.symm n_ga_gc) (by first | exact n_gc_gb | exact Ne.symm n_gb_gc) n_ga_gr n_ga_gp n_gb_gr n_gb_gp n_gc_gr n_gc_gp hb_ga hb_gb hb_gc rfl (by simp [S]) (by intro x y hx; simp only [B, upd_apply] at hx ⊢; grind)
      · simp [hpr, Ne.symm hpr, n_gb_gr, Ne.symm n_gb_gr, n_gb_gp, Ne.symm n_gb_gp, hbr, hbp, hb_gb]
        refine ⟨by omega, by unfold maxLen; omega, ?_⟩
        intro gc hgc
        intros
        have n_gc_gr : ¬gc = gr := by assumption
        have n_gc_gp : ¬gc = gp := by assumption
        have n_gc_gb : ¬gc = gb := by assumption
        have hb_gc : bl gc = none := by assumption
        refine ⟨by simp [hpr, Ne.symm hpr, n_gb_gr, Ne.symm n_gb_gr, n_gb_gp, Ne.symm n_gb_gp, n_gc_gr, Ne.symm n_gc_gr, n_gc_gp, Ne.symm n_gc_gp, n_gc_gb, Ne.symm n_gc_gb, hbr, hbp, hb_gb, hb_gc], ?_⟩
        refine DL_one (i := 5) false (by kernel_rfl) rfl rfl (by kernel_rfl) ?_
        simp [hpr, Ne.symm hpr, n_gb_gr, Ne.symm n_gb_gr, n_gb_gp, Ne.symm n_gb_gp, n_gc_gr, Ne.symm n_gc_gr, n_gc_gp, Ne.symm n_gc_gp, n_gc_gb, Ne.symm n_gc_gb, hbr, hbp, hb_gb, hb_gc]
        refine ⟨by omega, by unfold maxLen; omega, ?_⟩
        intro ga hga
        intros
        have n_ga_gr : ¬ga = gr := by assumption
        have n_ga_gp : ¬ga = gp := by assumption
        have n_ga_gb : ¬ga = gb := by assumption
        have n_ga_gc : ¬ga = gc := by assumption
        have hb_ga : bl ga = none := by assumption
        refine ⟨by simp [hpr, Ne.symm hpr, n_gb_gr, Ne.symm n_gb_gr, n_gb_gp, Ne.symm n_gb_gp, n_gc_gr, Ne.symm n_gc_gr, n_gc_gp, Ne.symm n_gc_gp, n_gc_gb, Ne.symm n_gc_gb, n_ga_gr, Ne.symm n_ga_gr, n_ga_gp, Ne.symm n_ga_gp, n_ga_gb, Ne.symm n_ga_gb, n_ga_gc, Ne.symm n_ga_gc, hbr, hbp, hb_gb, hb_gc, hb_ga], ?_⟩
        refine DL_one (i := 12) true (by kernel_rfl) rfl rfl (by kernel_rfl) ?_
        simp [hpr, Ne.symm hpr, n_gb_gr, Ne.symm n_gb_gr, n_gb_gp, Ne.symm n_gb_gp, n_gc_gr, Ne.symm n_gc_gr, n_gc_gp, Ne.symm n_gc_gp, n_gc_gb, Ne.symm n_gc_gb, n_ga_gr, Ne.symm n_ga_gr, n_ga_gp, Ne.symm n_ga_gp, n_ga_gb, Ne.symm n_ga_gb, n_ga_gc, Ne.symm n_ga_gc, hbr, hbp, hb_gb, hb_gc, hb_ga]
        refine DL_one (i := 13) true (by kernel_rfl) rfl rfl (by kernel_rfl) ?_
        simp [hpr, Ne.symm hpr, n_gb_gr, Ne.symm n_gb_gr, n_gb_gp, Ne.symm n_gb_gp, n_gc_gr, Ne.symm n_gc_gr, n_gc_gp, Ne.symm n_gc_gp, n_gc_gb, Ne.symm n_gc_gb, n_ga_gr, Ne.symm n_ga_gr, n_ga_gp, Ne.symm n_ga_gp, n_ga_gb, Ne.symm n_ga_gb, n_ga_gc, Ne.symm n_ga_gc, hbr, hbp, hb_gb, hb_gc, hb_ga]
        refine DL_one (i := 14) true (by kernel_rfl) rfl rfl (by kernel_rfl) ?_
        simp [hpr, Ne.symm hpr, n_gb_gr, Ne.symm n_gb_gr, n_gb_gp, Ne.symm n_gb_gp, n_gc_gr, Ne.symm n_gc_gr, n_gc_gp, Ne.symm n_gc_gp, n_gc_gb, Ne.symm n_gc_gb, n_ga_gr, Ne.symm n_ga_gr, n_ga_gp, Ne.symm n_ga_gp, n_ga_gb, Ne.symm n_ga_gb, n_ga_gc, Ne.symm n_ga_gc, hbr, hbp, hb_gb, hb_gc, hb_ga]
        refine DL_one (i := 15) true (by kernel_rfl) rfl rfl (by kernel_rfl) ?_
        simp [hpr, Ne.symm hpr, n_gb_gr, Ne.symm n_gb_gr, n_gb_gp, Ne.symm n_gb_gp, n_gc_gr, Ne.symm n_gc_gr, n_gc_gp, Ne.symm n_gc_gp, n_gc_gb, Ne.symm n_gc_gb, n_ga_gr, Ne.symm n_ga_gr, n_ga_gp, Ne.symm n_ga_gp, n_ga_gb, Ne.symm n_ga_gb, n_ga_gc, Ne.symm n_ga_gc, hbr, hbp, hb_gb, hb_gc, hb_ga]
        refine DL_one (i := 16) true (by kernel_rfl) rfl rfl (by kernel_rfl) ?_
        simp [hpr, Ne.symm hpr, n_gb_gr, Ne.symm n_gb_gr, n_gb_gp, Ne.symm n_gb_gp, n_gc_gr, Ne.symm n_gc_gr, n_gc_gp, Ne.symm n_gc_gp, n_gc_gb, Ne.symm n_gc_gb, n_ga_gr, Ne.symm n_ga_gr, n_ga_gp, Ne.symm n_ga_gp, n_ga_gb, Ne.symm n_ga_gb, n_ga_gc, Ne.symm n_ga_gc, hbr, hbp, hb_gb, hb_gc, hb_ga]
        refine DL_one (i := 17) true (by kernel_rfl) rfl rfl (by kernel_rfl) ?_
        simp [hpr, Ne.symm hpr, n_gb_gr, Ne.symm n_gb_gr, n_gb_gp, Ne.symm n_gb_gp, n_gc_gr, Ne.symm n_gc_gr, n_gc_gp, Ne.symm n_gc_gp, n_gc_gb, Ne.symm n_gc_gb, n_ga_gr, Ne.symm n_ga_gr, n_ga_gp, Ne.symm n_ga_gp, n_ga_gb, Ne.symm n_ga_gb, n_ga_gc, Ne.symm n_ga_gc, hbr, hbp, hb_gb, hb_gc, hb_ga]
        refine DL_done (by kernel_rfl) ?_
        rw [midQ_normal]
        exact leaf _ _ ga gb gc hga hgb hgc (by first | exact n_gb_ga | exact Ne.symm n_ga_gb) (by first | exact n_gc_ga | exact Ne.symm n_ga_gc) (by first | exact n_gc_gb | exact Ne.symm n_gb_gc) n_ga_gr n_ga_gp n_gb_gr n_gb_gp n_gc_gr n_gc_gp hb_ga hb_gb hb_gc rfl (by simp [S]) (by intro x y hx; simp only [B, upd_apply] at hx ⊢; grind)
    · simp [hpr, Ne.symm hpr, hbr, hbp]
      refine ⟨by omega, by unfold maxLen; omega, ?_⟩
      intro gc hgc
      intros
      have n_gc_gr : ¬gc = gr := by assumption
      have n_gc_gp : ¬gc = gp := by assumption
      have hb_gc : bl gc = none := by assumption
      refine ⟨by simp [hpr, Ne.symm hpr, n_gc_gr, Ne.symm n_gc_gr, n_gc_gp, Ne.symm n_gc_gp, hbr, hbp, hb_gc], ?_⟩
      refine DL_two (i := 5) (j := 8) false false (by kernel_rfl) rfl rfl (by kernel_rfl) rfl rfl (by kernel_rfl) ?_ ?_
      · simp [hpr, Ne.symm hpr, n_gc_gr, Ne.symm n_gc_gr, n_gc_gp, Ne.symm n_gc_gp, hbr, hbp, hb_gc]
        refine ⟨by omega, by unfold maxLen; omega, ?_⟩
        intro ga hga
        intros
        have n_ga_gr : ¬ga = gr := by assumption
        have n_ga_gp : ¬ga = gp := by assumption
        have n_ga_gc : ¬ga = gc := by assumption
        have hb_ga : bl ga = none := by assumption
        refine ⟨by simp [hpr, Ne.symm hpr, n_gc_gr, Ne.symm n_gc_gr, n_gc_gp, Ne.symm n_gc_gp, n_ga_gr, Ne.symm n_ga_gr, n_ga_gp, Ne.symm n_ga_gp, n_ga_gc, Ne.symm n_ga_gc, hbr, hbp, hb_gc, hb_ga], ?_⟩
        refine DL_two (i := 8) (j := 12) false true (by kernel_rfl) rfl rfl (by kernel_rfl) rfl rfl (by kernel_rfl) ?_ ?_
        · simp [hpr, Ne.symm hpr, n_gc_gr, Ne.symm n_gc_gr, n_gc_gp, Ne.symm n_gc_gp, n_ga_gr, Ne.symm n_ga_gr, n_ga_gp, Ne.symm n_ga_gp, n_ga_gc, Ne.symm n_ga_gc, hbr, hbp, hb_gc, hb_ga]
          refine ⟨by omega, by unfold maxLen; omega, ?_⟩
          intro gb hgb
          intros
          have n_gb_gr : ¬gb = gr := by assumption
          have n_gb_gp : ¬gb = gp := by assumption
          have n_gb_gc : ¬gb = gc := by assumption
          have n_gb_ga : ¬gb = ga := by assumption
          have hb_gb : bl gb = none := by assumption
          refine ⟨by simp [hpr, Ne.symm hpr, n_gc_gr, Ne.symm n_gc_gr, n_gc_gp, Ne.symm n_gc_gp, n_ga_gr, Ne.symm n_ga_gr, n_ga_gp, Ne.symm n_ga_gp, n_ga_gc, Ne.symm n_ga_gc, n_gb_gr, Ne.symm n_gb_gr, n_gb_gp, Ne.symm n_gb_gp, n_gb_gc, Ne.symm n_gb_gc, n_gb_ga, Ne.symm n_gb_ga, hbr, hbp, hb_gc, hb_ga, hb_gb], ?_⟩
          refine DL_one (i := 12) true (by kernel_rfl) rfl rfl (by kernel_rfl) ?_
          simp [hpr, Ne.symm hpr, n_gc_gr, Ne.symm n_gc_gr, n_gc_gp, Ne.symm n_gc_gp, n_ga_gr, Ne.symm n_ga_gr, n_ga_gp, Ne.symm n_ga_gp, n_ga_gc, Ne.symm n_ga_gc, n_gb_gr, Ne.symm n_gb_gr, n_gb_gp, Ne.symm n_gb_gp, n_gb_gc, Ne.symm n_gb_gc, n_gb_ga, Ne.symm n_gb_ga, hbr, hbp, hb_gc, hb_ga, hb_gb]
          refine DL_one (i := 13) true (by kernel_rfl) rfl rfl (by kernel_rfl) ?_
          simp [hpr, Ne.symm hpr, n_gc_gr, Ne.symm n_gc_gr, n_gc_gp, Ne.symm n_gc_gp, n_ga_gr, Ne.symm n_ga_gr, n_ga_gp, Ne.symm n_ga_gp, n_ga_gc, Ne.symm n_ga_gc, n_gb_gr, Ne.symm n_gb_gr, n_gb_gp, Ne.symm n_gb_gp, n_gb_gc, Ne.symm n_gb_gc, n_gb_ga, Ne.symm n_gb_ga, hbr, hbp, hb_gc, hb_ga, hb_gb]
          refine DL_one (i := 14) true (by kernel_rfl) rfl rfl (by kernel_rfl) ?_
          simp [hpr, Ne.symm hpr, n_gc_gr, Ne.symm n_gc_gr, n_gc_gp, Ne.symm n_gc_gp, n_ga_gr, Ne.symm n_ga_gr, n_ga_gp, Ne.symm n_ga_gp, n_ga_gc, Ne.symm n_ga_gc, n_gb_gr, Ne.symm n_gb_gr, n_gb_gp, Ne.symm n_gb_gp, n_gb_gc, Ne.symm n_gb_gc, n_gb_ga, Ne.symm n_gb_ga, hbr, hbp, hb_gc, hb_ga, hb_gb]
          refine DL_one (i := 15) true (by kernel_rfl) rfl rfl (by kernel_rfl) ?_
          simp [hpr, Ne.symm hpr, n_gc_gr, Ne.symm n_gc_gr, n_gc_gp, Ne.symm n_gc_gp, n_ga_gr, Ne.symm n_ga_gr, n_ga_gp, Ne.symm n_ga_gp, n_ga_gc, Ne.symm n_ga_gc, n_gb_gr, Ne.symm n_gb_gr, n_gb_gp, Ne.symm n_gb_gp, n_gb_gc, Ne.symm n_gb_gc, n_gb_ga, Ne.symm n_gb_ga, hbr, hbp, hb_gc, hb_ga, hb_gb]
          refine DL_one (i := 16) true (by kernel_rfl) rfl rfl (by kernel_rfl) ?_
          simp [hpr, Ne.symm hpr, n_gc_gr, Ne.symm n_gc_gr, n_gc_gp, Ne.symm n_gc_gp, n_ga_gr, Ne.symm n_ga_gr, n_ga_gp, Ne.symm n_ga_gp, n_ga_gc, Ne.symm n_ga_gc, n_gb_gr, Ne.symm n_gb_gr, n_gb_gp, Ne.symm n_gb_gp, n_gb_gc, Ne.symm n_gb_gc, n_gb_ga, Ne.symm n_gb_ga, hbr, hbp, hb_gc, hb_ga, hb_gb]
          refine DL_one (i := 17) true (by kernel_rfl) rfl rfl (by kernel_rfl) ?_
          simp [hpr, Ne.symm hpr, n_gc_gr, Ne.symm n_gc_gr, n_gc_gp, Ne.symm n_gc_gp, n_ga_gr, Ne.symm n_ga_gr, n_ga_gp, Ne.symm n_ga_gp, n_ga_gc, Ne.symm n_ga_gc, n_gb_gr, Ne.symm n_gb_gr, n_gb_gp, Ne.symm n_gb_gp, n_gb_gc, Ne.symm n_gb_gc, n_gb_ga, Ne.symm n_gb_ga, hbr, hbp, hb_gc, hb_ga, hb_gb]
          refine DL_done (by kernel_rfl) ?_
          rw [midQ_normal]
          exact leaf _ _ ga gb gc hga hgb hgc (by first | exact n_gb_ga | exact Ne.symm n_ga_gb) (by first | exact n_gc_ga | exact Ne.symm n_ga_gc) (by first | exact n_gc_gb | exact Ne.symm n_gb_gc) n_ga_gr n_ga_gp n_gb_gr n_gb_gp n_gc_gr n_gc_gp hb_ga hb_gb hb_gc rfl (by simp [S]) (by intro x y hx; simp only [B, upd_apply] at hx ⊢; grind)
        · simp [hpr, Ne.symm hpr, n_gc_gr, Ne.symm n_gc_gr, n_gc_gp, Ne.symm n_gc_gp, n_ga_gr, Ne.symm n_ga_gr, n_ga_gp, Ne.symm n_ga_gp, n_ga_gc, Ne.symm n_ga_gc, hbr, hbp, hb_gc, hb_ga]
          refine DL_two (i := 8) (j := 13) true true (by kernel_rfl) rfl rfl (by kernel_rfl) rfl rfl (by kernel_rfl) ?_ ?_
          · simp [hpr, Ne.symm hpr, n_gc_gr, Ne.symm n_gc_gr, n_gc_gp, Ne.symm n_gc_gp, n_ga_gr, Ne.symm n_ga_gr, n_ga_gp, Ne.symm n_ga_gp, n_ga_gc, Ne.symm n_ga_gc, hbr, hbp, hb_gc, hb_ga]
            refine ⟨by omega, by unfold maxLen; omega, ?_⟩
            intro gb hgb
            intros
            have n_gb_gr : ¬gb = gr := by assumption
            have n_gb_gp : ¬gb = gp := by assumption
            have n_gb_gc : ¬gb = gc := by assumption
            have n_gb_ga : ¬gb = ga := by assumption
            have hb_gb : bl gb = none := by assumption
            refine DL_one (i := 13) true (by kernel_rfl) rfl rfl (by kernel_rfl) ?_
            simp [hpr, Ne.symm hpr, n_gc_gr, Ne.symm n_gc_gr, n_gc_gp, Ne.symm n_gc_gp, n_ga_gr, Ne.symm n_ga_gr, n_ga_gp, Ne.symm n_ga_gp, n_ga_gc, Ne.symm n_ga_gc, n_gb_gr, Ne.symm n_gb_gr, n_gb_gp, Ne.symm n_gb_gp, n_gb_gc, Ne.symm n_gb_gc, n_gb_ga, Ne.symm n_gb_ga, hbr, hbp, hb_gc, hb_ga, hb_gb]
            refine DL_one (i := 14) true (by kernel_rfl) rfl rfl (by kernel_rfl) ?_
            simp [hpr, Ne.symm hpr, n_gc_gr, Ne.symm n_gc_gr, n_gc_gp, Ne.symm n_gc_gp, n_ga_gr, Ne.symm n_ga_gr, n_ga_gp, Ne.symm n_ga_gp, n_ga_gc, Ne.symm n_ga_gc, n_gb_gr, Ne.symm n_gb_gr, n_gb_gp, Ne.symm n_gb_gp, n_gb_gc, Ne.symm n_gb_gc, n_gb_ga, Ne.symm n_gb_ga, hbr, hbp, hb_gc, hb_ga, hb_gb]
            refine DL_one (i := 15) true (by kernel_rfl) rfl rfl (by kernel_rfl) ?_
            simp [hpr, Ne.symm hpr, n_gc_gr, Ne.symm n_gc_gr, n_gc_gp, Ne.symm n_gc_gp, n_ga_gr, Ne.symm n_ga_gr, n_ga_gp, Ne.symm n_ga_gp, n_ga_gc, Ne.symm n_ga_gc, n_gb_gr, Ne.symm n_gb_gr, n_gb_gp, Ne.symm n_gb_gp, n_gb_gc, Ne.symm n_gb_gc, n_gb_ga, Ne.symm n_gb_ga, hbr, hbp, hb_gc, hb_ga, hb_gb]
            refine DL_one (i := 16) true (by kernel_rfl) rfl rfl (by kernel_rfl) ?_
            simp [hpr, Ne.symm hpr, n_gc_gr, Ne.symm n_gc_gr, n_gc_gp, Ne.symm n_gc_gp, n_ga_gr, Ne.symm n_ga_gr, n_ga_gp, Ne.symm n_ga_gp, n_ga_gc, Ne.symm n_ga_gc, n_gb_gr, Ne.symm n_gb_gr, n_gb_gp, Ne.symm n_gb_gp, n_gb_gc, Ne.symm n_gb_gc, n_gb_ga, Ne.symm n_gb_ga, hbr, hbp, hb_gc, hb_ga, hb_gb]
            refine DL_one (i := 17) true (by kernel_rfl) rfl rfl (by kernel_rfl) ?_
            simp [hpr, Ne.symm hpr, n_gc_gr, Ne.symm n_gc_gr, n_gc_gp, Ne.symm n_gc_gp, n_ga_gr, Ne.symm n_ga_gr, n_ga_gp, Ne.symm n_ga_gp, n_ga_gc, Ne.symm n_ga_gc, n_gb_gr, Ne.symm n_gb_gr, n_gb_gp, Ne.symm n_gb_gp, n_gb_gc, Ne.symm n_gb_gc, n_gb_ga, Ne.symm n_gb_ga, hbr, hbp, hb_gc, hb_ga, hb_gb]
            refine DL_done (by kernel_rfl) ?_
            rw [midQ_normal]
            exact leaf _ _ ga gb gc hga hgb hgc (by first | exact n_gb_ga | exact Ne.symm n_ga_gb) (by first | exact n_gc_ga | exact Ne.symm n_ga_gc) (by first | exact n_gc_gb | exact Ne.symm n_gb_gc) n_ga_gr n_ga_gp n_gb_gr n_gb_gp n_gc_gr n_gc_gp hb_ga hb_gb hb_gc rfl (by simp [S]) (by intro x y hx; simp only [B, upd_apply] at hx ⊢; grind)
          · simp [hpr, Ne.symm hpr, n_gc_gr, Ne.symm n_gc_gr, n_gc_gp, Ne.symm n_gc_gp, n_ga_gr, Ne.symm n_ga_gr, n_ga_gp, Ne.symm n_ga_gp, n_ga_gc, Ne.symm n_ga_gc, hbr, hbp, hb_gc, hb_ga]
            refine DL_one (i := 8) true (by kernel_rfl) rfl rfl (by kernel_rfl) ?_
            simp [hpr, Ne.symm hpr, n_gc_gr, Ne.symm n_gc_gr, n_gc_gp, Ne.symm n_gc_gp, n_ga_gr, Ne.symm n_ga_gr, n_ga_gp, Ne.symm n_ga_gp, n_ga_gc, Ne.symm n_ga_gc, hbr, hbp, hb_gc, hb_ga]
            refine ⟨by omega, by unfold maxLen; omega, ?_⟩
            intro gb hgb
            intros
            have n_gb_gr : ¬gb = gr := by assumption
            have n_gb_gp : ¬gb = gp := by assumption
            have n_gb_gc : ¬gb = gc := by assumption
            have n_gb_ga : ¬gb = ga := by assumption
            have hb_gb : bl gb = none := by assumption
            refine DL_one (i := 14) true (by kernel_rfl) rfl rfl (by kernel_rfl) ?_
            simp [hpr, Ne.symm hpr, n_gc_gr, Ne.symm n_gc_gr, n_gc_gp, Ne.symm n_gc_gp, n_ga_gr, Ne.symm n_ga_gr, n_ga_gp, Ne.symm n_ga_gp, n_ga_gc, Ne.symm n_ga_gc, n_gb_gr, Ne.symm n_gb_gr, n_gb_gp, Ne.symm n_gb_gp, n_gb_gc, Ne.symm n_gb_gc, n_gb_ga, Ne.symm n_gb_ga, hbr, hbp, hb_gc, hb_ga, hb_gb]
            refine DL_one (i := 15) true (by kernel_rfl) rfl rfl (by kernel_rfl) ?_
            simp [hpr, Ne.symm hpr, n_gc_gr, Ne.symm n_gc_gr, n_gc_gp, Ne.symm n_gc_gp, n_ga_gr, Ne.symm n_ga_gr, n_ga_gp, Ne.symm n_ga_gp, n_ga_gc, Ne.symm n_ga_gc, n_gb_gr, Ne.symm n_gb_gr, n_gb_gp, Ne.symm n_gb_gp, n_gb_gc, Ne.symm n_gb_gc, n_gb_ga, Ne.symm n_gb_ga, hbr, hbp, hb_gc, hb_ga, hb_gb]
            refine DL_one (i := 16) true (by kernel_rfl) rfl rfl (by kernel_rfl) ?_
            simp [hpr, Ne.symm hpr, n_gc_gr, Ne.symm n_gc_gr, n_gc_gp, Ne.symm n_gc_gp, n_ga_gr, Ne.symm n_ga_gr, n_ga_gp, Ne.symm n_ga_gp, n_ga_gc, Ne.symm n_ga_gc, n_gb_gr, Ne.symm n_gb_gr, n_gb_gp, Ne.symm n_gb_gp, n_gb_gc, Ne.symm n_gb_gc, n_gb_ga, Ne.symm n_gb_ga, hbr, hbp, hb_gc, hb_ga, hb_gb]
            refine DL_one (i := 17) true (by kernel_rfl) rfl rfl (by kernel_rfl) ?_
            simp [hpr, Ne.symm hpr, n_gc_gr, Ne.symm n_gc_gr, n_gc_gp, Ne.symm n_gc_gp, n_ga_gr, Ne.symm n_ga_gr, n_ga_gp, Ne.symm n_ga_gp, n_ga_gc, Ne.symm n_ga_gc, n_gb_gr, Ne.symm n_gb_gr, n_gb_gp, Ne.symm n_gb_gp, n_gb_gc, Ne.symm n_gb_gc, n_gb_ga, Ne.symm n_gb_ga, hbr, hbp, hb_gc, hb_ga, hb_gb]
            refine DL_done (by kernel_rfl) ?_
            rw [midQ_normal]
            exact leaf _ _ ga gb gc hga hgb hgc (by first | exact n_gb_ga | exact Ne.symm n_ga_gb) (by first | exact n_gc_ga | exact Ne.symm n_ga_gc) (by first | exact n_gc_gb | exact Ne.symm n_gb_gc) n_ga_gr n_ga_gp n_gb_gr n_gb_gp n_gc_gr n_gc_gp hb_ga hb_gb hb_gc rfl (by simp [S]) (by intro x y hx; simp only [B, upd_apply] at hx ⊢; grind)
      · simp [hpr, Ne.symm hpr, n_gc_gr, Ne.symm n_gc_gr, n_gc_gp, Ne.symm n_gc_gp, hbr, hbp, hb_gc]
        refine ⟨by omega, by unfold maxLen; omega, ?_⟩
        intro gb hgb
        intros
        have n_gb_gr : ¬gb = gr := by assumption
        have n_gb_gp : ¬gb = gp := by assumption
        have n_gb_gc : ¬gb = gc := by assumption
        have hb_gb : bl gb = none := by assumption
        refine ⟨by simp [hpr, Ne.symm hpr, n_gc_gr, Ne.symm n_gc_gr, n_gc_gp, Ne.symm n_gc_gp, n_gb_gr, Ne.symm n_gb_gr, n_gb_gp, Ne.symm n_gb_gp, n_gb_gc, Ne.symm n_gb_gc, hbr, hbp, hb_gc, hb_gb], ?_⟩
        refine DL_one (i := 5) false (by kernel_rfl) rfl rfl (by kernel_rfl) ?_
        simp [hpr, Ne.symm hpr, n_gc_gr, Ne.symm n_gc_gr, n_gc_gp, Ne.symm n_gc_gp, n_gb_gr, Ne.symm n_gb_gr, n_gb_gp, Ne.symm n_gb_gp, n_gb_gc, Ne.symm n_gb_gc, hbr, hbp, hb_gc, hb_gb]
        refine ⟨by omega, by unfold maxLen; omega, ?_⟩
        intro ga hga
        intros
        have n_ga_gr : ¬ga = gr := by assumption
        have n_ga_gp : ¬ga = gp := by assumption
        have n_ga_gc : ¬ga = gc := by assumption
        have n_ga_gb : ¬ga = gb := by assumption
        have hb_ga : bl ga = none := by assumption
        refine ⟨by simp [hpr, Ne.symm hpr, n_gc_gr, Ne.symm n_gc_gr, n_gc_gp, Ne.symm n_gc_gp, n_gb_gr, Ne.symm n_gb_gr, n_gb_gp, Ne.symm n_gb_gp, n_gb_gc, Ne.symm n_gb_gc, n_ga_gr, Ne.symm n_ga_gr, n_ga_gp, Ne.symm n_ga_gp, n_ga_gc, Ne.symm n_ga_gc, n_ga_gb, Ne.symm n_ga_gb, hbr, hbp, hb_gc, hb_gb, hb_ga], ?_⟩
        refine DL_one (i := 12) true (by kernel_rfl) rfl rfl (by kernel_rfl) ?_
        simp [hpr, Ne.symm hpr, n_gc_gr, Ne.symm n_gc_gr, n_gc_gp, Ne.symm n_gc_gp, n_gb_gr, Ne.symm n_gb_gr, n_gb_gp, Ne.symm n_gb_gp, n_gb_gc, Ne.symm n_gb_gc, n_ga_gr, Ne.symm n_ga_gr, n_ga_gp, Ne.symm n_ga_gp, n_ga_gc, Ne.symm n_ga_gc, n_ga_gb, Ne.symm n_ga_gb, hbr, hbp, hb_gc, hb_gb, hb_ga]
        refine DL_one (i := 13) true (by kernel_rfl) rfl rfl (by kernel_rfl) ?_
        simp [hpr, Ne.symm hpr, n_gc_gr, Ne.symm n_gc_gr, n_gc_gp, Ne.symm n_gc_gp, n_gb_gr, Ne.symm n_gb_gr, n_gb_gp, Ne.symm n_gb_gp, n_gb_gc, Ne.symm n_gb_gc, n_ga_gr, Ne.symm n_ga_gr, n_ga_gp, Ne.symm n_ga_gp, n_ga_gc, Ne.symm n_ga_gc, n_ga_gb, Ne.symm n_ga_gb, hbr, hbp, hb_gc, hb_gb, hb_ga]
        refine DL_one (i := 14) true (by kernel_rfl) rfl rfl (by kernel_rfl) ?_
        simp [hpr, Ne.symm hpr, n_gc_gr, Ne.symm n_gc_gr, n_gc_gp, Ne.symm n_gc_gp, n_gb_gr, Ne.symm n_gb_gr, n_gb_gp, Ne.symm n_gb_gp, n_gb_gc, Ne.symm n_gb_gc, n_ga_gr, Ne.symm n_ga_gr, n_ga_gp, Ne.symm n_ga_gp, n_ga_gc, Ne.symm n_ga_gc, n_ga_gb, Ne.symm n_ga_gb, hbr, hbp, hb_gc, hb_gb, hb_ga]
        refine DL_one (i := 15) true (by kernel_rfl) rfl rfl (by kernel_rfl) ?_
        simp [hpr, Ne.symm hpr, n_gc_gr, Ne.symm n_gc_gr, n_gc_gp, Ne.symm n_gc_gp, n_gb_gr, Ne.symm n_gb_gr, n_gb_gp, Ne.symm n_gb_gp, n_gb_gc, Ne.symm n_gb_gc, n_ga_gr, Ne.symm n_ga_gr, n_ga_gp, Ne.symm n_ga_gp, n_ga_gc, Ne.symm n_ga_gc, n_ga_gb, Ne.symm n_ga_gb, hbr, hbp, hb_gc, hb_gb, hb_ga]
        refine DL_one (i := 16) true (by kernel_rfl) rfl rfl (by kernel_rfl) ?_
        simp [hpr, Ne.symm hpr, n_gc_gr, Ne.symm n_gc_gr, n_gc_gp, Ne.symm n_gc_gp, n_gb_gr, Ne.symm n_gb_gr, n_gb_gp, Ne.symm n_gb_gp, n_gb_gc, Ne.symm n_gb_gc, n_ga_gr, Ne.symm n_ga_gr, n_ga_gp, Ne.symm n_ga_gp, n_ga_gc, Ne.symm n_ga_gc, n_ga_gb, Ne.symm n_ga_gb, hbr, hbp, hb_gc, hb_gb, hb_ga]
        refine DL_one (i := 17) true (by kernel_rfl) rfl rfl (by kernel_rfl) ?_
        simp [hpr, Ne.symm hpr, n_gc_gr, Ne.symm n_gc_gr, n_gc_gp, Ne.symm n_gc_gp, n_gb_gr, Ne.symm n_gb_gr, n_gb_gp, Ne.symm n_gb_gp, n_gb_gc, Ne.symm n_gb_gc, n_ga_gr, Ne.symm n_ga_gr, n_ga_gp, Ne.symm n_ga_gp, n_ga_gc, Ne.symm n_ga_gc, n_ga_gb, Ne.symm n_ga_gb, hbr, hbp, hb_gc, hb_gb, hb_ga]
        refine DL_done (by kernel_rfl) ?_
        rw [midQ_normal]
        exact leaf _ _ ga gb gc hga hgb hgc (by first | exact n_gb_ga | exact Ne.symm n_ga_gb) (by first | exact n_gc_ga | exact Ne.symm n_ga_gc) (by first | exact n_gc_gb | exact Ne.symm n_gb_gc) n_ga_gr n_ga_gp n_gb_gr n_gb_gp n_gc_gr n_gc_gp hb_ga hb_gb hb_gc rfl (by simp [S]) (by intro x y hx; simp only [B, upd_apply] at hx ⊢; grind)
  rintro ⟨ga, gb, gc⟩ ⟨a0, b0, c0, ba, ca, cb, ar, ap, br, bp, cr, cp, fa, fb, fc⟩
  simp only at a0 b0 c0 ba ca cb ar ap br bp cr cp fa fb fc
  simp only [S, B]
  clear leaf S B
  obtain ⟨BB, hBB⟩ : ∃ BB : List (List V) → List (List V) → Int → Option Blk, BB = fun ea eb => upd (upd (upd (upd (upd bl gr (some ⟨5, [[.int .i64 0, .int .i64 0, .nils, .nils, .nils]]⟩)) gp (some ⟨5, [[.int .i64 (nR s), .int .i64 (nC s), .lsl ga 1 0 nA, .lsl gb 1 0 (nR s), .lsl gc 1 0 (nC s)]]⟩)) ga (some ⟨1, ea⟩)) gb (some ⟨1, eb⟩)) gc (some ⟨1, List.replicate (nC s) [.int .i64 0]⟩) := ⟨_, rfl⟩
  have hBr : ∀ ea eb, BB ea eb gr = some ⟨5, [[.int .i64 0, .int .i64 0, .nils, .nils, .nils]]⟩ := fun ea eb => by rw [hBB]; simp [hpr, Ne.symm hpr, ar, br, cr, Ne.symm ar, Ne.symm br, Ne.symm cr]
  have hBp : ∀ ea eb, BB ea eb gp = some ⟨5, [[.int .i64 (nR s), .int .i64 (nC s), .lsl ga 1 0 nA, .lsl gb 1 0 (nR s), .lsl gc 1 0 (nC s)]]⟩ := fun ea eb => by rw [hBB]; simp [ap, bp, cp, Ne.symm ap, Ne.symm bp, Ne.symm cp]
  have hBa : ∀ ea eb, BB ea eb ga = some ⟨1, ea⟩ := fun ea eb => by rw [hBB]; simp [ba, ca, Ne.symm ba, Ne.symm ca]
  have hBb : ∀ ea eb, BB ea eb gb = some ⟨1, eb⟩ := fun ea eb => by rw [hBB]; simp [cb, Ne.symm cb]
  have hBc : ∀ ea eb, BB ea eb gc = some ⟨1, List.replicate (nC s) [.int .i64 0]⟩ := fun ea eb => by rw [hBB]; simp
  have hBs : ∀ ea eb, Sub bl (BB ea eb) := fun ea eb => by rw [hBB]; simp [hbr, hbp, fa, fb, fc]
  have hBua : ∀ ea eb e, upd (BB ea eb) ga (some ⟨1, e⟩) = BB e eb := fun ea eb e => by
    rw [hBB]; funext x; simp only [upd_apply]; grind
  have hBub : ∀ ea eb e, upd (BB ea eb) gb (some ⟨1, e⟩) = BB ea e := fun ea eb e => by
    rw [hBB]; funext x; simp only [upd_apply]; grind
  have hB0 : upd (upd (upd (upd (upd bl gr (some ⟨5, [[.int .i64 0, .int .i64 0, .nils, .nils, .nils]]⟩)) gp (some ⟨5, [[.int .i64 (nR s), .int .i64 (nC s), .lsl ga 1 0 nA, .lsl gb 1 0 (nR s), .lsl gc 1 0 (nC s)]]⟩)) ga (some ⟨1, List.replicate nA [.int .i64 0]⟩)) gb (some ⟨1, List.replicate (nR s) [.int .i64 0]⟩)) gc (some ⟨1, List.replicate (nC s) [.int .i64 0]⟩) = BB (part (iv (aTo s nA)) [.int .i64 0] 0) (part (iv (right s l)) [.int .i64 0] 0) := by
    rw [hBB]; simp [right_length]
  rw [hB0]
  clear hB0 hBB
  refine AW_run ?_
  simp [er]
  refine AW_for (fun i : Nat => [(0, .ptr s.c), (1, .sl (iv l)), (8, .loc gr 5 0 0), (10, .sl (cv (cols s.ms))), (11, .loc gp 5 0 0), (46, .sl (ivv (eqRows s))), (47, .int .i64 (nR s)), (48, .int .i64 i)]) (fun i => BB (part (iv (aTo s nA)) [.int .i64 0] (i * nC s)) (part (iv (right s l)) [.int .i64 0] 0)) (fun i => i ≤ nR s) (fun i => nR s - i) 113 0 (Nat.zero_le _) ⟨rfl, by simp, sub_eq (by simp)⟩ ?_
  intro i hi
  refine AW_run ?_
  simp
  refine ⟨fun h => ?_, fun h => ?_⟩
  · have hie : i < (eqRows s).length := by omega
    simp [hie]
    obtain ⟨row, hrow⟩ : ∃ r, (eqRows s)[i] = r := ⟨_, rfl⟩
    have lrow : row.length = s.ms.length := eqRows_len s row (hrow ▸ List.getElem_mem hie)
    rw [hrow]
    refine AW_for (fun c : Nat => [(0, .ptr s.c), (1, .sl (iv l)), (8, .loc gr 5 0 0), (10, .sl (cv (cols s.ms))), (11, .loc gp 5 0 0), (12, .int .i64 i), (13, .sl (iv row)), (46, .sl (ivv (eqRows s))), (47, .int .i64 (nR s)), (48, .int .i64 i), (53, .sl (cv (cols s.ms))), (54, .int .i64 (nC s)), (55, .int .i64 c)]) (fun c => BB (part (iv (aTo s nA)) [.int .i64 0] (i * nC s + c)) (part (iv (right s l)) [.int .i64 0] 0)) (fun c => c ≤ nC s) (fun c => nC s - c) 113 0 (Nat.zero_le _) ⟨rfl, by simp [ec], sub_eq (by simp)⟩ ?_
    intro c hc
    refine AW_run ?_
    simp
    refine ⟨fun hcl => ?_, fun hcl => ?_⟩
    · have hcc : c < (cols s.ms).length := hcl
      obtain ⟨⟨k0, k1⟩, k2⟩ := colAt_ok s c hcl
      have qc : (cv (cols s.ms))[c]? = some [.int .i64 (colAt s c).1, .int .i64 (colAt s c).2] := by simp [cv, colAt, hcc]
      simp [qc]
      intro g1 hg1 hb1
      have n1p : g1 ≠ gp := fun e => by rw [e, hBp] at hb1; cases hb1
      have n1a : g1 ≠ ga := fun e => by rw [e, hBa] at hb1; cases hb1
      have f1 := fresh_of (hBs _ _) hb1
      obtain ⟨⟨k, sg⟩, hk⟩ : ∃ k, colAt s c = k := ⟨_, rfl⟩
      rw [hk] at k0 k1 k2 ⊢
      simp only at k0 k1 k2 ⊢
      have en : ent s i c = sg * lat row k.toNat := by
        unfold ent
        rw [hk, rowsF_flat, flat_at _ (eqRows_len s) i k.toNat hie (by omega), hrow]
      have bd : -100 ≤ lat row k.toNat ∧ lat row k.toNat ≤ 100 := by
        rw [← hrow, ← flat_at _ (eqRows_len s) i k.toNat hie (by omega), ← rowsF_flat]; exact rowsF_le hs _
      have qr : (iv row)[k.toNat]? = some [.int .i64 (lat row k.toNat)] := iv_at (by omega)
      have w6 : IntKind.i64.wrap (sg * lat row k.toNat) = ent s i c := by
        rw [en]; rcases k2 with rfl | rfl <;> exact i64_in (by omega) (by omega)
      have mc : (i + 1) * nC s ≤ nA := by rw [hA]; exact Nat.mul_le_mul_right _ h
      rw [Nat.add_mul] at mc
      have mi : ((i * nC s : Nat) : Int) = (i : Int) * nC s := by simp
      have w4 : IntKind.i64.wrap ((i : Int) * nC s) = (i : Int) * nC s := i64_in (by omega) (by omega)
      have w5 : IntKind.i64.wrap ((i : Int) * nC s + c) = (i : Int) * nC s + c := i64_in (by omega) (by omega)
      have w7 : IntKind.i64.wrap ((c : Int) + 1) = c + 1 := i64_in (by omega) (by omega)
      have e1 : ((i : Int) * nC s + c).toNat = i * nC s + c := by omega
      have p1 : 0 ≤ (i : Int) * nC s + c := by omega
      have p2 : (i : Int) * nC s + c < nA := by omega
      have p3 : k < row.length := by omega
      have hlt : i * nC s + c < (iv (aTo s nA)).length := by simp; omega
      have ps := part_set (iv (aTo s nA)) [.int .i64 0] (i * nC s + c) hlt [.int .i64 (ent s i c)] (by
        rw [aTo_at s nA _ (by omega), Nat.mul_comm i, Nat.mul_add_div (by omega), Nat.mul_add_mod, Nat.div_eq_of_lt hcl, Nat.mod_eq_of_lt hcl, Nat.add_zero])
      have hK : Sub (upd (upd bl gp (some ⟨5, [[.int .i64 (nR s), .int .i64 (nC s), .lsl ga 1 0 nA, .lsl gb 1 0 (nR s), .lsl gc 1 0 (nC s)]]⟩)) g1 (some ⟨2, [[.int .i64 k, .int .i64 sg]]⟩)) (upd (BB (part (iv (aTo s nA)) [.int .i64 0] (i * nC s + c)) (List.replicate (right s l).length [.int .i64 0])) g1 (some ⟨2, [[.int .i64 k, .int .i64 sg]]⟩)) := by
        refine sub_same fun x y hx => ?_
        rw [upd_apply] at hx
        split at hx
        · rename_i e; rw [e, hBp]; exact hx
        · exact hBs _ _ x y hx
      have hkr : k.toNat < row.length := by omega
      have er2 : row[k.toNat]'hkr = lat row k.toNat := by simp [lat, hkr]
      refine AW_mixedB mixedO _ hK [0, 1, 2, 3, 4, 5, 6, 7, 8, 9, 10, 11, 12, 13, 14, 15, 16] 1 (by kernel_rfl) ?_
      simp [-iv_get, n1p, Ne.symm n1p, w4, w5, w6, qr, k0, p1, p2, p3, er2]
      refine DAny_one (i := 17) (by kernel_rfl) rfl rfl ?_
      have pg := part_get (iv (aTo s nA)) [.int .i64 0] (i * nC s + c) hlt
      simp [n1a, Ne.symm n1a, hBa, e1, pg, ps, er2, w6]
      have hK2 : ∀ z, Sub (upd (upd bl gp (some ⟨5, [[.int .i64 (nR s), .int .i64 (nC s), .lsl ga 1 0 nA, .lsl gb 1 0 (nR s), .lsl gc 1 0 (nC s)]]⟩)) g1 (some ⟨2, [[.int .i64 k, .int .i64 sg]]⟩)) (upd (upd (BB (part (iv (aTo s nA)) [.int .i64 0] (i * nC s + c)) (List.replicate (right s l).length [.int .i64 0])) g1 (some ⟨2, [[.int .i64 k, .int .i64 sg]]⟩)) ga z) := by
        intro z x y hx
        have hxa : x ≠ ga := fun e => by
          rw [e, upd_apply, if_neg (Ne.symm n1a), upd_apply, if_neg ap, fa] at hx; cases hx
        rw [upd_apply, if_neg hxa]
        exact hK x y hx
      refine ⟨hK2 _, DAny_done (by kernel_rfl) ?_⟩
      simp [w7, loopQ_normal]
      refine ⟨c + 1, by omega, by omega, rfl, by simp, ?_⟩
      intro x y hx
      show upd (upd (BB _ _) g1 _) ga _ x = some y
      rw [upd_apply, upd_apply]
      split
      · rename_i e; rw [e, hBa] at hx; exact hx
      · rename_i e
        rw [if_neg (fun e => by rw [e] at hx; rw [← hBua (part (iv (aTo s nA)) [.int .i64 0] (i * nC s + c)), upd_apply, if_neg n1a, hb1] at hx; cases hx)]
        rw [← hBua (part (iv (aTo s nA)) [.int .i64 0] (i * nC s + c)), upd_apply, if_neg e] at hx
        exact hx
    · have : c = nC s := by omega
      subst this
      have w7 : IntKind.i64.wrap ((i : Int) + 1) = i + 1 := i64_in (by omega) (by omega)
      simp [w7, loopQ_normal]
      exact ⟨i + 1, by omega, by omega, rfl, by simp, sub_eq (by rw [Nat.add_mul, Nat.one_mul])⟩
  · have : i = nR s := by omega
    subst this
    rw [← hA, part_all _ _ _ (by simp)]
    refine callP_ro (freeJoints_ro s (by omega)) ?_
    simp
    refine AW_for (fun i : Nat => [(1, .sl (iv l)), (8, .loc gr 5 0 0), (11, .loc gp 5 0 0), (80, .sl (iv (frees s.js))), (81, .int .i64 (frees s.js).length), (82, .int .i64 i)]) (fun i => BB (iv (aTo s nA)) (part (iv (right s l)) [.int .i64 0] (2 * i))) (fun i => i ≤ (frees s.js).length) (fun i => (frees s.js).length - i) 113 0 (Nat.zero_le _) ⟨rfl, by simp, sub_eq (by simp)⟩ ?_
    intro i hi
    refine AW_run ?_
    simp
    refine ⟨fun h => ?_, fun h => ?_⟩
    · obtain ⟨r1, r2⟩ := frees_range (List.getElem_mem h)
      have ra := right_at s l (frees s.js) i h
      simp [h]
      obtain ⟨j, hj⟩ : ∃ j, (frees s.js)[i] = j := ⟨_, rfl⟩
      rw [hj] at r1 r2 ra ⊢
      change lat (right s l) (2 * i) = _ ∧ lat (right s l) (2 * i + 1) = _ at ra
      have a1 : (2 * j).toNat < l.length := by rw [hL.n]; omega
      have a2 : (2 * j + 1).toNat < l.length := by rw [hL.n]; omega
      have b1 := hL.f _ a1
      have b2 := hL.f _ a2
      have q1 := iv_at a1
      have q2 := iv_at a2
      have w1 : IntKind.i64.wrap (2 * j) = 2 * j := i64_in (by omega) (by omega)
      have w2 : IntKind.i64.wrap (2 * j + 1) = 2 * j + 1 := i64_in (by omega) (by omega)
      have w3 : IntKind.i64.wrap (-lat l (2 * j).toNat) = lat (right s l) (2 * i) := by rw [ra.1]; exact i64_in (by omega) (by omega)
      have w4 : IntKind.i64.wrap (-lat l (2 * j + 1).toNat) = lat (right s l) (2 * i + 1) := by rw [ra.2]; exact i64_in (by omega) (by omega)
      have w5 : IntKind.i64.wrap ((i : Int) + 1) = i + 1 := i64_in (by omega) (by omega)
      have w6 : IntKind.i64.wrap (2 * (i : Int)) = 2 * i := i64_in (by omega) (by omega)
      have w7 : IntKind.i64.wrap (2 * (i : Int) + 1) = 2 * i + 1 := i64_in (by omega) (by omega)
      have p1 : 0 ≤ 2 * j := by omega
      have p2 : 0 ≤ 2 * j + 1 := by omega
      have p3 : 2 * (i : Int) < nR s := by unfold nR; omega
      have p4 : 2 * (i : Int) + 1 < nR s := by unfold nR; omega
      have t1 : (2 * (i : Int)).toNat = 2 * i := by omega
      have t2 : (2 * (i : Int) + 1).toNat = 2 * i + 1 := by omega
      have hl1 : 2 * i < (iv (right s l)).length := by rw [iv_length, right_length]; omega
      have hl2 : 2 * i + 1 < (iv (right s l)).length := by rw [iv_length, right_length]; omega
      have hK : Sub (upd bl gp (some ⟨5, [[.int .i64 (nR s), .int .i64 (nC s), .lsl ga 1 0 nA, .lsl gb 1 0 (nR s), .lsl gc 1 0 (nC s)]]⟩)) (BB (iv (aTo s nA)) (part (iv (right s l)) [.int .i64 0] (2 * i))) := by
        intro x y hx
        rw [upd_apply] at hx
        split at hx
        · rename_i e; rw [e, hBp]; exact hx
        · exact hBs _ _ x y hx
      have hK2 : ∀ e, Sub (upd bl gp (some ⟨5, [[.int .i64 (nR s), .int .i64 (nC s), .lsl ga 1 0 nA, .lsl gb 1 0 (nR s), .lsl gc 1 0 (nC s)]]⟩)) (BB (iv (aTo s nA)) e) := by
        intro e x y hx
        rw [upd_apply] at hx
        split at hx
        · rename_i e; rw [e, hBp]; exact hx
        · exact hBs _ _ x y hx
      have g1 := part_get (iv (right s l)) [.int .i64 0] (2 * i) hl1
      have g2 := part_get (iv (right s l)) [.int .i64 0] (2 * i + 1) hl2
      have s1 := part_set (iv (right s l)) [.int .i64 0] (2 * i) hl1 [.int .i64 (lat (right s l) (2 * i))] (by
        have := iv_at (l := right s l) (i := 2 * i) (by simpa using hl1); rw [List.getElem?_eq_getElem hl1] at this; exact (Option.some.inj this).symm)
      have s2 := part_set (iv (right s l)) [.int .i64 0] (2 * i + 1) hl2 [.int .i64 (lat (right s l) (2 * i + 1))] (by
        have := iv_at (l := right s l) (i := 2 * i + 1) (by simpa using hl2); rw [List.getElem?_eq_getElem hl2] at this; exact (Option.some.inj this).symm)
      refine AW_mixedB mixedO _ hK [0, 1, 2, 3, 4, 5, 6, 7, 8, 9, 10, 11, 12, 13, 14, 15, 16, 17, 18, 19, 20, 21, 22] 3 (by kernel_rfl) ?_
      have p5 : 0 ≤ 2 * (i : Int) := by omega
      have p6 : 0 ≤ 2 * (i : Int) + 1 := by omega
      simp [-iv_get, w1, w2, w3, w4, w6, w7, q1, q2, p1, p2, p3, p4, p5, p6]
      refine DAny_one (i := 23) (by kernel_rfl) (by rfl) (by rfl) ?_
      simp [hBb, t1, g1, s1, hBub]
      refine ⟨hK2 _, DAny_one (i := 24) (by kernel_rfl) (by rfl) (by rfl) ?_⟩
      simp [p4, p6]
      refine ⟨hK2 _, DAny_one (i := 25) (by kernel_rfl) (by rfl) (by rfl) ?_⟩
      simp [hBb, t2, g2, s2, hBub]
      refine ⟨hK2 _, DAny_done (by kernel_rfl) ?_⟩
      simp [w5, loopQ_normal]
      exact ⟨i + 1, by omega, by omega, rfl, by simp, sub_eq (by rw [Nat.mul_add])⟩
    · have : i = (frees s.js).length := by omega
      subst this
      have hall : part (iv (right s l)) [.int .i64 0] (2 * (frees s.js).length) = iv (right s l) := by
        have e : (iv (right s l)).length = 2 * (frees s.js).length := by rw [iv_length, right_length]; rfl
        rw [← e]; exact part_all _ _ _ (Nat.le_refl _)
      rw [hall]
      simp [hBp, hBr]
      refine retNW [.agg [.int .i64 (nR s), .int .i64 (nC s), .lsl ga 1 0 nA, .lsl gb 1 0 (nR s), .lsl gc 1 0 (nC s)]] [ga, gb, gc] (by simp) ?_ (by simp [fa, fb, fc]) ?_
      · show OwnD _ (.a _) (.agg _) _
        rw [OwnD]
        refine ⟨_, rfl, own_cons (own_int _) (own_cons (own_int _) (own_cons (g1 := [ga]) (own_iv.2 (.inr ⟨ga, by simp [fprog, hA], rfl, ?_, by omega⟩)) (own_cons (g1 := [gb]) (own_iv.2 (.inr ⟨gb, by simp [fprog, right_length], rfl, ?_, by omega⟩)) (own_cons (g1 := [gc]) (own_iv.2 (.inr ⟨gc, by simp [fprog], rfl, ?_, by omega⟩)) own_nil (by simp)) (by simp [Ne.symm cb])) (by simp [Ne.symm ba, Ne.symm ca])) (by simp)) (by simp)⟩
        · simp [ar, hBa, fprog, hA]
        · simp [br, hBb, fprog]
        · simp [cr, hBc, fprog, iv]
      · intro x y hx
        have hxr : x ≠ gr := fun e => by rw [e, hbr] at hx; cases hx
        simp [hxr]
        exact hBs _ _ x y hx

end Go.Proofs.YticmgmemnpcbbaaGreat.Vm

namespace Go.Proofs.YticmgmemnpcbbaaGreat.Vm
open Go Go.Proofs
set_option linter.unusedSimpArgs false
set_option linter.unusedVariables false

def noPg : Pg := ⟨0, 0, [], [], []⟩
def fpOf (s : Str) (l : List Int) : Pg := if lOk s l = true then fprog s l else noPg

def pgEq (p q : Pg) : Bool := decide (p.rows = q.rows) && (decide (p.cols = q.cols) && (decide (p.a = q.a) && (decide (p.b = q.b) && decide (p.c = q.c))))
@[simp] theorem pgEq_self (p : Pg) : pgEq p p = true := by simp [pgEq]
/-- The marks of a program from k on. -/
def mkP (k : Nat) (p : Pg) : Pg := ⟨p.rows, p.cols, marks k p.a.length, marks (k + p.a.length : Nat) p.b.length, marks (k + p.a.length + p.b.length : Nat) p.c.length⟩
def mkPN (k : Nat) (p : Pg) : Nat := k + p.a.length + p.b.length + p.c.length

end Go.Proofs.YticmgmemnpcbbaaGreat.Vm

namespace Go.Proofs.YticmgmemnpcbbaaGreat.Vm
open Go Go.Proofs
set_option linter.unusedSimpArgs false
set_option linter.unusedVariables false

theorem dPg_dep (p : Pg) : (dPg p).dep 2 := by simp [dPg, D.dep, D.depL, fl_dep]
theorem dPg_fz (p : Pg) : (dPg p).fz = .agg p.v := by simp [dPg, D.fz, D.fzL, Pg.v]
end Go.Proofs.YticmgmemnpcbbaaGreat.Vm

namespace Go.Proofs.YticmgmemnpcbbaaGreat.Vm
open Go Go.Proofs
set_option linter.unusedSimpArgs false
set_option linter.unusedVariables false

def bv (bs : List Int) : List (List V) := bs.map fun b => [.int .u8 b]
@[simp] theorem bv_length (bs : List Int) : (bv bs).length = bs.length := by simp [bv]
theorem bv_get (bs : List Int) (i : Nat) (h : i < bs.length) : (bv bs)[i]? = some [.int .u8 bs[i]] := by simp [bv, h]
@[simp] theorem bv_getE (bs : List Int) (i : Nat) (h : i < (bv bs).length) : (bv bs)[i] = [.int .u8 (bs[i]'(by simpa using h))] := by simp [bv]
/-- A cursor over a code. -/
def cur (bs : List Int) (i h : Int) : Blk := ⟨3, [[.sl (bv bs), .int .i64 i, .int .i64 h]]⟩
/-- The last eight bits. -/
def lo8 (a : Int) : Int := IntKind.i64.wrap ((BitVec.ofInt 64 a &&& BitVec.ofInt 64 255).toNat)
@[simp high] theorem binV_lo8 (P : Program) (t : TypeId) (a : Int) : binV P .and t (.int .i64 a) (.int .i64 255) = some (.int .i64 (lo8 a)) := rfl
def shrN (a : Int) (n : Nat) : Int := a.fdiv (2 ^ n)
def xorI (a b : Int) : Int := IntKind.i64.wrap ((BitVec.ofInt 64 a ^^^ BitVec.ofInt 64 b).toNat)
@[simp high] theorem binV_33 (P : Program) (t : TypeId) (a : Int) : binV P .shr t (.int .i64 a) (.int .u64 33) = some (.int .i64 (shrN a 33)) := rfl
@[simp high] theorem binV_45 (P : Program) (t : TypeId) (a : Int) : binV P .shr t (.int .i64 a) (.int .u64 45) = some (.int .i64 (shrN a 45)) := rfl
@[simp high] theorem binV_xorI (P : Program) (t : TypeId) (a b : Int) : binV P .xor t (.int .i64 a) (.int .i64 b) = some (.int .i64 (xorI a b)) := rfl
structure CurOk (bs : List Int) (i : Int) : Prop where
  n : bs.length ≤ 1048576
  b : ∀ x, x ∈ bs → 0 ≤ x ∧ x < 256
  i0 : 0 ≤ i
  i1 : i ≤ bs.length

end Go.Proofs.YticmgmemnpcbbaaGreat.Vm

namespace Go.Proofs.YticmgmemnpcbbaaGreat.Vm
open Go Go.Proofs
set_option linter.unusedSimpArgs false
set_option linter.unusedVariables false

def msk (a b : Int) : Int := IntKind.i64.wrap ((BitVec.ofInt 64 a &&& BitVec.ofInt 64 b).toNat)
end Go.Proofs.YticmgmemnpcbbaaGreat.Vm

namespace Go.Proofs.YticmgmemnpcbbaaGreat.Vm
open Go Go.Proofs
set_option linter.unusedSimpArgs false
set_option linter.unusedVariables false

structure LD where
  k : Nat
  ns : List Int
  i : Int
  h : Int

end Go.Proofs.YticmgmemnpcbbaaGreat.Vm

namespace Go.Proofs.YticmgmemnpcbbaaGreat.Vm
open Go Go.Proofs
set_option linter.unusedSimpArgs false
set_option linter.unusedVariables false

/-- What follows a structure drawn. -/
def StrK (bl : Int → Option Blk) (K : V → (Int → Option Blk) → Prop) (bs : List Int) (g : Int) : Prop :=
  ∀ (s : Str) (i' h' : Int) bl', sOk s = true → 3 ≤ s.js.length → CurOk bs i' → bl' g = some (cur bs i' h') → (∀ x y, x ≠ g → bl x = some y → bl' x = some y) → K (.agg s.c) bl'
def nmA : ByteArray := { data := #[97] }
def nmB : ByteArray := { data := #[98] }
def nmC : ByteArray := { data := #[99] }
def nmD : ByteArray := { data := #[100] }
def js3 (x1 x2 x3 x4 x5 x6 : Int) : List J := [⟨nmA, -1 - x1, x2, true⟩, ⟨nmB, 3 + x3, x4, true⟩, ⟨nmC, x5 - 1, -1 - x6, false⟩]
def ms2 (x7 : Int) : List Mb := [⟨0, 2, 1⟩, ⟨1, 2, x7⟩]
def js4 (x1 x2 x3 x4 x5 x6 x8 : Int) : List J := js3 x1 x2 x3 x4 x5 x6 ++ [⟨nmD, x8 - 1, -7, true⟩]
def ms3 (x7 x9 : Int) : List Mb := ms2 x7 ++ [⟨3, 2, x9⟩]
end Go.Proofs.YticmgmemnpcbbaaGreat.Vm

namespace Go.Proofs.YticmgmemnpcbbaaGreat.Vm
open Go Go.Proofs
set_option linter.unusedSimpArgs false
set_option linter.unusedVariables false

/-- Reading operations next. -/
theorem DAny_more {P : Program} {ops : Array Oper} {blK : Int → Option Blk} {tl : Nat → Bool} {K : St → Prop} {l : Array Bool} {σ : St} (is : List Nat) (fuel : Nat) (hs : Sub blK σ.bl) (hn : (is.all (fun i => decide (i < ops.size)) && hoistB ops is l && tailB ops tl is) = true)
    (h : HoistF P (ops.toList.map (·.dst)) blK (is.filterMap fun i => ops[i]?) (DAny P ops blK tl K fuel (setAll is l)) σ) : DAny P ops blK tl K (fuel + is.length) l σ := by
  simp only [Bool.and_eq_true] at hn
  exact DAny_hoist fuel is l σ (tailB_spec hn.2) hn.1.2 hs (Hoist_is _ is σ (filter_some is hn.1.1) h)

def tj (x1 x2 x3 x4 x5 x6 : Int) : List J := [⟨nmA, -2, x1, true⟩, ⟨nmB, 6, x2, true⟩, ⟨nmC, x3, -1 - x4, false⟩, ⟨nmD, 3 + x5, -1 - x6, false⟩]
structure TD where
  n : Nat
  ms : List Mb
  g : Int
  i : Int
  h : Int
def mGood (m : Mb) : Prop := (m.a = 0 ∨ m.a = 1 ∨ m.a = 2 ∨ m.a = 3) ∧ (m.b = 1 ∨ m.b = 2 ∨ m.b = 3) ∧ (1 ≤ m.kind ∧ m.kind ≤ 3) ∧ ((m.a ≤ 1 ∧ 2 ≤ m.b) ∨ (m.a = 2 ∧ m.b = 3) ∨ (m.a = 3 ∧ m.b = 1))
end Go.Proofs.YticmgmemnpcbbaaGreat.Vm

namespace Go.Proofs.YticmgmemnpcbbaaGreat.Vm
open Go Go.Proofs
set_option linter.unusedSimpArgs false
set_option linter.unusedVariables false

end Go.Proofs.YticmgmemnpcbbaaGreat.Vm

namespace Go.Proofs.YticmgmemnpcbbaaGreat.Vm
open Go Go.Proofs
set_option linter.unusedSimpArgs false
set_option linter.unusedVariables false

structure MD where
  us : List Int
  g : Int
  i : Int
  h : Int
  b : Int → Option Blk
def rq6 (us : List Int) : List RT := us.map fun u => ro (q6 u)
@[simp] theorem rq6_length (us : List Int) : (rq6 us).length = us.length := by simp [rq6]
end Go.Proofs.YticmgmemnpcbbaaGreat.Vm

namespace Go.Proofs.YticmgmemnpcbbaaGreat.Vm
open Go Go.Proofs
set_option linter.unusedSimpArgs false
set_option linter.unusedVariables false

@[simp] theorem roInts_length (a : List Int) : (roInts a).length = a.length := by simp [roInts]
theorem frz_sl3 {bl bl0 : Int → Option Blk} {g : Int} {n : Nat} {els : List (List V)} (h0 : 0 ≤ g ∨ n = 0) (hg : bl0 g = none) (hb : bl g = some ⟨3, els⟩) (hn : els.length = n) (hcl : els.all (fun e => e.all V.cl) = true) : frz (dropB bl bl0) 1 (.lsl g 3 0 n) = some (.sl els) := by
  rcases Int.lt_or_le g 0 with h | h
  · rcases h0 with h0 | h0
    · omega
    · have : els = [] := List.eq_nil_of_length_eq_zero (by omega)
      subst this
      simp [frz, h]
  · exact frz_slice h hg hb hn hcl
/-! ### Matrices in the laws -/
def MX.fit (m : MX) : Prop := fitQ m.cells 1048576 ∧ sumQ m.cells ≤ 100000000
def mkMx (k : Nat) (m : MX) : MX := ⟨m.r, m.c, mkQs k m.cells⟩
end Go.Proofs.YticmgmemnpcbbaaGreat.Vm

namespace Go.Proofs.YticmgmemnpcbbaaGreat.Vm
open Go Go.Proofs
set_option linter.unusedSimpArgs false
set_option linter.unusedVariables false

def appl (cells : List (List (Option Rat))) (v : List (Option Rat)) : List (Option Rat) := cells.map fun row => inTo row v row.length
end Go.Proofs.YticmgmemnpcbbaaGreat.Vm

namespace Go.Proofs.YticmgmemnpcbbaaGreat.Vm
open Go Go.Proofs
set_option linter.unusedSimpArgs false
set_option linter.unusedVariables false

def putOk (s : Str) (l : List Int) (j x y : Int) : Bool := lOk s l && (decide (0 ≤ j) && decide (j < s.js.length)) && (decide (-200 ≤ x) && decide (x ≤ 200)) && (decide (-200 ≤ y) && decide (y ≤ 200)) &&
  forceOk (lat l (2 * j.toNat) + x) && forceOk (lat l (2 * j.toNat + 1) + y)
def put1 (l : List Int) (j x : Int) : List Int := l.set (2 * j.toNat) (lat l (2 * j.toNat) + x)
def put2 (l : List Int) (j x y : Int) : List Int := (put1 l j x).set (2 * j.toNat + 1) (lat l (2 * j.toNat + 1) + y)
def putL (s : Str) (l : List Int) (j x y : Int) : List Int := if putOk s l j x y = true then put2 l j x y else []
def dOpt (ns : List Int) (b : Bool) : D := .t [fl 1 (iv ns), .c (.bool b)]
end Go.Proofs.YticmgmemnpcbbaaGreat.Vm

namespace Go.Proofs.YticmgmemnpcbbaaGreat.Vm
open Go Go.Proofs
set_option linter.unusedSimpArgs false
set_option linter.unusedVariables false

end Go.Proofs.YticmgmemnpcbbaaGreat.Vm

namespace Go.Proofs.YticmgmemnpcbbaaGreat.Vm
open Go Go.Proofs
set_option linter.unusedSimpArgs false
set_option linter.unusedVariables false

end Go.Proofs.YticmgmemnpcbbaaGreat.Vm

namespace Go.Proofs.YticmgmemnpcbbaaGreat.Vm
open Go Go.Proofs
set_option linter.unusedSimpArgs false
set_option linter.unusedVariables false

def szW : List (List Int) → Int → Int
  | [], left => left
  | w :: ws, left => if less left w.length < 0 then -1 else szW ws (less left w.length)
def szII (ws : List (List Int)) (left : Int) : Int := if less left ws.length < 0 then -1 else szW ws (less left ws.length)

/-! ### Marks -/
def lenTo (ws : List (List Int)) (i : Nat) : Nat := (ws.take i).flatten.length
/-- What is known of data whose marks don't matter any more: only where it lies. -/
def Some2 (bl : Int → Option Blk) (n : Nat) (v : V) (gs : List Int) : Prop := ∃ rows els, rows.length = n ∧ ((rows = [] ∧ v = .nils ∧ gs = []) ∨ ∃ g gs', v = .lsl g 1 0 n ∧ gs = g :: gs' ∧ g ∉ gs' ∧ bl g = some ⟨1, els⟩ ∧ (g < 0 → els = []) ∧ OwnR bl 1 rows els gs')

structure St2 where
  i : Nat
  b : Int → Option Blk

structure FitW (ws : List (List Int)) : Prop where
  n : ws.length ≤ 140737488351232
  w : ∀ w, w ∈ ws → w.length ≤ 140737488351232
end Go.Proofs.YticmgmemnpcbbaaGreat.Vm

namespace Go.Proofs.YticmgmemnpcbbaaGreat.Vm
open Go Go.Proofs
set_option linter.unusedSimpArgs false
set_option linter.unusedVariables false

/-! ### Mixtures -/
def mixC (ws : List (List Int)) (wt : List Int) (i : Nat) : Nat → Int
  | 0 => 0
  | c + 1 => mixC ws wt i c + lat wt c * lat (ws.getD c []) i
def mixL (m : Nat) (ws : List (List Int)) (wt : List Int) (c : Nat) : List Int := (List.range m).map fun i => mixC ws wt i c
@[simp] theorem mixL_length (m : Nat) (ws : List (List Int)) (wt : List Int) (c : Nat) : (mixL m ws wt c).length = m := by simp [mixL]
@[simp] theorem mixL_getE (m : Nat) (ws : List (List Int)) (wt : List Int) (c i : Nat) (h : i < (mixL m ws wt c).length) : (mixL m ws wt c)[i] = mixC ws wt i c := by simp [mixL]
theorem mixL_zero (m : Nat) (ws : List (List Int)) (wt : List Int) : mixL m ws wt 0 = List.replicate m 0 := by
  apply List.ext_getElem <;> simp [mixL, mixC]
def cOk (s : Str) (ws : List (List Int)) (wt : List Int) (c : Nat) : Bool := fitsL s.js (ws.getD c []) && (decide (0 ≤ lat wt c) && decide (lat wt c ≤ 100))
def mixOk (s : Str) (ws : List (List Int)) (wt : List Int) : Bool := decide (ws.length = wt.length) && decide (ws.length ≤ 10) && sOk s && decide (∀ c, c < ws.length → cOk s ws wt c = true) && fitsL s.js (mixL (2 * s.js.length) ws wt ws.length)
def mixR (s : Str) (ws : List (List Int)) (wt : List Int) : List Int := if mixOk s ws wt = true then mixL (2 * s.js.length) ws wt ws.length else []
end Go.Proofs.YticmgmemnpcbbaaGreat.Vm

namespace Go.Proofs.YticmgmemnpcbbaaGreat.Vm
open Go Go.Proofs
set_option linter.unusedSimpArgs false
set_option linter.unusedVariables false

end Go.Proofs.YticmgmemnpcbbaaGreat.Vm

namespace Go.Proofs.YticmgmemnpcbbaaGreat.Vm
open Go Go.Proofs
set_option linter.unusedSimpArgs false
set_option linter.unusedVariables false

end Go.Proofs.YticmgmemnpcbbaaGreat.Vm

namespace Go.Proofs.YticmgmemnpcbbaaGreat.Vm
open Go Go.Proofs
set_option linter.unusedSimpArgs false
set_option linter.unusedVariables false

/-- Reading operations, with guarded calls among them. -/
def HSeq (P : Program) (ops : Array Oper) (blK : Int → Option Blk) (last : List Nat) (K : St → Prop) : List (List Nat × Nat) → St → Prop
  | [] => HoistF P (ops.toList.map (·.dst)) blK (last.filterMap fun i => ops[i]?) K
  | (is, i) :: r => HoistF P (ops.toList.map (·.dst)) blK (is.filterMap fun i => ops[i]?) (HStep P ops blK i (HSeq P ops blK last K r))
def hIdx (last : List Nat) : List (List Nat × Nat) → List Nat
  | [] => last
  | (is, i) :: r => is ++ i :: hIdx last r
end Go.Proofs.YticmgmemnpcbbaaGreat.Vm

namespace Go.Proofs.YticmgmemnpcbbaaGreat.Vm
open Go Go.Proofs
set_option linter.unusedSimpArgs false
set_option linter.unusedVariables false

def dots (s : Str) (us : List Int) : List Int := (eqRows s).map fun w => dotTo w us s.ms.length
end Go.Proofs.YticmgmemnpcbbaaGreat.Vm

namespace Go.Proofs.YticmgmemnpcbbaaGreat.Vm
open Go Go.Proofs
set_option linter.unusedSimpArgs false
set_option linter.unusedVariables false

def dMf (m : MX) : List D := [.c (.int .i64 m.r), .c (.int .i64 m.c), fl 3 (rv m.cells)]
end Go.Proofs.YticmgmemnpcbbaaGreat.Vm

namespace Go.Proofs.YticmgmemnpcbbaaGreat.Vm
open Go Go.Proofs
set_option linter.unusedSimpArgs false
set_option linter.unusedVariables false

/-- A matrix with as many cells as it says, all of them numbers. -/
structure MOk (m : MX) (r c : Nat) : Prop where
  hr : m.r = r
  hc : m.c = c
  r24 : r ≤ 24
  c24 : c ≤ 24
  len : m.cells.length = r * c
  ok : allOk m.cells = true
  fq : fitQ m.cells 1048576
def trC (cells : List RT) (r c k : Nat) (i : Nat) : List RT := (List.range i).map fun i => cells.getD (i * c + k) rz
def trTo (cells : List RT) (r c k i : Nat) : List RT := ((List.range k).flatMap fun k => trC cells r c k r) ++ trC cells r c k i
theorem trTo_col (cells : List RT) (r c k : Nat) : trTo cells r c k r = trTo cells r c (k + 1) 0 := by simp [trTo, trC, List.range_succ, List.flatMap_append]
@[simp] theorem trC_length (cells : List RT) (r c k i : Nat) : (trC cells r c k i).length = i := by simp [trC]
theorem trTo_length (cells : List RT) (r c : Nat) : ∀ k i, (trTo cells r c k i).length = k * r + i
  | 0, i => by simp [trTo]
  | k + 1, i => by
    have := trTo_length cells r c k r
    rw [trTo_col] at this
    simp only [trTo, List.length_append, trC_length] at this ⊢
    rw [Nat.add_mul]; omega
def trM (m : MX) (r c : Nat) : MX := ⟨c, r, trTo m.cells r c c 0⟩
end Go.Proofs.YticmgmemnpcbbaaGreat.Vm

namespace Go.Proofs.YticmgmemnpcbbaaGreat.Vm
open Go Go.Proofs
set_option linter.unusedSimpArgs false
set_option linter.unusedVariables false

abbrev MF := Nat → Nat → Option Rat
def updM (M : MF) (i j : Nat) (v : Option Rat) : MF := fun a b => if a = i ∧ b = j then v else M a b
/-- Row by row, in one list. -/
def flatR (r c : Nat) (M : MF) : List RT := (List.range (r * c)).map fun t => ro (M (t / c) (t % c))
@[simp] theorem flatR_len (r c : Nat) (M : MF) : (flatR r c M).length = r * c := by simp [flatR]
theorem flat_lt {r c i j : Nat} (hi : i < r) (hj : j < c) : i * c + j < r * c := by
  have h1 : (i + 1) * c ≤ r * c := Nat.mul_le_mul_right _ hi
  rw [Nat.add_mul, Nat.one_mul] at h1; omega
/-! ### The steps -/
def swapM (M : MF) (i n : Nat) : MF := fun a b => if a = i then M n b else if a = n then M i b else M a b
def divM (M : MF) (n : Nat) (p : Option Rat) : MF := fun a b => if a = n then op2 (· / ·) (M a b) p else M a b
def clrM (M : MF) (n k : Nat) : MF := fun a b => if a = n ∨ nm (M a k) = 0 then M a b else op2 (· - ·) (M a b) (op2 (· * ·) (M a k) (M n b))
def stepM (M : MF) (n k i : Nat) : MF := clrM (divM (swapM M i n) n (swapM M i n n k)) n k
/-- The first row from n on whose element of column k isn't 0, or r. -/
def pivAt (M : MF) (r k : Nat) (n : Nat) : Nat := if n < r then if nm (M n k) = 0 then pivAt M r k (n + 1) else n else r
termination_by r - n
def okM (r c : Nat) (M : MF) : Bool := (List.range r).all fun i => (List.range c).all fun j => (M i j).isSome
structure RS where
  M : MF
  P : List Nat
/-- One column. -/
def redStep (r c k : Nat) (s : RS) : Option RS :=
  if s.P.length < r then
    if pivAt s.M r k s.P.length = r then some s
    else if okM r c (stepM s.M s.P.length k (pivAt s.M r k s.P.length)) = true then some ⟨stepM s.M s.P.length k (pivAt s.M r k s.P.length), s.P ++ [k]⟩ else none
  else some s
def redTo (r c : Nat) (M : MF) : Nat → Option RS
  | 0 => some ⟨M, []⟩
  | k + 1 => (redTo r c M k).bind (redStep r c k)
/-- What holds of the state after k columns. -/
structure RI (r c k : Nat) (s : RS) : Prop where
  le : s.P.length ≤ r
  ok : okM r c s.M = true
  fit : ∀ i j, okQ (s.M i j)
  zero : ∀ i j, s.P.length ≤ i → i < r → j < k → j < c → s.M i j = some 0
  piv : ∀ n (h : n < s.P.length), s.P[n] < k
  inc : ∀ m n (hm : m < n) (hn : n < s.P.length), s.P[m] < s.P[n]
/-- Below the pivots there is nothing but 0 in the columns done. -/
def Zs (r c n k : Nat) (M : MF) : Prop := ∀ i j, n ≤ i → i < r → j < k → j < c → M i j = some 0
/-! ### The reference skips columns and elements that are 0 -/
def divS (M : MF) (n k : Nat) (p : Option Rat) : MF := fun a b => if a = n ∧ k ≤ b then op2 (· / ·) (M a b) p else M a b
def clrS (M : MF) (n k : Nat) : MF := fun a b => if a = n ∨ nm (M a k) = 0 ∨ b < k ∨ nm (M n b) = 0 then M a b else op2 (· - ·) (M a b) (op2 (· * ·) (M a k) (M n b))
def stepS (M : MF) (n k i : Nat) : MF := clrS (divS (swapM M i n) n k (swapM M i n n k)) n k
end Go.Proofs.YticmgmemnpcbbaaGreat.Vm

namespace Go.Proofs.YticmgmemnpcbbaaGreat.Vm
open Go Go.Proofs
set_option linter.unusedSimpArgs false
set_option linter.unusedVariables false

def outM (M : MF) (n k i : Nat) : MF := fun a b => if a < i then clrS M n k a b else M a b
def curM (M : MF) (n k i j : Nat) : MF := fun a b => if a < i ∨ a = i ∧ b < j then clrS M n k a b else M a b
end Go.Proofs.YticmgmemnpcbbaaGreat.Vm

namespace Go.Proofs.YticmgmemnpcbbaaGreat.Vm
open Go Go.Proofs
set_option linter.unusedSimpArgs false
set_option linter.unusedVariables false

def pz (P : List Nat) : List Int := P.map fun (m : Nat) => (m : Int)
@[simp] theorem pz_length (P : List Nat) : (pz P).length = P.length := by simp [pz]
theorem pz_snoc (P : List Nat) (k : Nat) : iv (pz (P ++ [k])) = iv (pz P) ++ [[.int .i64 k]] := by simp [pz, iv]
/-- Rows exchanged up to a column. -/
def swTo (M : MF) (i n j : Nat) : MF := fun a b => if b < j then swapM M i n a b else M a b
/-- A row divided from a column on, up to another. -/
def dvTo (M : MF) (n k j : Nat) (p : Option Rat) : MF := fun a b => if a = n ∧ k ≤ b ∧ b < j then op2 (· / ·) (M a b) p else M a b
/-- What the reference's elimination comes to. -/
inductive RedOut (r c : Nat) (M : MF) : MF → List Nat → Prop
  | good (s : RS) (h : redTo r c M c = some s) (P : List Nat) (e : P = s.P) : RedOut r c M s.M P
  | bad (X : MF) (P : List Nat) (h : redTo r c M c = none) (ho : okM r c X = false) : RedOut r c M X P
structure LR where
  k : Nat
  s : RS
  gp : Int
  gf : Int
  fs : List RT
end Go.Proofs.YticmgmemnpcbbaaGreat.Vm

namespace Go.Proofs.YticmgmemnpcbbaaGreat.Vm
open Go Go.Proofs
set_option linter.unusedSimpArgs false
set_option linter.unusedVariables false

def mfOf (cells : List RT) (c : Nat) : MF := fun i j => rd (cells.getD (i * c + j) rz)
/-- What is told of an elimination. -/
def redR (r c : Nat) (M : MF) : V := match redTo r c M c with
  | some s => .tup [.agg [.int .i64 r, .int .i64 c, .sl (rv (flatR r c s.M))], .sl (iv (pz s.P)), .bool true]
  | none => .tup [.agg [.int .i64 0, .int .i64 0, .sl []], .sl [], .bool false]
end Go.Proofs.YticmgmemnpcbbaaGreat.Vm

namespace Go.Proofs.YticmgmemnpcbbaaGreat.Vm
open Go Go.Proofs
set_option linter.unusedSimpArgs false
set_option linter.unusedVariables false

/-- Where a number stands in a list. -/
def ix : List Nat → Nat → Option Nat
  | [], _ => none
  | p :: ps, j => if p = j then some 0 else (ix ps j).map (· + 1)
/-- An element of a null vector. -/
def nullAt (M : MF) (P : List Nat) (k j : Nat) : Option Rat := match ix P j with
  | some i => (M i k).map (- ·)
  | none => if j = k then some 1 else some 0
def nullL (M : MF) (P : List Nat) (c k : Nat) : List (Option Rat) := (List.range c).map (nullAt M P k)
@[simp] theorem nullL_length (M : MF) (P : List Nat) (c k : Nat) : (nullL M P c k).length = c := by simp [nullL]
/-- The columns without a pivot, up to one. -/
def freeTo (P : List Nat) (n : Nat) : List Nat := (List.range n).filter fun k => (ix P k).isNone
def nullsTo (M : MF) (P : List Nat) (c n : Nat) : List (List (Option Rat)) := (freeTo P n).map (nullL M P c)
end Go.Proofs.YticmgmemnpcbbaaGreat.Vm

namespace Go.Proofs.YticmgmemnpcbbaaGreat.Vm
open Go Go.Proofs
set_option linter.unusedSimpArgs false
set_option linter.unusedVariables false

def rvv (ls : List (List RT)) : List (List V) := ls.map fun w => [.sl (rv w)]
@[simp] theorem rvv_length (ls : List (List RT)) : (rvv ls).length = ls.length := by simp [rvv]
theorem rvv_append (a b : List (List RT)) : rvv (a ++ b) = rvv a ++ rvv b := by simp [rvv]
/-- What is told of the null vectors. -/
def nulR (r c : Nat) (M : MF) : List (List RT) × Bool := match redTo r c M c with
  | some s => ((nullsTo s.M s.P c c).map roAll, true)
  | none => ([], false)
def nulV (x : List (List RT) × Bool) : V := .tup [.sl (rvv x.1), .bool x.2]
structure NG where
  k : Nat
  g : Int
end Go.Proofs.YticmgmemnpcbbaaGreat.Vm

namespace Go.Proofs.YticmgmemnpcbbaaGreat.Vm
open Go Go.RowKit Go.Proofs
set_option linter.unusedSimpArgs false
set_option linter.unusedVariables false

theorem arr_set_ne {α : Type} {l : Array α} {i j : Nat} {x : α} (d : α) (h : i ≠ j) : (l.setIfInBounds i x).getD j d = l.getD j d := by simp [Array.getD_eq_getD_getElem?, Array.getElem?_setIfInBounds_ne h]
def pureOp : Op → Bool
  | .move _ | .nilCheck _ | .fieldAddr .. | .indexAddr .. => true
  | _ => false
theorem SV.pure {P : Program} {blK : Int → Option Blk} {o : Oper} {σ : St} {v : V} (hp : pureOp o.op = true) (h : SV P blK o σ v) : SV P (fun _ => none) o σ v := by
  rcases h with ⟨hq, hT⟩ | ⟨c, f, p, n, ys, ho, hc, hp2, hro⟩
  · refine .inl ⟨hq, ?_⟩
    have fin : ∀ {v' : V}, (σ.withBl blK).put o.dst v' = (σ.withBl blK).put o.dst v → (σ.withBl fun _ => none).put o.dst v' = (σ.withBl fun _ => none).put o.dst v := by
      intro v' h
      cases hd : o.dst with
      | none => rfl
      | some d =>
        rw [hd] at h
        have h2 : upd σ.sl d v' = upd σ.sl d v := congrArg St.sl h
        show ({ n := σ.n, sl := upd σ.sl d v', bl := fun _ => none } : St) = { n := σ.n, sl := upd σ.sl d v, bl := fun _ => none }
        rw [h2]
    unfold Vm.T at hT ⊢
    cases ho : o.op <;> rw [ho] at hT hp <;> simp only [withBl_ev] at hT ⊢ <;> try (simp [pureOp] at hp; done)
    case move x => exact fin hT
    case nilCheck x => obtain ⟨u, h1, h2⟩ := hT; exact ⟨u, h1, fin h2⟩
    case fieldAddr => obtain ⟨u, h1, h2⟩ := hT; exact ⟨u, h1, fin h2⟩
    case indexAddr => obtain ⟨u, h1, h2⟩ := hT; exact ⟨u, h1, fin h2⟩
  · rw [ho] at hp; simp [pureOp] at hp
theorem DY.pure {P : Program} {ops : Array Oper} {blK : Int → Option Blk} {o : Oper} {σ : St} {v : V} (hp : pureOp o.op = true) (h : DY P ops blK o σ v) : DY P ops (fun _ => none) o σ v := by
  unfold DY at h ⊢
  split
  · rename_i hg; simp only [hg] at h; exact h.pure hp
  · rename_i j b hg
    simp only [hg] at h
    split
    · rename_i d hd
      simp only [hd] at h
      rcases onG_some h with ⟨q, hq, h1, h2⟩ | ⟨hq, h1⟩
      · rw [hq]; exact ⟨fun hh => (h1 hh).pure hp, h2⟩
      · rw [hq]; exact h1
    · rename_i hd; simp only [hd] at h
section
variable {P : Program} {ops : Array Oper}
theorem DL_firstP {blK : Int → Option Blk} {tl : Nat → Bool} {K : St → Prop} {i : Nat} {oi : Oper} {v : V} (hi : ops[i]? = some oi) (hti : tl i = false) : ∀ (fuel : Nat) (l : Array Bool) (σ : St),
    (∀ j oj, ops[j]? = some oj → j ≠ i → l.getD j true = false → (∀ e ∈ oj.after, Region.binds .any e = true → e.on ≠ i) → oi.apart ops oj = true) → (late tl l i = false → Sub blK σ.bl) →
    i ∈ Region.ready .any ops l → DY P ops (fun _ => none) oi σ v → DL P ops blK tl K fuel (l.setIfInBounds i true) (σ.put oi.dst v) → DL P ops blK tl K (fuel + 1) l σ := by
  have hbl : ∀ (σ : St), (σ.put oi.dst v).bl = σ.bl := fun σ => by cases oi.dst <;> rfl
  have hnone : ∀ (σ : St), Sub (fun _ => none) σ.bl := fun σ g b h => by cases h
  intro fuel
  induction fuel with
  | zero =>
    intro l σ _ hS hr hy H
    refine ⟨fun h => (by rw [h] at hr; cases hr), fun j hj => ?_⟩
    by_cases hji : j = i
    · subst hji; exact hy.step hi (hnone σ) ⟨fun h => by rw [hbl]; exact hS h, H⟩
    · have := ready_mono hj hji
      rw [H.1] at this
      cases this
  | succ fuel ih =>
    intro l σ hfree hS hr hy H
    refine ⟨fun h => (by rw [h] at hr; cases hr), fun j hj => ?_⟩
    by_cases hji : j = i
    · subst hji; exact hy.step hi (hnone σ) ⟨fun h => by rw [hbl]; exact hS h, H⟩
    · have h1 := H.2 j (ready_mono hj hji)
      obtain ⟨hjun, oj, hoj, hall⟩ := mem_ready.1 hj
      have hnot : ∀ e ∈ oj.after, Region.binds .any e = true → e.on ≠ i := fun e he hb heq => by
        have h1 := hall e he hb
        have h0 := (mem_ready.1 hr).1
        rw [heq] at h1
        rcases Nat.lt_or_ge i l.size with h' | h'
        · simp [h'] at h0 h1; rw [h0] at h1; cases h1
        · simp [Array.getElem?_eq_none h'] at h1
      have h2 := DY.put hoj (hfree j oj hoj hji hjun hnot) hy h1
      have hfree' : ∀ k ok, ops[k]? = some ok → k ≠ i → (l.setIfInBounds j true).getD k true = false →
          (∀ e ∈ ok.after, Region.binds .any e = true → e.on ≠ i) → oi.apart ops ok = true := fun k ok hk hki hun hno => by
        refine hfree k ok hk hki ?_ hno
        by_cases hjk : j = k
        · subst hjk; exact hjun
        · rw [arr_set_ne true hjk] at hun; exact hun
      refine D1_mono h2 fun σ' ⟨h3, h4, h5⟩ => ?_
      have hbl' : (σ'.put oi.dst v).bl = σ'.bl := hbl σ'
      have hS' : late tl (l.setIfInBounds j true) i = false → Sub blK σ'.bl := fun hl => by
        rw [← hbl']
        refine h4 ?_
        unfold late at hl ⊢
        rw [Bool.or_eq_false_iff, List.any_eq_false] at hl ⊢
        have hjs : j < l.size := by
          rcases Nat.lt_or_ge j l.size with h' | h'
          · exact h'
          · simp [Array.getD_eq_getD_getElem?, Array.getElem?_eq_none h'] at hjun
        have htj : tl j = false := by
          have := hl.2 j (by simp [hjs])
          rw [Array.getD_eq_getD_getElem?, Array.getElem?_setIfInBounds_self_of_lt hjs] at this
          simpa using this
        refine ⟨htj, fun k hk hh => ?_⟩
        simp only [Bool.and_eq_true] at hh
        have hkj : k ≠ j := fun e => by rw [e, htj] at hh; cases hh.1
        have hki : k ≠ i := fun e => by rw [e, hti] at hh; cases hh.1
        refine hl.2 k (by simpa using hk) ?_
        rw [arr_set_ne false (Ne.symm hki)] at hh
        rw [arr_set_ne false (Ne.symm hkj), hh.1, hh.2]; rfl
      refine ⟨fun h => hS' ?_, ih (l.setIfInBounds j true) σ' hfree' hS' (ready_mono hr (Ne.symm hji)) h3 ?_⟩
      · unfold late at h ⊢
        rw [Bool.or_eq_false_iff, List.any_eq_false] at h ⊢
        refine ⟨hti, fun k hk hh => ?_⟩
        simp only [Bool.and_eq_true] at hh
        by_cases hkj : k = j
        · subst hkj; rw [h.1] at hh; cases hh.1
        · rw [arr_set_ne false (Ne.symm hkj)] at hh
          exact h.2 k (by simpa using hk) (by rw [hh.1, hh.2]; rfl)
      · rw [Array.setIfInBounds_comm _ _ hji]
        exact h5
theorem DL_hoistP {blK : Int → Option Blk} {tl : Nat → Bool} {K : St → Prop} (fuel : Nat) : ∀ (is : List Nat) (l : Array Bool) (σ : St), (∀ i, i ∈ is → tl i = false) → (∀ k, tl k = true → l.getD k false = false) → (∀ i, i ∈ is → (∃ o, ops[i]? = some o ∧ pureOp o.op = true) ∨ ∀ j oj, tl j = true → ops[j]? = some oj → ∃ e ∈ oj.after, Region.binds .any e = true ∧ e.on = i) → hoistB ops is l = true → Sub blK σ.bl →
    Hoist P ops blK is (DL P ops blK tl K fuel (setAll is l)) σ → DL P ops blK tl K (fuel + is.length) l σ
  | [], l, σ, _, _, _, _, _, h => h
  | i :: is, l, σ, hI, hN, hT, hB, hs, h => by
    simp only [hoistB, Bool.and_eq_true] at hB
    obtain ⟨⟨hr, hf⟩, hB'⟩ := hB
    unfold Hoist at h
    split at h
    · rename_i o ho
      obtain ⟨v, hy, hK⟩ := h
      have : fuel + (i :: is).length = (fuel + is.length) + 1 := by simp; omega
      rw [this]
      have hN' : ∀ k, tl k = true → (l.setIfInBounds i true).getD k false = false := fun k hk => by
        by_cases hki : i = k
        · subst hki; rw [hI i List.mem_cons_self] at hk; cases hk
        · rw [arr_set_ne false hki]; exact hN k hk
      have next := DL_hoistP fuel is (l.setIfInBounds i true) (σ.put o.dst v) (fun i hi => hI i (List.mem_cons_of_mem _ hi)) hN' (fun i hi => hT i (List.mem_cons_of_mem _ hi)) hB' (by cases o.dst <;> exact hs) hK
      rcases hT i List.mem_cons_self with ⟨o', ho', hp⟩ | hT'
      · rw [ho] at ho'; cases ho'
        exact DL_firstP ho (hI i List.mem_cons_self) _ _ _ (Region.free_spec ho hf) (fun _ => hs) (by simpa using hr) (hy.pure hp) next
      · exact DL_first ho (hI i List.mem_cons_self) hT' _ _ _ (Region.free_spec ho hf) hN (by simpa using hr) hs hy next
    · exact h.elim
def tailP (ops : Array Oper) (tl : Nat → Bool) (is : List Nat) : Bool := is.all fun i => (match ops[i]? with | some o => pureOp o.op | none => false) || tailB ops tl [i]
theorem AW_mixedP {id : Nat} {K : Ex → St → Prop} {σ : St} (hm : P.follows .mixedOrders = true) (blK : Int → Option Blk) (hs : Sub blK σ.bl) (is : List Nat) (fuel n : Nat) (hn : (ops.size == fuel + is.length && is.all (fun i => decide (i < ops.size)) && hoistB ops is (Array.replicate ops.size false) && tailP ops (fun j => decide (n ≤ j)) is && is.all (fun i => decide (i < n))) = true)
    (h : HoistF P (ops.toList.map (·.dst)) blK (is.filterMap fun i => ops[i]?) (DL P ops blK (fun j => decide (n ≤ j)) (K .normal) fuel (setAll is (Array.replicate ops.size false))) σ) : AW P (.region id ops true) K σ := by
  simp only [Bool.and_eq_true, beq_iff_eq] at hn
  refine AW_drawL hm blK (tl := fun j => decide (n ≤ j)) ?_
  have := DL_hoistP (P := P) (ops := ops) (blK := blK) (tl := fun j => decide (n ≤ j)) (K := K .normal) fuel is (Array.replicate ops.size false) σ
    (fun i hi => by have := List.all_eq_true.1 hn.2 i hi; simp at this ⊢; exact this) (fun k _ => by
      rw [Array.getD_eq_getD_getElem?, Array.getElem?_replicate]; split <;> rfl) (fun i hi => by
      have h5 := List.all_eq_true.1 hn.1.2 i hi
      rw [Bool.or_eq_true] at h5
      rcases h5 with h5 | h5
      · refine .inl ?_
        split at h5
        · rename_i o ho; exact ⟨o, ho, h5⟩
        · cases h5
      · exact .inr (tailB_spec h5 i (by simp))) hn.1.1.2 hs (Hoist_is _ is σ (filter_some is hn.1.1.1.2) h)
  rw [← hn.1.1.1.1] at this
  exact this
end
end Go.Proofs.YticmgmemnpcbbaaGreat.Vm

namespace Go.Proofs.YticmgmemnpcbbaaGreat.Vm
open Go Go.Proofs
set_option linter.unusedSimpArgs false
set_option linter.unusedVariables false

/-- Rows in blocks of the call's own. -/
structure GridAt (b : Int → Option Blk) (g0 : Int) (ids : List Int) (r c : Nat) (M : MF) : Prop where
  len : ids.length = r
  top : b g0 = some ⟨1, ids.map fun g => [.lsl g 1 0 c]⟩
  row : ∀ (i : Nat) (g : Int), ids[i]? = some g → b g = some ⟨1, fvs (rowOf c M i)⟩
  pos : ∀ g, g ∈ ids → 0 ≤ g
  inj : ∀ (i j : Nat) (g : Int), ids[i]? = some g → ids[j]? = some g → i = j
  no0 : g0 ∉ ids
theorem rowOf_congr {c : Nat} {M M' : MF} {i : Nat} (h : ∀ j, j < c → M i j = M' i j) : rowOf c M i = rowOf c M' i := by
  unfold rowOf
  exact List.map_congr_left fun j hj => h j (by simpa using hj)
theorem GridAt.congr {b : Int → Option Blk} {g0 : Int} {ids : List Int} {r c : Nat} {M M' : MF} (h : GridAt b g0 ids r c M) (hM : ∀ i j, i < r → j < c → M i j = M' i j) : GridAt b g0 ids r c M' :=
  ⟨h.len, h.top, fun i g hi => by
    rw [h.row i g hi, rowOf_congr fun j hj => hM i j (by rw [← h.len]; exact (List.getElem?_eq_some_iff.1 hi).1) hj], h.pos, h.inj, h.no0⟩
theorem GridAt.put {b : Int → Option Blk} {g0 g : Int} {ids : List Int} {r c i : Nat} {M M' : MF} (h : GridAt b g0 ids r c M) (hi : ids[i]? = some g) (hM : ∀ a j, a ≠ i → j < c → M a j = M' a j) : GridAt (upd b g (some ⟨1, fvs (rowOf c M' i)⟩)) g0 ids r c M' := by
  have hm := List.mem_of_getElem? hi
  refine ⟨h.len, ?_, fun k g' hk => ?_, h.pos, h.inj, h.no0⟩
  · rw [upd_ne _ _ _ _ (fun e => h.no0 (by rw [e]; exact hm))]; exact h.top
  · by_cases e : k = i
    · subst e
      rw [hi] at hk; cases hk
      rw [upd_same]
    · have hne : g' ≠ g := fun e2 => e (h.inj k i g (by rw [hk, e2]) hi)
      rw [upd_ne _ _ _ _ hne, h.row k g' hk, rowOf_congr fun j hj => hM k j e hj]
theorem GridAt.keep {b b' : Int → Option Blk} {g0 : Int} {ids : List Int} {r c : Nat} {M : MF} (h : GridAt b g0 ids r c M) (hk : ∀ x y, x = g0 ∨ x ∈ ids → b x = some y → b' x = some y) : GridAt b' g0 ids r c M :=
  ⟨h.len, hk _ _ (.inl rfl) h.top, fun i g hi => hk _ _ (.inr (List.mem_of_getElem? hi)) (h.row i g hi), h.pos, h.inj, h.no0⟩
def swapI (ids : List Int) (i n : Nat) (gi gn : Int) : List Int := (ids.set i gn).set n gi
/-- The state of an elimination: the struct, its rows, its pivots. -/
structure RedAt (b : Int → Option Blk) (gr g0 gp : Int) (ids : List Int) (r c : Nat) (s : RS) (d : Option Rat) : Prop where
  grid : GridAt b g0 ids r c s.M
  hd : b gr = some ⟨5, [[.int .i64 r, .int .i64 c, .lsl g0 1 0 r, .lsl gp 1 0 s.P.length, fv d]]⟩
  pv : b gp = some ⟨1, iv (pz s.P)⟩
  pn : gp < 0 → s.P = []
  dq : okQ d
  g00 : 0 ≤ g0
  d1 : gr ≠ g0
  d2 : gr ∉ ids
  d3 : gp ≠ gr
  d4 : gp ≠ g0
  d5 : gp ∉ ids
/-- What isn't part of it is as it was. -/
def Fr (bl b : Int → Option Blk) (gr g0 : Int) (ids : List Int) : Prop := ∀ x y, bl x = some y → x ≠ gr → x ≠ g0 → x ∉ ids → b x = some y
/-- Multiples taken away up to a place. -/
def curI (M : MF) (n k i j : Nat) : MF := fun a b => if a < i ∨ a = i ∧ b < j then clrM M n k a b else M a b
end Go.Proofs.YticmgmemnpcbbaaGreat.Vm
