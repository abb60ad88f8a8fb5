/- The reference's elimination. -/

import Derived.Test.YtmbcofnnibpbeaaGreatQCFnExactSelfStresses9

namespace Go.Proofs.YtmbcofnnibpbeaaGreat.Vm
open Go Go.Proofs
set_option linter.unusedSimpArgs false
set_option linter.unusedVariables false

def pz (P : List Nat) : List Int := P.map fun (m : Nat) => (m : Int)
@[simp] theorem pz_length (P : List Nat) : (pz P).length = P.length := by simp [pz]
theorem pz_snoc (P : List Nat) (k : Nat) : iv (pz (P ++ [k])) = iv (pz P) ++ [[.int .i64 k]] := by simp [pz, iv]
theorem ro_d (x : Option Rat) : decide ((ro x).d = []) = !x.isSome := by
  cases x with
  | none => rfl
  | some q =>
    have : lim q.den ≠ [] := fun h => q.den_nz (lim_nil.1 h)
    simp [rq, this]
theorem fine_flat (r c : Nat) (M : MF) : fineQ (flatR r c M) = okM r c M := by
  rw [Bool.eq_iff_iff, okM_iff]
  unfold fineQ flatR
  rw [List.all_map, List.all_eq_true]
  constructor
  · intro h i j hi hj
    have := h (i * c + j) (by simpa using flat_lt hi hj)
    obtain ⟨d1, d2⟩ := flat_div (i := i) hj
    simpa [d1, d2, ro_d] using this
  · intro h t ht
    have ht' : t < r * c := by simpa using ht
    have hc : 0 < c := by
      rcases Nat.eq_zero_or_pos c with h0 | h0
      · rw [h0] at ht'; omega
      · exact h0
    simpa [ro_d] using h _ _ (Nat.div_lt_of_lt_mul (by rw [Nat.mul_comm]; exact ht')) (Nat.mod_lt _ hc)
/-- Rows exchanged up to a column. -/
def swTo (M : MF) (i n j : Nat) : MF := fun a b => if b < j then swapM M i n a b else M a b
/-- A row divided from a column on, up to another. -/
def dvTo (M : MF) (n k j : Nat) (p : Option Rat) : MF := fun a b => if a = n ∧ k ≤ b ∧ b < j then op2 (· / ·) (M a b) p else M a b
theorem swTo_zero (M : MF) (i n : Nat) : swTo M i n 0 = M := by funext a b; unfold swTo; rw [if_neg (by omega)]
theorem swTo_all (M : MF) (i n c a b : Nat) (h : b < c) : swTo M i n c a b = swapM M i n a b := by unfold swTo; rw [if_pos h]
theorem swTo_at (M : MF) (i n j a : Nat) : swTo M i n j a j = M a j := by unfold swTo; rw [if_neg (by omega)]
theorem swTo_step (M : MF) (i n j a b : Nat) (h : i ≠ n) : updM (updM (swTo M i n j) i j (M n j)) n j (M i j) a b = swTo M i n (j + 1) a b := by
  unfold updM swTo swapM
  by_cases hb : b = j
  · subst hb
    by_cases h1 : a = n
    · subst h1; rw [if_pos ⟨rfl, rfl⟩, if_pos (by omega), if_neg (Ne.symm h), if_pos rfl]
    · rw [if_neg (fun e => h1 e.1)]
      by_cases h2 : a = i
      · subst h2; rw [if_pos ⟨rfl, rfl⟩, if_pos (by omega), if_pos rfl]
      · rw [if_neg (fun e => h2 e.1), if_neg (by omega), if_pos (by omega), if_neg h2, if_neg h1]
  · rw [if_neg (fun e => hb e.2), if_neg (fun e => hb e.2)]
    by_cases h3 : b < j
    · simp only [if_pos h3, if_pos (show b < j + 1 by omega)]
    · simp only [if_neg h3, if_neg (show ¬ b < j + 1 by omega)]
theorem dvTo_start (M : MF) (n k : Nat) (p : Option Rat) : dvTo M n k k p = M := by funext a b; unfold dvTo; rw [if_neg (by omega)]
theorem dvTo_at (M : MF) (n k j : Nat) (p : Option Rat) : dvTo M n k j p n j = M n j := by unfold dvTo; rw [if_neg (by omega)]
theorem dvTo_step (M : MF) (n k j a b : Nat) (p : Option Rat) (h : k ≤ j) : updM (dvTo M n k j p) n j (op2 (· / ·) (M n j) p) a b = dvTo M n k (j + 1) p a b := by
  unfold updM dvTo
  by_cases h1 : a = n ∧ b = j
  · obtain ⟨rfl, rfl⟩ := h1
    rw [if_pos ⟨rfl, rfl⟩, if_pos ⟨rfl, h, by omega⟩]
  · rw [if_neg h1]
    by_cases h2 : a = n ∧ k ≤ b ∧ b < j
    · rw [if_pos h2, if_pos ⟨h2.1, h2.2.1, by omega⟩]
    · rw [if_neg h2, if_neg]
      rintro ⟨h3, h4, h5⟩
      exact h1 ⟨h3, by omega⟩
theorem dvTo_all (M : MF) (n k c a b : Nat) (p : Option Rat) (h : b < c) : dvTo M n k c p a b = divS M n k p a b := by
  unfold dvTo divS
  by_cases h1 : a = n ∧ k ≤ b
  · rw [if_pos ⟨h1.1, h1.2, h⟩, if_pos h1]
  · rw [if_neg (fun e => h1 ⟨e.1, e.2.1⟩), if_neg h1]
/-- What the reference's elimination comes to. -/
inductive RedOut (r c : Nat) (M : MF) : MF → List Nat → Prop
  | good (s : RS) (h : redTo r c M c = some s) (P : List Nat) (e : P = s.P) : RedOut r c M s.M P
  | bad (X : MF) (P : List Nat) (h : redTo r c M c = none) (ho : okM r c X = false) : RedOut r c M X P
structure LR where
  k : Nat
  s : RS
  gp : Int
  gf : Int
  fs : List RT
theorem l07Reduce_cp {bl : Int → Option Blk} {K : V → (Int → Option Blk) → Prop} (r c : Nat) (M : MF) (g : Int) (hr : r ≤ 24) (hc : c ≤ 24) (hM : ∀ i j, okQ (M i j)) (hM0 : okM r c M = true) (hg0 : 0 ≤ g) (hb : bl g = some ⟨3, rv (flatR r c M)⟩)
    (hK : ∀ (X : MF) (P : List Nat) (v2 : V) bl' (gp : Int), RedOut r c M X P → v2.one = true → v2.cells = [v2] → (gp < 0 → P = []) → bl gp = none → bl' gp = some ⟨1, iv (pz P)⟩ → Sub (upd bl g (some ⟨3, rv (flatR r c X)⟩)) bl' → K (.tup [.lsl gp 1 0 P.length, v2]) bl') :
    CallP Tryz.prog 149 [.agg [.int .i64 r, .int .i64 c, .lsl g 3 0 (r * c)]] bl K := by
  have hmul : r * c ≤ 24 * 24 := Nat.mul_le_mul hr hc
  refine callP_of Tryz.func149 rfl rfl (by rw [Tryz.ntmps149]; simp) ?_
  rw [Tryz.ntmps149, Tryz.results149]
  refine AW_runA ?_
  simp
  intro g1 hg1 hb1
  have n1 : ¬ g1 = g := fun e => by rw [e, hb] at hb1; cases hb1
  refine AW_runA ?_
  simp
  intro gp0 hgp0
  intros
  have np10 : ¬ gp0 = g1 := by assumption
  have hbp0 : bl gp0 = none := by assumption
  have np0 : ¬ gp0 = g := fun e => by rw [e, hb] at hbp0; cases hbp0
  refine AW_runA ?_
  simp
  intro gf0 hgf0
  intros
  have nfp0 : ¬ gf0 = gp0 := by assumption
  have nf10 : ¬ gf0 = g1 := by assumption
  have hbf0 : bl gf0 = none := by assumption
  have nf0 : ¬ gf0 = g := fun e => by rw [e, hb] at hbf0; cases hbf0
  refine AW_runA ?_
  simp
  refine AW_for (fun p : LR => [(1, .loc g1 3 0 0), (4, .lsl p.gp 1 0 p.s.P.length), (5, .lsl p.gf 3 0 p.fs.length), (6, .int .i64 p.k)]) (fun p => (upd (upd (upd (upd bl g1 (some ⟨3, [[.int .i64 r, .int .i64 c, .lsl g 3 0 (r * c)]]⟩)) g (some ⟨3, rv (flatR r c (p.s.M))⟩)) p.gp (some ⟨1, iv (pz p.s.P)⟩)) p.gf (some ⟨3, rv p.fs⟩)))
    (fun p => (p.k ≤ c ∧ redTo r c M p.k = some p.s ∧ RI r c p.k p.s) ∧ (p.gp ≠ g1 ∧ p.gp ≠ g ∧ bl p.gp = none ∧ (p.gp < 0 → p.s.P = [])) ∧ (p.gf ≠ g1 ∧ p.gf ≠ g ∧ p.gf ≠ p.gp ∧ bl p.gf = none ∧ (p.gf < 0 → p.fs = [])) ∧ p.fs.length ≤ 2 * p.k) (fun p => c - p.k) _ ⟨0, ⟨M, []⟩, gp0, gf0, []⟩
    ⟨⟨Nat.zero_le _, rfl, ⟨Nat.zero_le _, hM0, hM, fun i j _ _ h _ => absurd h (Nat.not_lt_zero _), fun n h => by simp at h, fun m n _ h => by simp at h⟩⟩, ⟨np10, np0, hbp0, fun _ => rfl⟩, ⟨nf10, nf0, nfp0, hbf0, fun _ => rfl⟩, by simp⟩
    ⟨rfl, by simp, by
      have z1 : rv ([] : List RT) = [] := rfl
      have z2 : iv (pz []) = [] := rfl
      intro z b hz; simp only [upd_apply, z1, z2] at hz ⊢; grind⟩ ?_
  rintro ⟨k, s, gp, gf, fs⟩ ⟨⟨hk, hred, hri⟩, ⟨np1, np, hbp, hpn⟩, ⟨nf1, nf, nfp, hbf, hfn⟩, hfl⟩
  simp only at hk hred hri np1 np hbp hpn nf1 nf nfp hbf hfn hfl
  have hPl := hri.le
  have wk : IntKind.i64.wrap ((k : Int) + 1) = (k : Int) + 1 := i64_in (by omega) (by omega)
  refine AW_runA ?_
  simp
  by_cases hgo : ¬ (k < c ∧ s.P.length < r)
  · refine AW_way0 [(1, .loc g1 3 0 0), (4, .lsl gp 1 0 s.P.length), (5, .lsl gf 3 0 fs.length), (6, .int .i64 k)] _ (upd (upd (upd (upd bl g1 (some ⟨3, [[.int .i64 r, .int .i64 c, .lsl g 3 0 (r * c)]]⟩)) g (some ⟨3, rv (flatR r c (s.M))⟩)) gp (some ⟨1, iv (pz s.P)⟩)) gf (some ⟨3, rv fs⟩)) 25 (.bool false) ⟨rfl, by simp, Sub.refl _⟩ rfl ?_ ?_
    · simp [n1, Ne.symm n1, np, Ne.symm np, np1, Ne.symm np1, nf, Ne.symm nf, nf1, Ne.symm nf1, nfp, Ne.symm nfp]
      intro h; omega
    have hfin : redTo r c M c = some s := by
      by_cases h : k = c
      · exact (congrArg (redTo r c M) h.symm).trans hred
      · have := redTo_full hred (by omega) (c - k)
        rwa [show k + (c - k) = c by omega] at this
    simp
    refine AW_run ?_
    simp
    rw [retK_ret]
    refine ⟨[.lsl gp 1 0 s.P.length, .lsl gf 3 0 fs.length], by simp, hK s.M s.P _ _ gp (.good s hfin _ rfl) rfl rfl hpn hbp (by simp [n1, Ne.symm n1, np, Ne.symm np, np1, Ne.symm np1, nf, Ne.symm nf, nf1, Ne.symm nf1, nfp, Ne.symm nfp]) (by intro z b hz; simp only [upd_apply] at hz ⊢; grind)⟩
  have hkc : k < c := by omega
  have hPr : s.P.length < r := by omega
  obtain ⟨n, hn⟩ : ∃ n, n = s.P.length := ⟨_, rfl⟩
  refine AW_way0 [(1, .loc g1 3 0 0), (4, .lsl gp 1 0 s.P.length), (5, .lsl gf 3 0 fs.length), (6, .int .i64 k)] _ (upd (upd (upd (upd bl g1 (some ⟨3, [[.int .i64 r, .int .i64 c, .lsl g 3 0 (r * c)]]⟩)) g (some ⟨3, rv (flatR r c (s.M))⟩)) gp (some ⟨1, iv (pz s.P)⟩)) gf (some ⟨3, rv fs⟩)) 25 (.bool true) ⟨rfl, by simp, Sub.refl _⟩ rfl ?_ ?_
  · simp [n1, Ne.symm n1, np, Ne.symm np, np1, Ne.symm np1, nf, Ne.symm nf, nf1, Ne.symm nf1, nfp, Ne.symm nfp, hkc, hPr]
  simp
  refine AW_seq (AW_block ?_)
  refine AW_runA ?_
  simp [n1, Ne.symm n1, np, Ne.symm np, np1, Ne.symm np1, nf, Ne.symm nf, nf1, Ne.symm nf1, nfp, Ne.symm nfp]
  refine AW_runA ?_
  simp
  refine AW_runA ?_
  simp
  rw [← hn]
  refine AW_for (fun i : Nat => [(1, .loc g1 3 0 0), (4, .lsl gp 1 0 n), (5, .lsl gf 3 0 fs.length), (6, .int .i64 k), (7, .int .i64 n), (8, .int .i64 i)]) (fun _ => (upd (upd (upd (upd bl g1 (some ⟨3, [[.int .i64 r, .int .i64 c, .lsl g 3 0 (r * c)]]⟩)) g (some ⟨3, rv (flatR r c (s.M))⟩)) gp (some ⟨1, iv (pz s.P)⟩)) gf (some ⟨3, rv fs⟩))) (fun i => n ≤ i ∧ i ≤ r ∧ pivAt s.M r k n = pivAt s.M r k i) (fun i => r - i) _ n ⟨Nat.le_refl _, by omega, rfl⟩ ⟨rfl, by simp, Sub.refl _⟩ ?_
  rintro i ⟨hni, hir, hpi⟩
  have wi : IntKind.i64.wrap ((i : Int) + 1) = (i : Int) + 1 := i64_in (by omega) (by omega)
  refine AW_run ?_
  simp
  have hAt : ∀ a b X, a < r → b < c → RL Tryz.prog (upd (upd bl g1 (some ⟨3, [[.int .i64 r, .int .i64 c, .lsl g 3 0 (r * c)]]⟩)) g (some ⟨3, rv (flatR r c X)⟩)) 107 [.agg [.int .i64 r, .int .i64 c, .lsl g 3 0 (r * c)], .int .i64 a, .int .i64 b] (.agg (ro (X a b)).c) := fun a b X ha hb2 => by
    have := l06At_rl (blK := (upd (upd bl g1 (some ⟨3, [[.int .i64 r, .int .i64 c, .lsl g 3 0 (r * c)]]⟩)) g (some ⟨3, rv (flatR r c X)⟩))) g (flatR r c X) r c a b (ro (X a b)) (by simp) (by simp; omega) (by omega) (by omega) (by omega) (flatR_get X ha hb2)
    rwa [flatR_len] at this
  by_cases hgo2 : i < r ∧ nm (s.M i k) = 0
  · obtain ⟨hi, h0⟩ := hgo2
    refine AW_way0 [(1, .loc g1 3 0 0), (4, .lsl gp 1 0 n), (5, .lsl gf 3 0 fs.length), (6, .int .i64 k), (7, .int .i64 n), (8, .int .i64 i)] _ (upd (upd (upd (upd bl g1 (some ⟨3, [[.int .i64 r, .int .i64 c, .lsl g 3 0 (r * c)]]⟩)) g (some ⟨3, rv (flatR r c (s.M))⟩)) gp (some ⟨1, iv (pz s.P)⟩)) gf (some ⟨3, rv fs⟩)) 41 (.bool true) ⟨rfl, by simp, Sub.refl _⟩ rfl ?_ ?_
    · simp [n1, Ne.symm n1, np, Ne.symm np, np1, Ne.symm np1, nf, Ne.symm nf, nf1, Ne.symm nf1, nfp, Ne.symm nfp, hi]
      refine callP_rl (hAt i k s.M hi hkc) (by intro z b hz; simp only [upd_apply] at hz ⊢; grind) ?_
      simp
      refine callP_ro (l05Nil_ro (s.M i k)) ?_
      simp [h0]
    simp [wi, loopQ_normal]
    exact ⟨i + 1, ⟨by omega, by omega, by rw [hpi, pivAt_zero _ hi h0]⟩, by omega, rfl, by simp, Sub.refl _⟩
  have hpiv : pivAt s.M r k n = i := by
    rw [hpi]
    by_cases hi : i < r
    · exact pivAt_hit _ hi (fun h => hgo2 ⟨hi, h⟩)
    · rw [pivAt_ge _ _ _ _ (by omega)]; omega
  refine AW_way0 [(1, .loc g1 3 0 0), (4, .lsl gp 1 0 n), (5, .lsl gf 3 0 fs.length), (6, .int .i64 k), (7, .int .i64 n), (8, .int .i64 i)] _ (upd (upd (upd (upd bl g1 (some ⟨3, [[.int .i64 r, .int .i64 c, .lsl g 3 0 (r * c)]]⟩)) g (some ⟨3, rv (flatR r c (s.M))⟩)) gp (some ⟨1, iv (pz s.P)⟩)) gf (some ⟨3, rv fs⟩)) 41 (.bool false) ⟨rfl, by simp, Sub.refl _⟩ rfl ?_ ?_
  · simp [n1, Ne.symm n1, np, Ne.symm np, np1, Ne.symm np1, nf, Ne.symm nf, nf1, Ne.symm nf1, nfp, Ne.symm nfp]
    intro hi
    refine callP_rl (hAt i k s.M hi hkc) (by intro z b hz; simp only [upd_apply] at hz ⊢; grind) ?_
    simp
    refine callP_ro (l05Nil_ro (s.M i k)) ?_
    simp [show ¬ nm (s.M i k) = 0 from fun h => hgo2 ⟨hi, h⟩]
  simp
  refine AW_runA ?_
  simp [n1, Ne.symm n1, np, Ne.symm np, np1, Ne.symm np1, nf, Ne.symm nf, nf1, Ne.symm nf1, nfp, Ne.symm nfp]
  by_cases hir2 : i = r
  · have e : redStep r c k s = some s := by unfold redStep; rw [if_pos hPr, ← hn, hpiv, if_pos hir2]
    have hred2 : redTo r c M (k + 1) = some s := by show (redTo r c M k).bind _ = _; rw [hred]; exact e
    refine ⟨fun _ => ?_, fun h => absurd (by omega) h⟩
    refine AW_run ?_
    simp [wk, loopQ_normal]
    exact ⟨⟨k + 1, s, gp, gf, fs⟩, ⟨⟨by simp only; omega, hred2, redStep_ri hri hkc e⟩, ⟨np1, np, hbp, hpn⟩, ⟨nf1, nf, nfp, hbf, hfn⟩, by simp only; omega⟩, by simp only; omega, rfl, by simp [hn], Sub.refl _⟩
  refine ⟨fun h => absurd h (by omega), fun _ => ?_⟩
  have hi : i < r := by omega
  have h4 : nm (s.M i k) ≠ 0 := fun h => hgo2 ⟨hi, h⟩
  have hnr : n < r := by omega
  have hz : Zs r c n k s.M := by rw [hn]; exact hri.zero
  refine AW_mid (fun p : Int × List RT => [(1, .loc g1 3 0 0), (4, .lsl gp 1 0 n), (5, .lsl p.1 3 0 p.2.length), (6, .int .i64 k), (7, .int .i64 n), (8, .int .i64 i)]) (fun p => (upd (upd (upd (upd bl g1 (some ⟨3, [[.int .i64 r, .int .i64 c, .lsl g 3 0 (r * c)]]⟩)) g (some ⟨3, rv (flatR r c (swapM s.M i n))⟩)) gp (some ⟨1, iv (pz s.P)⟩)) p.1 (some ⟨3, rv p.2⟩))) (fun p => (p.1 ≠ g1 ∧ p.1 ≠ g ∧ p.1 ≠ gp ∧ bl p.1 = none ∧ (p.1 < 0 → p.2 = [])) ∧ p.2.length ≤ fs.length + 1) 146 ?_ ?_
  · refine AW_run ?_
    simp [n1, Ne.symm n1, np, Ne.symm np, np1, Ne.symm np1, nf, Ne.symm nf, nf1, Ne.symm nf1, nfp, Ne.symm nfp]
    refine ⟨fun hin => ?_, fun hin => ?_⟩
    · have hin' : i ≠ n := by omega
      have hF := RatFromInt_ro (-1) (by omega)
      generalize ro (some ((-1 : Int) : Rat)) = y at hF
      refine callP_ro hF ?_
      have htk := rv_takeall fs
      simp [n1, Ne.symm n1, np, Ne.symm np, np1, Ne.symm np1, nf, Ne.symm nf, nf1, Ne.symm nf1, nfp, Ne.symm nfp, RT.c]
      intro gB hgB
      intros
      have nBf : ¬ gB = gf := by assumption
      have nBp : ¬ gB = gp := by assumption
      have nB : ¬ gB = g := by assumption
      have nB1 : ¬ gB = g1 := by assumption
      have hbB : bl gB = none := by assumption
      simp [n1, Ne.symm n1, np, Ne.symm np, np1, Ne.symm np1, nf, Ne.symm nf, nf1, Ne.symm nf1, nfp, Ne.symm nfp, nBf, Ne.symm nBf, nBp, Ne.symm nBp, nB, Ne.symm nB, nB1, Ne.symm nB1, appV, elsV, Int.not_lt.2 hgB]
      refine ⟨by omega, fun gF hgF hbF => ?_⟩
      have nF1 : ¬ gF = g1 := by grind
      have nF : ¬ gF = g := by grind
      have nFp : ¬ gF = gp := by grind
      have nFB : ¬ gF = gB := by grind
      have hbF' : bl gF = none := by grind
      clear hbF
      refine AW_for (fun j : Nat => [(1, .loc g1 3 0 0), (4, .lsl gp 1 0 n), (5, .lsl gF 3 0 (fs.length + 1)), (6, .int .i64 k), (7, .int .i64 n), (8, .int .i64 i), (9, .int .i64 j)]) (fun j => (upd (upd (upd (upd bl g1 (some ⟨3, [[.int .i64 r, .int .i64 c, .lsl g 3 0 (r * c)]]⟩)) g (some ⟨3, rv (flatR r c (swTo s.M i n j))⟩)) gp (some ⟨1, iv (pz s.P)⟩)) gF (some ⟨3, rv (fs ++ [y])⟩))) (fun j => j ≤ c) (fun j => c - j) _ 0 (Nat.zero_le _)
        ⟨rfl, by simp, by
          have e9 : rv (fs ++ [y]) = rv fs ++ [y.c] := by rw [rv_append]; rfl
          rw [swTo_zero, e9]
          intro z b hz
          simp only [upd_apply, rem_apply, htk, RT.c] at hz ⊢
          grind⟩ ?_
      intro j hj
      have wj : IntKind.i64.wrap ((j : Int) + 1) = (j : Int) + 1 := i64_in (by omega) (by omega)
      refine AW_runA ?_
      simp [n1, Ne.symm n1, np1, Ne.symm np1, nF1, Ne.symm nF1]
      refine ⟨fun hjc => ?_, fun hjc => ?_⟩
      · have l1 := flat_lt hi hjc
        have l2 := flat_lt hnr hjc
        obtain ⟨ti, hti⟩ : ∃ t, i * c + j = t := ⟨_, rfl⟩
        obtain ⟨tn, htn⟩ : ∃ t, n * c + j = t := ⟨_, rfl⟩
        have e0 : (i : Int) * (c : Int) = ((i * c : Nat) : Int) := (Int.natCast_mul i c).symm
        have e1 : (n : Int) * (c : Int) = ((n * c : Nat) : Int) := (Int.natCast_mul n c).symm
        have w1 : IntKind.i64.wrap ((i : Int) * (c : Int)) = (i : Int) * (c : Int) := i64_in (by omega) (by omega)
        have w2 : IntKind.i64.wrap ((i : Int) * (c : Int) + (j : Int)) = (ti : Int) := by rw [i64_in (by omega) (by omega)]; omega
        have w3 : IntKind.i64.wrap ((n : Int) * (c : Int)) = (n : Int) * (c : Int) := i64_in (by omega) (by omega)
        have w4 : IntKind.i64.wrap ((n : Int) * (c : Int) + (j : Int)) = (tn : Int) := by rw [i64_in (by omega) (by omega)]; omega
        have b1 : ti < r * c := by omega
        have b2 : tn < r * c := by omega
        have b1' : (ti : Int) < (r : Int) * (c : Int) := by rw [← Int.natCast_mul]; omega
        have b2' : (tn : Int) < (r : Int) * (c : Int) := by rw [← Int.natCast_mul]; omega
        have f1 : ∀ h, (flatR r c (swTo s.M i n j))[ti]'h = ro (s.M i j) := fun h => by
          have := flatR_get (swTo s.M i n j) hi hjc
          rw [hti, List.getElem?_eq_getElem h, swTo_at] at this
          exact Option.some.inj this
        have f2 : ∀ h, (flatR r c (swTo s.M i n j))[tn]'h = ro (s.M n j) := fun h => by
          have := flatR_get (swTo s.M i n j) hnr hjc
          rw [htn, List.getElem?_eq_getElem h, swTo_at] at this
          exact Option.some.inj this
        have hne : ti ≠ tn := by
          have : (n + 1) * c ≤ i * c := Nat.mul_le_mul_right _ (by omega)
          rw [Nat.add_mul, Nat.one_mul] at this
          omega
        have f3 : ∀ (v : List V) h, ((rv (flatR r c (swTo s.M i n j))).set ti v)[tn]'h = (ro (s.M n j)).c := fun v h => by
          rw [List.getElem_set_ne hne]; simp [rv, f2]
        have hset : ((rv (flatR r c (swTo s.M i n j))).set ti (ro (s.M n j)).c).set tn (ro (s.M i j)).c = rv (flatR r c (swTo s.M i n (j + 1))) := by
          rw [rvR_set, ← hti, flatR_set _ hi hjc, rvR_set, ← htn, flatR_set _ hnr hjc]
          exact congrArg rv (flatR_congr fun a b _ _ => swTo_step s.M i n j a b hin')
        refine AW_runA ?_
        simp [n1, Ne.symm n1, np1, Ne.symm np1, nF1, Ne.symm nF1, np, Ne.symm np, nF, Ne.symm nF, w1, w2, b1, b1', f1, RT.c]
        intro g10 hg10
        intros
        have n10F : ¬ g10 = gF := by assumption
        have n10p : ¬ g10 = gp := by assumption
        have n10 : ¬ g10 = g := by assumption
        have n101 : ¬ g10 = g1 := by assumption
        have hb10 : bl g10 = none := by assumption
        refine AW_frzAt 1 10 (.ptr (ro (s.M i j)).c) (upd (upd (upd (upd bl g1 (some ⟨3, [[.int .i64 r, .int .i64 c, .lsl g 3 0 (r * c)]]⟩)) g (some ⟨3, rv (flatR r c (swTo s.M i n j))⟩)) gp (some ⟨1, iv (pz s.P)⟩)) gF (some ⟨3, rv (fs ++ [y])⟩)) (by intro z b hz; simp only [upd_apply] at hz ⊢; grind) (by simp [frz, dropB, n10, n10F, n10p, n101, Ne.symm n10, Ne.symm n10F, Ne.symm n10p, Ne.symm n101, hb10, V.cl, RT.c]) ?_
        refine AW_mixedT mixedO [0, 1, 2, 3, 4, 5, 6, 7, 8, 9, 10, 11, 12, 13, 14, 15, 16, 17, 18] 1 19 (by kernel_rfl) ?_
        simp [n1, Ne.symm n1, np1, Ne.symm np1, nF1, Ne.symm nF1, np, Ne.symm np, nF, Ne.symm nF, w1, w2, w3, w4, b1, b1', b2, b2', f1, f2, RT.c]
        refine DAny_last (i := 19) (by kernel_rfl) rfl rfl rfl ?_
        simp [n1, Ne.symm n1, np1, Ne.symm np1, nF1, Ne.symm nF1, np, Ne.symm np, nF, Ne.symm nF, w1, w2, w3, w4, b1, b1', b2, b2', f1, f2, RT.c]
        refine DAny_done (by kernel_rfl) ?_
        simp [n1, Ne.symm n1, np1, Ne.symm np1, nF1, Ne.symm nF1, np, Ne.symm np, nF, Ne.symm nF, w1, w2, w3, w4, b1, b1', b2, b2', f1, f2, RT.c]
        refine AW_run ?_
        simp [wj, loopQ_normal]
        refine ⟨j + 1, by omega, by omega, rfl, by simp, ?_⟩
        rw [← hset]
        intro z b hz
        simp only [upd_apply, RT.c, f3, List.set_cons_zero, List.set_cons_succ] at hz ⊢
        grind
      · have hj2 : j = c := by omega
        subst hj2
        simp [midQ_normal]
        refine ⟨gF, fs ++ [y], ⟨⟨nF1, nF, nFp, hbF', fun h => ?_⟩, by simp⟩, rfl, by simp, ?_⟩
        · exact absurd h (by omega)
        rw [show flatR r j (swTo s.M i n j) = flatR r j (swapM s.M i n) from flatR_congr fun a b _ hb2 => swTo_all s.M i n j a b hb2]; exact Sub.refl _
    · have hin' : i = n := by omega
      subst hin'
      simp [midQ_normal]
      refine ⟨gf, fs, ⟨⟨nf1, nf, nfp, hbf, hfn⟩, by omega⟩, rfl, by simp, ?_⟩
      rw [swapM_self]; exact Sub.refl _
  rintro ⟨gf', fs'⟩ ⟨⟨nf1', nf', nfp', hbf', hfn'⟩, hfl'⟩
  simp only at nf1' nf' nfp' hbf' hfn' hfl'
  obtain ⟨S, hS⟩ : ∃ S, S = swapM s.M i n := ⟨_, rfl⟩
  obtain ⟨p, hp⟩ : ∃ p, p = S n k := ⟨_, rfl⟩
  have hSf : ∀ a b, okQ (S a b) := by rw [hS]; exact swapM_fit hri.fit i n
  have hpv : nm p ≠ 0 := by
    rw [hp, hS]
    unfold swapM
    by_cases e : n = i
    · rw [if_pos e, e]; exact h4
    · rw [if_neg e, if_pos rfl]; exact h4
  have hpf : okQ p := by rw [hp]; exact hSf n k
  rw [← hS]
  refine AW_runA ?_
  simp [n1, Ne.symm n1, np1, Ne.symm np1, nf1', Ne.symm nf1']
  refine callP_rl (hAt n k S hnr hkc) (by intro z b hz; simp only [upd_apply] at hz ⊢; grind) ?_
  rw [← hp]
  simp [RT.c]
  intro g11 hg11
  intros
  have n11f : ¬ g11 = gf' := by assumption
  have n11p : ¬ g11 = gp := by assumption
  have n11 : ¬ g11 = g := by assumption
  have n111 : ¬ g11 = g1 := by assumption
  have hb11 : bl g11 = none := by assumption
  refine AW_frzAt 1 11 (.ptr (ro p).c) (upd (upd (upd (upd bl g1 (some ⟨3, [[.int .i64 r, .int .i64 c, .lsl g 3 0 (r * c)]]⟩)) g (some ⟨3, rv (flatR r c (S))⟩)) gp (some ⟨1, iv (pz s.P)⟩)) gf' (some ⟨3, rv fs'⟩)) (by intro z b hz; simp only [upd_apply] at hz ⊢; grind) (by simp [frz, dropB, n11, n11f, n11p, n111, Ne.symm n11, Ne.symm n11f, Ne.symm n11p, Ne.symm n111, hb11, V.cl, RT.c]) ?_
  have htk := rv_takeall fs'
  refine AW_runA ?_
  simp [RT.c]
  intro gB hgB
  intros
  have nBf : ¬ gB = gf' := by assumption
  have nBp : ¬ gB = gp := by assumption
  have nB : ¬ gB = g := by assumption
  have nB1 : ¬ gB = g1 := by assumption
  have hbB : bl gB = none := by assumption
  simp [n1, Ne.symm n1, np, Ne.symm np, np1, Ne.symm np1, nf', Ne.symm nf', nf1', Ne.symm nf1', nfp', Ne.symm nfp', nBf, Ne.symm nBf, nBp, Ne.symm nBp, nB, Ne.symm nB, nB1, Ne.symm nB1, appV, elsV, Int.not_lt.2 hgB]
  refine ⟨by omega, fun gF hgF hbF => ?_⟩
  have nF1 : ¬ gF = g1 := by grind
  have nF : ¬ gF = g := by grind
  have nFp : ¬ gF = gp := by grind
  have nFB : ¬ gF = gB := by grind
  have hbF' : bl gF = none := by grind
  clear hbF
  have e9 : rv (fs' ++ [ro p]) = rv fs' ++ [(ro p).c] := by rw [rv_append]; rfl
  refine AW_at [(1, .loc g1 3 0 0), (4, .lsl gp 1 0 n), (5, .lsl gF 3 0 (fs'.length + 1)), (6, .int .i64 k), (7, .int .i64 n), (11, .ptr (ro p).c)] 146 (upd (upd (upd (upd bl g1 (some ⟨3, [[.int .i64 r, .int .i64 c, .lsl g 3 0 (r * c)]]⟩)) g (some ⟨3, rv (flatR r c (S))⟩)) gp (some ⟨1, iv (pz s.P)⟩)) gF (some ⟨3, rv (fs' ++ [ro p])⟩)) ⟨rfl, by simp [RT.c], by
    rw [e9]
    intro z b hz
    simp only [upd_apply, rem_apply, htk, RT.c] at hz ⊢
    grind⟩ ?_
  refine AW_runA ?_
  simp
  refine AW_for (fun j : Nat => [(1, .loc g1 3 0 0), (4, .lsl gp 1 0 n), (5, .lsl gF 3 0 (fs'.length + 1)), (6, .int .i64 k), (7, .int .i64 n), (11, .ptr (ro p).c), (12, .int .i64 j)]) (fun j => (upd (upd (upd (upd bl g1 (some ⟨3, [[.int .i64 r, .int .i64 c, .lsl g 3 0 (r * c)]]⟩)) g (some ⟨3, rv (flatR r c (dvTo S n k j p))⟩)) gp (some ⟨1, iv (pz s.P)⟩)) gF (some ⟨3, rv (fs' ++ [ro p])⟩))) (fun j => k ≤ j ∧ j ≤ c) (fun j => c - j) _ k ⟨Nat.le_refl _, by omega⟩
    ⟨rfl, by simp [RT.c], by rw [dvTo_start]; exact Sub.refl _⟩ ?_
  rintro j ⟨hkj, hj⟩
  have wj : IntKind.i64.wrap ((j : Int) + 1) = (j : Int) + 1 := i64_in (by omega) (by omega)
  refine AW_runA ?_
  simp [n1, Ne.symm n1, np, Ne.symm np, np1, Ne.symm np1, nF, Ne.symm nF, nF1, Ne.symm nF1, nFp, Ne.symm nFp]
  refine ⟨fun hjc => ?_, fun hjc => ?_⟩
  · have l2 := flat_lt hnr hjc
    obtain ⟨tn, htn⟩ : ∃ t, n * c + j = t := ⟨_, rfl⟩
    have e1 : (n : Int) * (c : Int) = ((n * c : Nat) : Int) := (Int.natCast_mul n c).symm
    have w3 : IntKind.i64.wrap ((n : Int) * (c : Int)) = (n : Int) * (c : Int) := i64_in (by omega) (by omega)
    have w4 : IntKind.i64.wrap ((n : Int) * (c : Int) + (j : Int)) = (tn : Int) := by rw [i64_in (by omega) (by omega)]; omega
    have b2 : tn < r * c := by omega
    have b2' : (tn : Int) < (r : Int) * (c : Int) := by rw [← Int.natCast_mul]; omega
    have hA := hAt n j (dvTo S n k j p) hnr hjc
    rw [dvTo_at] at hA
    have hA2 : RL Tryz.prog (upd (upd (upd (upd bl g1 (some ⟨3, [[.int .i64 r, .int .i64 c, .lsl g 3 0 (r * c)]]⟩)) g (some ⟨3, rv (flatR r c (dvTo S n k j p))⟩)) gp (some ⟨1, iv (pz s.P)⟩)) gF (some ⟨3, rv (fs' ++ [ro p])⟩)) 107 [.agg [.int .i64 r, .int .i64 c, .lsl g 3 0 (r * c)], .int .i64 n, .int .i64 j] (.agg (ro (S n j)).c) := fun bl' hs' => hA bl' fun z b hz => hs' z b (by simp only [upd_apply] at hz ⊢; grind)
    have hset : (rv (flatR r c (dvTo S n k j p))).set tn (ro (op2 (· / ·) (S n j) p)).c = rv (flatR r c (dvTo S n k (j + 1) p)) := by
      rw [rvR_set, ← htn, flatR_set _ hnr hjc]
      exact congrArg rv (flatR_congr fun a b _ _ => dvTo_step S n k j a b p hkj)
    have hD := l05Div_ro (S n j) p (hSf n j) hpf hpv
    generalize op2 (· / ·) (S n j) p = y at hset hD
    refine AW_run ?_
    simp
    refine AW_mixedT mixedO [0, 1, 2, 3, 4, 5, 6, 7, 8, 9, 10, 11, 12, 13, 14] 1 15 (by kernel_rfl) ?_
    simp [n1, Ne.symm n1, np, Ne.symm np, np1, Ne.symm np1, nF, Ne.symm nF, nF1, Ne.symm nF1, nFp, Ne.symm nFp, w3, w4]
    refine hcQ_rl hA2 ?_
    simp [n1, Ne.symm n1, np, Ne.symm np, np1, Ne.symm np1, nF, Ne.symm nF, nF1, Ne.symm nF1, nFp, Ne.symm nFp, RT.c, w3, w4]
    refine hcQ_ro hD ?_
    simp [n1, Ne.symm n1, np, Ne.symm np, np1, Ne.symm np1, nF, Ne.symm nF, nF1, Ne.symm nF1, nFp, Ne.symm nFp, w3, w4, b2, b2']
    refine DAny_last (i := 15) (by kernel_rfl) rfl rfl rfl ?_
    simp [n1, Ne.symm n1, np, Ne.symm np, np1, Ne.symm np1, nF, Ne.symm nF, nF1, Ne.symm nF1, nFp, Ne.symm nFp, w3, w4, b2, b2', RT.c]
    refine DAny_done (by kernel_rfl) ?_
    simp [n1, Ne.symm n1, np, Ne.symm np, np1, Ne.symm np1, nF, Ne.symm nF, nF1, Ne.symm nF1, nFp, Ne.symm nFp, wj, loopQ_normal]
    refine ⟨j + 1, ⟨by omega, by omega⟩, by omega, rfl, by simp [RT.c], ?_⟩
    rw [← hset]
    intro z b hz
    simp only [upd_apply, RT.c] at hz ⊢
    grind
  have hj2 : j = c := by omega
  subst hj2
  rw [show flatR r j (dvTo S n k j p) = flatR r j (divS S n k p) from flatR_congr fun a b _ hb2 => dvTo_all S n k j a b p hb2]
  obtain ⟨ok1, eq1⟩ := stepS_eq hri.ok hri.fit hz hnr hi hni hkc h4
  refine AW_at [(1, .loc g1 3 0 0), (4, .lsl gp 1 0 n), (5, .lsl gF 3 0 (fs'.length + 1)), (6, .int .i64 k), (7, .int .i64 n)] 146 (upd (upd (upd (upd bl g1 (some ⟨3, [[.int .i64 r, .int .i64 j, .lsl g 3 0 (r * j)]]⟩)) g (some ⟨3, rv (flatR r j (divS S n k p))⟩)) gp (some ⟨1, iv (pz s.P)⟩)) gF (some ⟨3, rv (fs' ++ [ro p])⟩)) ⟨rfl, by simp, Sub.refl _⟩ ?_
  have hDf : ∀ a b, okQ (divS S n k p a b) := fun a b => by
    unfold divS
    split
    · exact okQ_op2 _ _ _
    · exact hSf a b
  refine AW_runA ?_
  simp [n1, Ne.symm n1, np, Ne.symm np, np1, Ne.symm np1, nF, Ne.symm nF, nF1, Ne.symm nF1, nFp, Ne.symm nFp]
  refine l07Clear_cp r j (divS S n k p) n k g hr hc hnr hkc hDf hg0 (by simp [n1, Ne.symm n1, np, Ne.symm np, np1, Ne.symm np1, nF, Ne.symm nF, nF1, Ne.symm nF1, nFp, Ne.symm nFp]) fun v b' hs' => ?_
  have eS : clrS (divS S n k p) n k = stepS s.M n k i := by rw [hp, hS]; rfl
  rw [eS] at hs'
  simp
  refine AW_at [(1, .loc g1 3 0 0), (4, .lsl gp 1 0 n), (5, .lsl gF 3 0 (fs'.length + 1)), (6, .int .i64 k), (7, .int .i64 n)] 146 (upd (upd (upd (upd bl g1 (some ⟨3, [[.int .i64 r, .int .i64 j, .lsl g 3 0 (r * j)]]⟩)) g (some ⟨3, rv (flatR r j (stepS s.M n k i))⟩)) gp (some ⟨1, iv (pz s.P)⟩)) gF (some ⟨3, rv (fs' ++ [ro p])⟩)) ⟨rfl, by simp, fun x y hx => hs' x y (by simp only [upd_apply] at hx ⊢; grind)⟩ ?_
  clear hs'
  have htp : (iv (pz s.P)).take n = iv (pz s.P) := by rw [hn, List.take_of_length_le (by simp)]
  refine AW_runA ?_
  simp
  intro gB2 hgB2
  intros
  have m1 : ¬ gB2 = gF := by assumption
  have m2 : ¬ gB2 = gp := by assumption
  have m3 : ¬ gB2 = g := by assumption
  have m4 : ¬ gB2 = g1 := by assumption
  have hbB2 : bl gB2 = none := by assumption
  simp [n1, Ne.symm n1, np, Ne.symm np, np1, Ne.symm np1, nF, Ne.symm nF, nF1, Ne.symm nF1, nFp, Ne.symm nFp, m1, m2, m3, m4, Ne.symm m1, Ne.symm m2, Ne.symm m3, Ne.symm m4, appV, elsV, Int.not_lt.2 hgB2, hn]
  refine ⟨by omega, fun gP hgP hbP => ?_⟩
  have nP1 : ¬ gP = g1 := by grind
  have nP : ¬ gP = g := by grind
  have nPF : ¬ gF = gP := by grind
  have hbP' : bl gP = none := by grind
  have e10 := pz_snoc s.P k
  rw [hn] at htp
  refine AW_at [(1, .loc g1 3 0 0), (4, .lsl gP 1 0 (s.P.length + 1)), (5, .lsl gF 3 0 (fs'.length + 1)), (6, .int .i64 k)] 146 (upd (upd (upd (upd bl g1 (some ⟨3, [[.int .i64 r, .int .i64 j, .lsl g 3 0 (r * j)]]⟩)) g (some ⟨3, rv (flatR r j (stepS s.M n k i))⟩)) gP (some ⟨1, iv (pz (s.P ++ [k]))⟩)) gF (some ⟨3, rv (fs' ++ [ro p])⟩)) ⟨rfl, by simp, by
    rw [e10]
    intro z b hz
    simp only [upd_apply, rem_apply, htp] at hz ⊢
    grind⟩ ?_
  clear hbP
  refine AW_run ?_
  simp [n1, Ne.symm n1, nP1, Ne.symm nP1, nF1, Ne.symm nF1]
  have hfr : frz (upd (upd (upd (upd bl g1 (some ⟨3, [[.int .i64 r, .int .i64 j, .lsl g 3 0 (r * j)]]⟩)) g (some ⟨3, rv (flatR r j (stepS s.M n k i))⟩)) gP (some ⟨1, iv (pz (s.P ++ [k]))⟩)) gF (some ⟨3, rv (fs' ++ [ro p])⟩)) 1 (.lsl g 3 0 (r * j)) = some (.sl (rv (flatR r j (stepS s.M n k i)))) := by
    have h5 := frz_lsl (bl := (upd (upd (upd (upd bl g1 (some ⟨3, [[.int .i64 r, .int .i64 j, .lsl g 3 0 (r * j)]]⟩)) g (some ⟨3, rv (flatR r j (stepS s.M n k i))⟩)) gP (some ⟨1, iv (pz (s.P ++ [k]))⟩)) gF (some ⟨3, rv (fs' ++ [ro p])⟩))) (n := 0) (sz := 3) (els := rv (flatR r j (stepS s.M n k i))) hg0 (by simp [nP, Ne.symm nP, nF, Ne.symm nF])
    rw [mapMM_cl (rv_cl _)] at h5
    simpa using h5
  refine callP_borrow 1 (ys := [.sl (rv (flatR r j (stepS s.M n k i)))]) (by simp [frzL, hfr]) (l05Fine_ro _ (by simp; omega)) rfl ?_
  rw [fine_flat, ok1]
  have hst : redStep r j k s = if okM r j (stepM s.M n k i) = true then some ⟨stepM s.M n k i, s.P ++ [k]⟩ else none := by
    unfold redStep
    rw [if_pos hPr, ← hn, hpiv, if_neg hir2]
  cases hok : okM r j (stepM s.M n k i)
  · have hno : redTo r j M j = none := by
      have h1 : redTo r j M (k + 1) = none := by
        show (redTo r j M k).bind _ = _
        rw [hred]
        show redStep r j k s = none
        rw [hst, hok]; rfl
      have := redTo_none h1 (j - (k + 1))
      rwa [show k + 1 + (j - (k + 1)) = j by omega] at this
    simp
    rw [retK_ret]
    refine ⟨[.lsl gP 1 0 (s.P.length + 1), .lsl gF 3 0 (fs'.length + 1)], by simp, ?_⟩
    have := hK (stepS s.M n k i) (s.P ++ [k]) (.lsl gF 3 0 (fs'.length + 1)) (upd (upd (upd (upd bl g1 (some ⟨3, [[.int .i64 r, .int .i64 j, .lsl g 3 0 (r * j)]]⟩)) g (some ⟨3, rv (flatR r j (stepS s.M n k i))⟩)) gP (some ⟨1, iv (pz (s.P ++ [k]))⟩)) gF (some ⟨3, rv (fs' ++ [ro p])⟩)) gP (.bad _ _ hno (by rw [ok1]; exact hok)) rfl rfl (fun h => by omega) hbP' (by simp [nP, Ne.symm nP, nP1, Ne.symm nP1, nPF, Ne.symm nPF]) (by intro z b hz; simp only [upd_apply] at hz ⊢; grind)
    simpa using this
  · have hst2 : redStep r j k s = some ⟨stepM s.M n k i, s.P ++ [k]⟩ := by rw [hst, hok]; rfl
    have hred2 : redTo r j M (k + 1) = some ⟨stepM s.M n k i, s.P ++ [k]⟩ := by show (redTo r j M k).bind _ = _; rw [hred]; exact hst2
    simp
    refine AW_run ?_
    simp [wk, loopQ_normal]
    have ee : flatR r j (stepS s.M n k i) = flatR r j (stepM s.M n k i) := flatR_congr (eq1 hok)
    refine ⟨⟨k + 1, ⟨stepM s.M n k i, s.P ++ [k]⟩, gP, gF, fs' ++ [ro p]⟩, ⟨⟨by simp only; omega, hred2, redStep_ri hri hkc hst2⟩, ⟨nP1, nP, hbP', fun h => by simp only at h; omega⟩, ⟨nF1, nF, nPF, hbF', fun h => by simp only at h; omega⟩, by simp; omega⟩, by simp only; omega, rfl, by simp, ?_⟩
    rw [ee]; exact Sub.refl _
end Go.Proofs.YtmbcofnnibpbeaaGreat.Vm

namespace Go.Proofs.YtmbcofnnibpbeaaGreat.Vm
open Go Go.Proofs
set_option linter.unusedSimpArgs false
set_option linter.unusedVariables false

theorem l05Copy_cp {bl : Int → Option Blk} {K : V → (Int → Option Blk) → Prop} (rs : List RT) (hq : fitQ rs 1048576)
    (hK : ∀ g bl', 0 ≤ g → bl g = none → bl' g = some ⟨3, rv rs⟩ → Sub bl bl' → K (.lsl g 3 0 rs.length) bl') : CallP Tryz.prog 180 [.sl (rv rs)] bl K := by
  have hl := hq.1
  refine callP_of Tryz.func180 rfl rfl (by rw [Tryz.ntmps180]; simp) ?_
  rw [Tryz.ntmps180, Tryz.results180]
  refine AW_run ?_
  simp
  intro g00 hg00 hb00
  refine AW_for (fun p : Nat × Int => [(3, .lsl p.2 3 0 p.1), (7, .sl (rv rs)), (8, .int .i64 rs.length), (9, .int .i64 p.1)]) (fun p => upd bl p.2 (some ⟨3, rv (rs.take p.1)⟩)) (fun p => p.1 ≤ rs.length ∧ bl p.2 = none ∧ 0 ≤ p.2) (fun p => rs.length - p.1) _ (0, g00) ⟨Nat.zero_le _, hb00, hg00⟩ ⟨rfl, by simp, sub_eq (by simp [rv])⟩ ?_
  rintro ⟨i, g⟩ ⟨hi, hg, h0⟩
  simp only at hi hg h0
  have wi : IntKind.i64.wrap ((i : Int) + 1) = (i : Int) + 1 := i64_in (by omega) (by omega)
  refine AW_run ?_
  simp
  refine ⟨fun h => ?_, fun h => ?_⟩
  · have hc := l04Copy_ro rs[i] (hq.2 _ (List.getElem_mem h)).1 (hq.2 _ (List.getElem_mem h)).2
    have e1 := rv_at rs i h
    have hs := rv_snoc rs i h
    have ht := rv_takeall (rs.take i)
    rw [show (rs.take i).length = i by simp; omega] at ht
    simp [h, e1, RT.c]
    intro g5 hg5 h5g hb5
    refine callP_ro hc ?_
    simp [RT.c]
    intro g2 hg2 h25 h2g hb2
    simp [h5g, Ne.symm h5g, h25, Ne.symm h25, h2g, Ne.symm h2g, appV, elsV, Int.not_lt.2 hg2, hi]
    refine ⟨by omega, fun g3 hg3 hb3 => ?_⟩
    have hb3' : bl g3 = none := by grind
    have n35 : ¬ g3 = g5 := by grind
    simp [wi, loopQ_normal]
    refine ⟨i + 1, g3, ⟨by omega, hb3', by omega⟩, by omega, rfl, by simp, ?_⟩
    rw [hs, ht]
    intro x y hx
    simp only [upd_apply, rem_apply, RT.c] at hx ⊢
    grind
  · have hi2 : i = rs.length := by omega
    subst hi2
    rw [List.take_length, retK_ret]
    exact ⟨[.lsl g 3 0 rs.length], by simp, hK g _ h0 hg (by simp) (by simp [hg])⟩
theorem l06Copy_cp {bl : Int → Option Blk} {K : V → (Int → Option Blk) → Prop} (m : MX) (hq : fitQ m.cells 1048576)
    (hK : ∀ g bl', 0 ≤ g → bl g = none → bl' g = some ⟨3, rv m.cells⟩ → Sub bl bl' → K (.agg [.int .i64 m.r, .int .i64 m.c, .lsl g 3 0 m.cells.length]) bl') : CallP Tryz.prog 148 [.agg m.c3] bl K := by
  refine callP_of Tryz.func148 rfl rfl (by rw [Tryz.ntmps148]; simp) ?_
  rw [Tryz.ntmps148, Tryz.results148]
  refine AW_runA ?_
  simp [MX.c3]
  intro g1 hg1 hb1 g2 hg2 h21 hb2
  refine AW_frzAt 1 1 (.ptr m.c3) (upd bl g2 (some ⟨3, [[.int .i64 0, .int .i64 0, .nils]]⟩)) (by intro z b hz; simp only [upd_apply, MX.c3] at hz ⊢; grind) (by simp [frz, dropB, hb1, h21, Ne.symm h21, MX.c3, V.cl]) ?_
  refine AW_run ?_
  refine AW_mixedB mixedO bl (by simp [hb2]) [0, 1, 2, 3, 4, 5] 3 (by kernel_rfl) ?_
  simp [MX.c3]
  refine DAny_one (i := 6) (by kernel_rfl) rfl rfl ?_
  simp
  refine l05Copy_cp m.cells hq fun g b' hg0 hg hgb hsb => ?_
  have k2 : b' g2 = some ⟨3, [[.int .i64 0, .int .i64 0, .nils]]⟩ := hsb g2 _ (by simp)
  have ng : g ≠ g2 := fun e => by rw [e] at hg; simp at hg
  have hsb' : Sub bl b' := fun x y hx => hsb x y (by have : x ≠ g2 := fun e => (by rw [e, hb2] at hx; cases hx); simp [upd_apply, this, hx])
  have hg' : bl g = none := by simpa [upd_apply, ng] using hg
  refine ⟨hsb', DAny_one (i := 7) (by kernel_rfl) rfl rfl ?_⟩
  simp
  refine ⟨hsb', DAny_one (i := 8) (by kernel_rfl) rfl rfl ?_⟩
  simp [k2]
  have hs2 : Sub bl (upd b' g2 (some ⟨3, [[.int .i64 m.r, .int .i64 m.c, .lsl g 3 0 m.cells.length]]⟩)) := hsb'.upd hb2 _
  refine ⟨hs2, DAny_done (by kernel_rfl) ?_⟩
  rw [retK_ret]
  exact ⟨[.agg [.int .i64 m.r, .int .i64 m.c, .lsl g 3 0 m.cells.length]], by simp, hK g _ hg0 hg' (by simp [upd_apply, ng, hgb]) hs2⟩

def mfOf (cells : List RT) (c : Nat) : MF := fun i j => rd (cells.getD (i * c + j) rz)
theorem mfOf_fit (cells : List RT) (c : Nat) : ∀ i j, okQ (mfOf cells c i j) := fun i j => okQ_rd _
theorem mfOf_ok {m : MX} {r c : Nat} (h : MOk m r c) : okM r c (mfOf m.cells c) = true := okM_iff.2 fun i j hi hj => by
  have hall := h.ok
  unfold allOk at hall
  rw [List.all_eq_true] at hall
  have hlt : i * c + j < m.cells.length := by rw [h.len]; exact flat_lt hi hj
  unfold mfOf
  rw [getD_at _ _ _ hlt]
  exact hall _ (List.getElem_mem hlt)
theorem cells_flat {m : MX} {r c : Nat} (h : MOk m r c) : m.cells = flatR r c (mfOf m.cells c) := by
  have hall := h.ok
  unfold allOk at hall
  rw [List.all_eq_true] at hall
  apply List.ext_getElem
  · simp [h.len]
  · intro t h1 h2
    have ht : t < r * c := by simpa using h2
    simp only [flatR, List.getElem_map, List.getElem_range, mfOf]
    rw [show t / c * c + t % c = t by rw [Nat.mul_comm]; exact Nat.div_add_mod t c, getD_at _ _ _ h1]
    have h3 := hall _ (List.getElem_mem h1)
    cases hq : rd m.cells[t] with
    | none => rw [hq] at h3; cases h3
    | some q => rw [ro_some]; exact (rd_some hq).1
/-- What is told of an elimination. -/
def redR (r c : Nat) (M : MF) : V := match redTo r c M c with
  | some s => .tup [.agg [.int .i64 r, .int .i64 c, .sl (rv (flatR r c s.M))], .sl (iv (pz s.P)), .bool true]
  | none => .tup [.agg [.int .i64 0, .int .i64 0, .sl []], .sl [], .bool false]
theorem frz_red {B : Int → Option Blk} {r c g gp : Int} {rs : List RT} {P : List Nat} (hg0 : 0 ≤ g) (hg : B g = some ⟨3, rv rs⟩) (hgpn : gp < 0 → P = []) (hp : B gp = some ⟨1, iv (pz P)⟩) :
    frz B 3 (.tup [.agg [.int .i64 r, .int .i64 c, .lsl g 3 0 rs.length], .lsl gp 1 0 P.length, .bool true]) = some (.tup [.agg [.int .i64 r, .int .i64 c, .sl (rv rs)], .sl (iv (pz P)), .bool true]) := by
  have hi : ∀ n (k : Int), frz B n (.int .i64 k) = some (.int .i64 k) := fun n k => by cases n <;> simp [frz]
  have hb : ∀ n (k : Bool), frz B n (.bool k) = some (.bool k) := fun n k => by cases n <;> simp [frz]
  have h1 : frz B 1 (.lsl g 3 0 rs.length) = some (.sl (rv rs)) := by
    have h5 := frz_lsl (bl := B) (n := 0) (sz := 3) (els := rv rs) hg0 hg
    rw [mapMM_cl (rv_cl _)] at h5
    simpa using h5
  have h2 : frz B 2 (.lsl gp 1 0 P.length) = some (.sl (iv (pz P))) := by
    rcases Int.lt_or_le gp 0 with h9 | h9
    · rw [hgpn h9]; simp [frz, h9]; rfl
    · have h5 := frz_lsl (bl := B) (n := 1) (sz := 1) (els := iv (pz P)) h9 hp
      rw [mapMM_cl (iv_cl _)] at h5
      simpa using h5
  have h3 : frz B 2 (.agg [.int .i64 r, .int .i64 c, .lsl g 3 0 rs.length]) = some (.agg [.int .i64 r, .int .i64 c, .sl (rv rs)]) := by
    rw [frz_agg]
    simp only [List.mapM_cons, List.mapM_nil, hi, h1]
    rfl
  rw [frz_tup]
  simp only [List.mapM_cons, List.mapM_nil, h2, h3, hb]
  rfl
theorem spec_Reduce_ro (m : MX) (r c : Nat) (h : MOk m r c) : RO Tryz.prog 102 [.agg m.c3] (redR r c (mfOf m.cells c)) := by
  have hm := h.mul
  have h1 := h.r24
  have h2 := h.c24
  refine ro_of2 Tryz.func102 rfl rfl (by rw [Tryz.ntmps102]; simp) fun bl => ?_
  rw [Tryz.ntmps102, Tryz.results102]
  refine AW_runA ?_
  simp [MX.c3]
  intro g1 hg1 hb1 g2 hg2 h21 hb2
  refine AW_frzAt 1 1 (.ptr m.c3) (upd bl g2 (some ⟨3, [[.int .i64 0, .int .i64 0, .nils]]⟩)) (by intro z b hz; simp only [upd_apply, MX.c3] at hz ⊢; grind) (by simp [frz, dropB, hb1, h21, Ne.symm h21, MX.c3, V.cl]) ?_
  refine AW_runA ?_
  simp [MX.c3]
  refine callP_ro (MatrixOk_ro m r c h) ?_
  simp
  refine AW_runA ?_
  simp [MX.c3]
  refine l06Copy_cp m h.fq fun g b' hg0 hg hgb hsb => ?_
  have k2 : b' g2 = some ⟨3, [[.int .i64 0, .int .i64 0, .nils]]⟩ := hsb g2 _ (by simp)
  have ng : ¬ g = g2 := fun e => by rw [e] at hg; simp at hg
  have hg' : bl g = none := by simpa [upd_apply, ng] using hg
  simp [h.hr, h.hc, h.len]
  intro g5 hg5 hb5
  have n52 : ¬ g5 = g2 := fun e => by rw [e, k2] at hb5; cases hb5
  have n5 : ¬ g5 = g := fun e => by rw [e, hgb] at hb5; cases hb5
  have hb5' : bl g5 = none := by
    cases hh : bl g5 with
    | none => rfl
    | some y => have := hsb g5 y (by simp [upd_apply, n52, hh]); rw [hb5] at this; cases this
  have hcf := cells_flat h
  obtain ⟨M, hM⟩ : ∃ M, M = mfOf m.cells c := ⟨_, rfl⟩
  rw [← hM] at hcf ⊢
  rw [hcf] at hgb
  have hMf : ∀ i j, okQ (M i j) := by rw [hM]; exact mfOf_fit _ _
  have hMo : okM r c M = true := by rw [hM]; exact mfOf_ok h
  have hs5 : Sub bl b' := fun x y hx => hsb x y (by have : x ≠ g2 := fun e => (by rw [e, hb2] at hx; cases hx); simp [upd_apply, this, hx])
  refine AW_at [(2, .loc g2 3 0 0), (5, .loc g5 3 0 0)] 26 (upd (upd (upd bl g2 (some ⟨3, [[.int .i64 0, .int .i64 0, .nils]]⟩)) g5 (some ⟨3, [[.int .i64 r, .int .i64 c, .lsl g 3 0 (r * c)]]⟩)) g (some ⟨3, rv (flatR r c M)⟩)) ⟨rfl, by simp, by
    intro x y hx
    have := hs5 x y
    simp only [upd_apply] at hx ⊢
    grind⟩ ?_
  clear hsb hs5 hgb k2 hb5 hg
  refine AW_runA ?_
  simp [n52, Ne.symm n52, n5, Ne.symm n5, ng, Ne.symm ng]
  refine l07Reduce_cp r c M g h1 h2 hMf hMo hg0 (by simp) fun X P v2 b2 gp hout hv1 hv2 hgpn hgp hgpb hs2 => ?_
  have q2 : b2 g2 = some ⟨3, [[.int .i64 0, .int .i64 0, .nils]]⟩ := hs2 g2 _ (by simp [ng, Ne.symm ng, n52, Ne.symm n52])
  have q5 : b2 g5 = some ⟨3, [[.int .i64 r, .int .i64 c, .lsl g 3 0 (r * c)]]⟩ := hs2 g5 _ (by simp [n5, Ne.symm n5])
  have qg : b2 g = some ⟨3, rv (flatR r c X)⟩ := hs2 g _ (by simp)
  have hgp2 : gp ≠ g2 := fun e => by rw [e] at hgp; simp [ng, Ne.symm ng, n52, Ne.symm n52] at hgp
  have hgp5 : gp ≠ g5 := fun e => by rw [e] at hgp; simp [n5, Ne.symm n5] at hgp
  have hgpg : gp ≠ g := fun e => by rw [e] at hgp; simp at hgp
  have hgp' : bl gp = none := by simpa [upd_apply, hgp2, hgp5, hgpg] using hgp
  have hsb2 : Sub bl b2 := fun x y hx => hs2 x y (by
    have x1 : x ≠ g := fun e => by rw [e, hg'] at hx; cases hx
    have x2 : x ≠ g2 := fun e => by rw [e, hb2] at hx; cases hx
    have x3 : x ≠ g5 := fun e => by rw [e, hb5'] at hx; cases hx
    simp [upd_apply, x1, x2, x3, hx])
  simp [hv1, hv2]
  have hfr : frz b2 1 (.lsl g 3 0 (r * c)) = some (.sl (rv (flatR r c X))) := by
    have h5 := frz_lsl (bl := b2) (n := 0) (sz := 3) (els := rv (flatR r c X)) hg0 qg
    rw [mapMM_cl (rv_cl _)] at h5
    simpa using h5
  have hfp : frz (dropB b2 bl) 1 (.lsl gp 1 0 P.length) = some (.sl (iv (pz P))) := by
    have h8 : 0 ≤ gp ∨ pz P = [] := by
      rcases Int.lt_or_le gp 0 with h9 | h9
      · exact .inr (by rw [hgpn h9]; rfl)
      · exact .inl h9
    have := frz_any (g := gp) (ns := pz P) (bl := b2) (bl0 := bl) h8 hgp' hgpb
    simpa using this
  have hfg : frz (dropB b2 bl) 1 (.lsl g 3 0 (r * c)) = some (.sl (rv (flatR r c X))) := frz_slice (sz := 3) (n := r * c) hg0 hg' qg (by simp) (rv_cl _)
  refine AW_run ?_
  simp [q5]
  refine callP_borrow 1 (ys := [.sl (rv (flatR r c X))]) (by simp [frzL, hfr]) (l05Fine_ro _ (by simp; omega)) rfl ?_
  rw [fine_flat]
  cases hout with
  | good s hs _ hP =>
    have hri := redTo_ri hMo hMf c (Nat.le_refl _) s hs
    have er : redR r c M = .tup [.agg [.int .i64 r, .int .i64 c, .sl (rv (flatR r c s.M))], .sl (iv (pz s.P)), .bool true] := by unfold redR; rw [hs]
    rw [er, hri.ok]
    subst hP
    simp [q2, q5, n52, Ne.symm n52]
    refine retRO [.agg [.int .i64 r, .int .i64 c, .lsl g 3 0 (r * c)], .lsl gp 1 0 s.P.length, .bool true] 3 (by simp) ?_ (hsb2.upd hb2 _)
    have h7 := frz_red (B := dropB (upd b2 g2 (some ⟨3, [[.int .i64 r, .int .i64 c, .lsl g 3 0 (r * c)]]⟩)) bl) (r := r) (c := c) (g := g) (gp := gp) (rs := flatR r c s.M) (P := s.P) hg0 (by simp [dropB, hg', ng, qg]) hgpn (by simp [dropB, hgp', hgp2, hgpb])
    rw [flatR_len] at h7
    exact h7
  | bad _ _ hs ho =>
    have er : redR r c M = .tup [.agg [.int .i64 0, .int .i64 0, .sl []], .sl [], .bool false] := by unfold redR; rw [hs]
    rw [er, ho]
    simp [q2, q5, n52, Ne.symm n52]
    exact retRO [.agg [.int .i64 0, .int .i64 0, .nils], .nils, .bool false] 3 (by simp) (by simp [frz, V.cl]) (hsb2.upd hb2 _)
end Go.Proofs.YtmbcofnnibpbeaaGreat.Vm

namespace Go.Proofs.YtmbcofnnibpbeaaGreat.Vm
open Go Go.Proofs
set_option linter.unusedSimpArgs false
set_option linter.unusedVariables false

/-- Where a number stands in a list. -/
def ix : List Nat → Nat → Option Nat
  | [], _ => none
  | p :: ps, j => if p = j then some 0 else (ix ps j).map (· + 1)
theorem ix_snoc (p j : Nat) : ∀ (P : List Nat), ix (P ++ [p]) j = match ix P j with | some i => some i | none => if p = j then some P.length else none
  | [] => by simp [ix]
  | q :: P => by
    have ih := ix_snoc p j P
    simp only [List.cons_append, ix, List.length_cons]
    by_cases h : q = j
    · simp [h]
    · simp only [if_neg h, ih]
      cases ix P j with
      | some i => rfl
      | none => by_cases h2 : p = j <;> simp [h2]
theorem ix_mem {j : Nat} : ∀ {P : List Nat}, (ix P j).isSome = true ↔ j ∈ P
  | [] => by simp [ix]
  | p :: P => by
    have ih := ix_mem (j := j) (P := P)
    unfold ix
    by_cases h : p = j
    · simp [h]
    · rw [if_neg h, Option.isSome_map, ih]
      simp [Ne.symm h]
theorem ix_some {j : Nat} : ∀ {P : List Nat} {i : Nat}, ix P j = some i → P[i]? = some j
  | [], i, h => by simp [ix] at h
  | p :: P, i, h => by
    unfold ix at h
    by_cases h1 : p = j
    · rw [if_pos h1] at h; cases h; simp [h1]
    · rw [if_neg h1] at h
      cases hx : ix P j with
      | none => rw [hx] at h; cases h
      | some t => rw [hx] at h; cases h; simpa using ix_some hx
theorem ix_lt {j : Nat} {P : List Nat} {i : Nat} (h : ix P j = some i) : i < P.length := (List.getElem?_eq_some_iff.1 (ix_some h)).1
/-- An element of a null vector. -/
def nullAt (M : MF) (P : List Nat) (k j : Nat) : Option Rat := match ix P j with
  | some i => (M i k).map (- ·)
  | none => if j = k then some 1 else some 0
def nullL (M : MF) (P : List Nat) (c k : Nat) : List (Option Rat) := (List.range c).map (nullAt M P k)
@[simp] theorem nullL_length (M : MF) (P : List Nat) (c k : Nat) : (nullL M P c k).length = c := by simp [nullL]
/-- The columns without a pivot, up to one. -/
def freeTo (P : List Nat) (n : Nat) : List Nat := (List.range n).filter fun k => (ix P k).isNone
theorem freeTo_succ (P : List Nat) (n : Nat) : freeTo P (n + 1) = if (ix P n).isNone = true then freeTo P n ++ [n] else freeTo P n := by
  unfold freeTo
  rw [List.range_succ, List.filter_append]
  cases h : (ix P n).isNone <;> simp [h]
def nullsTo (M : MF) (P : List Nat) (c n : Nat) : List (List (Option Rat)) := (freeTo P n).map (nullL M P c)
theorem nullsTo_succ (M : MF) (P : List Nat) (c n : Nat) : nullsTo M P c (n + 1) = if (ix P n).isNone = true then nullsTo M P c n ++ [nullL M P c n] else nullsTo M P c n := by
  unfold nullsTo
  rw [freeTo_succ]
  split <;> simp
theorem freeTo_le (P : List Nat) (n : Nat) : (freeTo P n).length ≤ n := by
  unfold freeTo
  exact Nat.le_trans (List.length_filter_le _ _) (by simp)
theorem nullsTo_len (M : MF) (P : List Nat) (c n : Nat) : (nullsTo M P c n).length ≤ n := by
  unfold nullsTo; rw [List.length_map]; exact freeTo_le P n
theorem nullL_start (M : MF) (c k : Nat) (hk : k < c) : (List.replicate c (some (0 : Rat))).set k (some 1) = nullL M [] c k := by
  apply List.ext_getElem
  · simp
  · intro j h1 h2
    simp only [List.getElem_set, List.getElem_replicate, nullL, List.getElem_map, List.getElem_range, nullAt, ix]
    by_cases h : k = j
    · simp [h]
    · rw [if_neg h, if_neg (Ne.symm h)]
theorem nullL_step (M : MF) (P : List Nat) (c k p : Nat) (h : p ∉ P) : (nullL M P c k).set p ((M P.length k).map (- ·)) = nullL M (P ++ [p]) c k := by
  apply List.ext_getElem
  · simp
  · intro j h1 h2
    simp only [List.getElem_set, nullL, List.getElem_map, List.getElem_range, nullAt, ix_snoc]
    by_cases hp : p = j
    · subst hp
      have : ix P p = none := by
        cases hx : ix P p with
        | none => rfl
        | some t => exact absurd (ix_mem.1 (by rw [hx]; rfl)) h
      rw [if_pos rfl, this]; simp
    · rw [if_neg hp]
      cases hx : ix P j with
      | some i => rfl
      | none => simp [hp]
theorem nullL_ok {r c k : Nat} {s : RS} (h : RI r c c s) (hk : k < c) : ∀ x, x ∈ nullL s.M s.P c k → x.isSome = true := by
  intro x hx
  obtain ⟨j, hj, rfl⟩ := List.mem_map.1 hx
  unfold nullAt
  cases hi : ix s.P j with
  | some i =>
    have h1 := ix_lt hi
    have h2 := h.le
    simpa using okM_iff.1 h.ok i k (by omega) hk
  | none => simp only; split <;> rfl
theorem nullL_fit {M : MF} (h : ∀ i j, okQ (M i j)) (P : List Nat) (c k : Nat) : okL (nullL M P c k) := by
  intro x hx
  obtain ⟨j, hj, rfl⟩ := List.mem_map.1 hx
  unfold nullAt
  cases ix P j with
  | some i => exact okQ_neg (h i k)
  | none =>
    simp only
    split
    · intro q hq; cases hq; exact fits_int (n := 1) (by decide)
    · intro q hq; cases hq; exact fits_zero

theorem l07Has_ro (P : List Nat) (k : Nat) (hP : P.length ≤ 1000) : RO Tryz.prog 103 [.sl (iv (pz P)), .int .i64 k] (.bool (ix P k).isSome) := by
  refine ro_of2 Tryz.func103 rfl rfl (by rw [Tryz.ntmps103]; simp) fun bl => ?_
  rw [Tryz.ntmps103, Tryz.results103]
  refine AW_run ?_
  simp
  refine AW_for (fun i : Nat => [(1, .int .i64 k), (7, .sl (iv (pz P))), (8, .int .i64 P.length), (9, .int .i64 i)]) (fun _ => bl) (fun i => i ≤ P.length ∧ k ∉ P.take i) (fun i => P.length - i) _ 0 ⟨Nat.zero_le _, by simp⟩ ⟨rfl, by simp, Sub.refl _⟩ ?_
  rintro i ⟨hi, hno⟩
  have wi : IntKind.i64.wrap ((i : Int) + 1) = (i : Int) + 1 := i64_in (by omega) (by omega)
  refine AW_run ?_
  simp
  refine ⟨fun h => ?_, fun h => ?_⟩
  · have e1 : ∀ h, (pz P)[i]'h = (P[i] : Int) := fun h => by simp [pz]
    simp [h, e1]
    by_cases hk : P[i] = k
    · have : ((P[i] : Nat) : Int) = k := by omega
      have hm : (ix P k).isSome = true := ix_mem.2 (hk ▸ List.getElem_mem h)
      rw [hm]
      simp [this]
      exact retRO [.bool true] 0 (by simp) (by simp [frz]) (Sub.refl _)
    · have : ¬ ((P[i] : Nat) : Int) = k := by omega
      simp [this, wi, loopQ_normal]
      refine ⟨i + 1, ⟨by omega, ?_⟩, by omega, rfl, by simp, Sub.refl _⟩
      intro hm
      rw [List.take_succ_eq_append_getElem h] at hm
      rcases List.mem_append.1 hm with hm | hm
      · exact hno hm
      · exact hk (by have h9 : k = P[i] := by simpa using hm
                     exact h9.symm)
  · have hi2 : i = P.length := by omega
    subst hi2
    rw [List.take_length] at hno
    have hm : (ix P k).isSome = false := by
      cases hx : (ix P k).isSome with
      | false => rfl
      | true => exact absurd (ix_mem.1 hx) hno
    rw [hm]
    exact retRO [.bool false] 0 (by simp) (by simp [frz]) (Sub.refl _)
end Go.Proofs.YtmbcofnnibpbeaaGreat.Vm

namespace Go.Proofs.YtmbcofnnibpbeaaGreat.Vm
open Go Go.Proofs
set_option linter.unusedSimpArgs false
set_option linter.unusedVariables false

def rvv (ls : List (List RT)) : List (List V) := ls.map fun w => [.sl (rv w)]
@[simp] theorem rvv_length (ls : List (List RT)) : (rvv ls).length = ls.length := by simp [rvv]
theorem rvv_append (a b : List (List RT)) : rvv (a ++ b) = rvv a ++ rvv b := by simp [rvv]
theorem rvv_cl (ls : List (List RT)) : (rvv ls).all (fun e => e.all V.cl) = true := by simp [rvv, V.cl]
theorem rv_zeros (c : Nat) : rv (zeros c) = rv (roAll (List.replicate c (some 0))) := by simp [zeros, roAll]
/-- What is told of the null vectors. -/
def nulR (r c : Nat) (M : MF) : List (List RT) × Bool := match redTo r c M c with
  | some s => ((nullsTo s.M s.P c c).map roAll, true)
  | none => ([], false)
def nulV (x : List (List RT) × Bool) : V := .tup [.sl (rvv x.1), .bool x.2]
structure NG where
  k : Nat
  g : Int
theorem spec_NullVectors_ro (m : MX) (r c : Nat) (h : MOk m r c) : RO Tryz.prog 54 [.agg m.c3] (nulV (nulR r c (mfOf m.cells c))) := by
  have hm := h.mul
  have h1 := h.r24
  have h2 := h.c24
  have hR := spec_Reduce_ro m r c h
  have hMf := mfOf_fit m.cells c
  have hMo := mfOf_ok h
  generalize mfOf m.cells c = M at *
  refine ro_of2 Tryz.func54 rfl rfl (by rw [Tryz.ntmps54]; simp) fun bl => ?_
  rw [Tryz.ntmps54, Tryz.results54]
  refine AW_runA ?_
  simp [MX.c3]
  intro g1 hg1 hb1
  refine AW_frzAt 1 1 (.ptr m.c3) bl (by simp [hb1]) (by simp [frz, dropB, hb1, MX.c3, V.cl]) ?_
  cases hs : redTo r c M c with
  | none =>
    have e1 : redR r c M = .tup [.agg [.int .i64 0, .int .i64 0, .sl []], .sl [], .bool false] := by unfold redR; rw [hs]
    have e2 : nulR r c M = ([], false) := by unfold nulR; rw [hs]
    rw [e1] at hR
    rw [e2]
    refine AW_run ?_
    simp [MX.c3]
    refine callP_ro hR ?_
    simp
    intro g4 hg4 hb4
    exact retRO [.nils, .bool false] 1 (by simp) (by simp [frz, V.cl, nulV, rvv]) (by simp [hb4])
  | some s =>
    have e1 : redR r c M = .tup [.agg [.int .i64 r, .int .i64 c, .sl (rv (flatR r c s.M))], .sl (iv (pz s.P)), .bool true] := by unfold redR; rw [hs]
    have e2 : nulR r c M = ((nullsTo s.M s.P c c).map roAll, true) := by unfold nulR; rw [hs]
    have hri := redTo_ri hMo hMf c (Nat.le_refl _) s hs
    have hPl := hri.le
    rw [e1] at hR
    rw [e2]
    refine AW_runA ?_
    simp [MX.c3]
    refine callP_ro hR ?_
    simp
    intro g4 hg4 hb4
    refine AW_frzAt 1 4 (.ptr [.int .i64 r, .int .i64 c, .sl (rv (flatR r c s.M))]) bl (by simp [hb4]) (by simp [frz, dropB, hb4, V.cl]) ?_
    refine AW_runA ?_
    simp
    refine AW_runA ?_
    simp
    intro g7 hg7 hb7
    refine AW_runA ?_
    simp
    refine AW_for (fun p : NG => [(1, .ptr m.c3), (4, .ptr [.int .i64 r, .int .i64 c, .sl (rv (flatR r c s.M))]), (5, .sl (iv (pz s.P))), (7, .lsl p.g 1 0 (nullsTo s.M s.P c p.k).length), (8, .int .i64 p.k)]) (fun p => upd bl p.g (some ⟨1, rvv ((nullsTo s.M s.P c p.k).map roAll)⟩)) (fun p => p.k ≤ c ∧ 0 ≤ p.g ∧ bl p.g = none) (fun p => c - p.k) _ ⟨0, g7⟩ ⟨Nat.zero_le _, hg7, hb7⟩
      ⟨rfl, by simp [nullsTo, freeTo, MX.c3], by
        have z1 : rvv ((nullsTo s.M s.P c 0).map roAll) = [] := rfl
        intro z b hz; simp only [upd_apply, z1] at hz ⊢; grind⟩ ?_
    rintro ⟨k, g⟩ ⟨hk, hg0, hbg⟩
    simp only at hk hg0 hbg
    have wk : IntKind.i64.wrap ((k : Int) + 1) = (k : Int) + 1 := i64_in (by omega) (by omega)
    refine AW_runA ?_
    simp [MX.c3, h.hc]
    refine ⟨fun hkc => ?_, fun hkc => ?_⟩
    · refine AW_seq (AW_block ?_)
      refine AW_runA ?_
      simp
      refine callP_ro (l07Has_ro s.P k (by omega)) ?_
      have hsucc := nullsTo_succ s.M s.P c k
      have hnl := nullsTo_len s.M s.P c k
      cases hx : ix s.P k with
      | some i0 =>
        rw [hx] at hsucc
        simp only [Option.isNone_some, Bool.false_eq_true, if_false] at hsucc
        simp
        refine AW_run ?_
        simp [wk, loopQ_normal]
        refine ⟨⟨k + 1, g⟩, ⟨by simp only; omega, hg0, hbg⟩, by simp only; omega, rfl, by simp [hsucc, MX.c3], ?_⟩
        rw [hsucc]; exact Sub.refl _
      | none =>
        rw [hx] at hsucc
        simp only [Option.isNone_none, if_true] at hsucc
        have w1 := RatFromInt_ro 1 (by omega)
        rw [show ((1 : Int) : Rat) = 1 from rfl] at w1
        simp
        refine AW_runA ?_
        simp [MX.c3, h.hc]
        refine callP_new (l05Zeros_nw c (by omega)) fun v gs b' o f fr => ?_
        rcases own_rvF.1 o with ⟨h0, _⟩ | ⟨gv, rfl, rfl, hgvb, hgvn⟩
        · have := congrArg List.length h0
          simp at this; omega
        have hgv : upd bl g (some ⟨1, rvv ((nullsTo s.M s.P c k).map roAll)⟩) gv = none := f gv (by simp)
        have ngv : ¬ gv = g := fun e => by rw [e] at hgv; simp at hgv
        have hgv' : bl gv = none := by simpa [upd_apply, ngv] using hgv
        have hgv0 : 0 ≤ gv := by
          rcases Int.lt_or_le gv 0 with h9 | h9
          · have := congrArg List.length (hgvn h9); simp at this; omega
          · exact h9
        rw [rv_zeros] at hgvb
        have hgb : b' g = some ⟨1, rvv ((nullsTo s.M s.P c k).map roAll)⟩ := new_keep f fr (by simp)
        have hsb : Sub bl b' := fun x y hx => new_keep f fr (by have : x ≠ g := fun e => (by rw [e, hbg] at hx; cases hx); simp [upd_apply, this, hx])
        simp
        refine AW_at [(1, .ptr [.int .i64 r, .int .i64 c, .sl (rv m.cells)]), (4, .ptr [.int .i64 r, .int .i64 c, .sl (rv (flatR r c s.M))]), (5, .sl (iv (pz s.P))), (7, .lsl g 1 0 (nullsTo s.M s.P c k).length), (8, .int .i64 k), (9, .lsl gv 3 0 c)] 58 (upd (upd bl g (some ⟨1, rvv ((nullsTo s.M s.P c k).map roAll)⟩)) gv (some ⟨3, rv (roAll (List.replicate c (some 0)))⟩)) ⟨rfl, by simp [h.hr, h.hc], by
          intro x y hx
          have := hsb x y
          simp only [upd_apply] at hx
          grind⟩ ?_
        clear hsb hgb hgvb f fr o
        have hst := rv_set (List.replicate c (some (0 : Rat))) k (some 1)
        rw [nullL_start s.M c k hkc] at hst
        refine AW_runA ?_
        simp
        refine callP_ro w1 ?_
        generalize ro (some (1 : Rat)) = one at hst
        simp [hkc, RT.c]
        refine AW_at [(1, .ptr [.int .i64 r, .int .i64 c, .sl (rv m.cells)]), (4, .ptr [.int .i64 r, .int .i64 c, .sl (rv (flatR r c s.M))]), (5, .sl (iv (pz s.P))), (7, .lsl g 1 0 (nullsTo s.M s.P c k).length), (8, .int .i64 k), (9, .lsl gv 3 0 c)] 58 (upd (upd bl g (some ⟨1, rvv ((nullsTo s.M s.P c k).map roAll)⟩)) gv (some ⟨3, rv (roAll (nullL s.M (s.P.take 0) c k))⟩)) ⟨rfl, by simp, by
          rw [List.take_zero, ← hst]
          intro x y hx
          simp only [upd_apply, RT.c] at hx ⊢
          grind⟩ ?_
        clear hst
        refine AW_runA ?_
        simp
        refine AW_for (fun i : Nat => [(1, .ptr [.int .i64 r, .int .i64 c, .sl (rv m.cells)]), (4, .ptr [.int .i64 r, .int .i64 c, .sl (rv (flatR r c s.M))]), (5, .sl (iv (pz s.P))), (7, .lsl g 1 0 (nullsTo s.M s.P c k).length), (8, .int .i64 k), (9, .lsl gv 3 0 c), (37, .sl (iv (pz s.P))), (38, .int .i64 s.P.length), (39, .int .i64 i)]) (fun i => (upd (upd bl g (some ⟨1, rvv ((nullsTo s.M s.P c k).map roAll)⟩)) gv (some ⟨3, rv (roAll (nullL s.M (s.P.take i) c k))⟩))) (fun i => i ≤ s.P.length) (fun i => s.P.length - i) _ 0 (Nat.zero_le _) ⟨rfl, by simp, Sub.refl _⟩ ?_
        intro i hi
        have wi : IntKind.i64.wrap ((i : Int) + 1) = (i : Int) + 1 := i64_in (by omega) (by omega)
        refine AW_runA ?_
        simp
        refine AW_runA ?_
        simp
        refine ⟨fun hip => ?_, fun hip => ?_⟩
        · obtain ⟨p, hp⟩ : ∃ p, s.P[i] = p := ⟨_, rfl⟩
          have hpc : p < c := by rw [← hp]; exact hri.piv i hip
          have hnot : p ∉ s.P.take i := fun hm => by
            obtain ⟨t, ht, e⟩ := List.mem_iff_getElem.1 hm
            rw [List.length_take] at ht
            rw [List.getElem_take] at e
            have := hri.inc t i (by omega) hip
            omega
          have e5 : ∀ h, (pz s.P)[i]'h = (p : Int) := fun h => by simp [pz, hp]
          have hA := l06At_ro ⟨r, c, flatR r c s.M⟩ i k r c rfl (by omega) (by omega) (by omega) hkc (by simp) _ (flatR_get s.M (by omega) hkc)
          have hN := l04Neg_ro (s.M i k) (hri.fit i k)
          have hset : (rv (roAll (nullL s.M (s.P.take i) c k))).set p (ro ((s.M i k).map (- ·))).c = rv (roAll (nullL s.M (s.P.take (i + 1)) c k)) := by
            rw [rv_set]
            have := nullL_step s.M (s.P.take i) c k p hnot
            rw [List.length_take, Nat.min_eq_left hi] at this
            rw [this, List.take_succ_eq_append_getElem hip, hp]
          simp only [MX.c3] at hA
          generalize (s.M i k).map (- ·) = y at hN hset
          refine AW_runA ?_
          simp [hip, e5]
          refine callP_ro hA ?_
          simp
          refine callP_ro hN ?_
          simp [hpc, RT.c]
          refine AW_run ?_
          simp [wi, loopQ_normal]
          refine ⟨i + 1, by omega, by omega, rfl, by simp, ?_⟩
          rw [← hset]
          intro x y2 hx
          simp only [upd_apply, RT.c] at hx ⊢
          grind
        · have hi2 : i = s.P.length := by omega
          subst hi2
          rw [List.take_length]
          have hfz := frz_slice (bl := upd (upd bl g (some ⟨1, rvv ((nullsTo s.M s.P c k).map roAll)⟩)) gv (some ⟨3, rv (roAll (nullL s.M s.P c k))⟩)) (bl0 := upd bl g (some ⟨1, rvv ((nullsTo s.M s.P c k).map roAll)⟩)) (sz := 3) (n := c) hgv0 hgv (els := rv (roAll (nullL s.M s.P c k))) (by simp) (by simp) (rv_cl _)
          refine AW_frzAt 1 9 (.sl (rv (roAll (nullL s.M s.P c k)))) (upd bl g (some ⟨1, rvv ((nullsTo s.M s.P c k).map roAll)⟩)) (by intro x y hx; simp only [upd_apply] at hx ⊢; grind) (by simpa using hfz) ?_
          have htk : (rvv ((nullsTo s.M s.P c k).map roAll)).take (nullsTo s.M s.P c k).length = rvv ((nullsTo s.M s.P c k).map roAll) := List.take_of_length_le (by simp)
          refine AW_run ?_
          simp
          intro gB hgB
          intros
          have nB : ¬ gB = g := by assumption
          have hbB : bl gB = none := by assumption
          simp [nB, Ne.symm nB, appV, elsV, Int.not_lt.2 hgB]
          refine ⟨by omega, fun gF hgF hbF => ?_⟩
          have nFB : ¬ gF = gB := by grind
          have hbF' : bl gF = none := by grind
          refine AW_run ?_
          simp [wk, loopQ_normal]
          refine ⟨⟨k + 1, gF⟩, ⟨by simp only; omega, by omega, hbF'⟩, by simp only; omega, rfl, by simp [hsucc, h.hr, MX.c3, h.hc], ?_⟩
          rw [hsucc, List.map_append, rvv_append, show rvv ([nullL s.M s.P c k].map roAll) = [[.sl (rv (roAll (nullL s.M s.P c k)))]] from rfl]
          intro x y hx
          simp only [upd_apply, rem_apply, htk] at hx ⊢
          grind
    · have hk2 : k = c := by omega
      subst hk2
      refine AW_run ?_
      simp
      refine retRO [.lsl g 1 0 (nullsTo s.M s.P k k).length, .bool true] 2 (by simp) ?_ (by simp [hbg])
      have hz := frz_slice (bl := upd bl g (some ⟨1, rvv ((nullsTo s.M s.P k k).map roAll)⟩)) (bl0 := bl) (sz := 1) (n := (nullsTo s.M s.P k k).length) hg0 hbg (els := rvv ((nullsTo s.M s.P k k).map roAll)) (by simp) (by simp) (rvv_cl _)
      show frz _ 2 (.tup [_, _]) = _
      rw [frz_tup]
      simp only [List.mapM_cons, List.mapM_nil, hz, show ∀ (B : Int → Option Blk) (b : Bool), frz B 1 (.bool b) = some (.bool b) from fun B b => by simp [frz]]
      rfl
end Go.Proofs.YtmbcofnnibpbeaaGreat.Vm

namespace Go.Proofs.YtmbcofnnibpbeaaGreat.Vm
open Go Go.RowKit Go.Proofs
set_option linter.unusedSimpArgs false
set_option linter.unusedVariables false

theorem arr_set_ne {α : Type} {l : Array α} {i j : Nat} {x : α} (d : α) (h : i ≠ j) : (l.setIfInBounds i x).getD j d = l.getD j d := by simp [Array.getD_eq_getD_getElem?, Array.getElem?_setIfInBounds_ne h]
def pureOp : Op → Bool
  | .move _ | .nilCheck _ | .fieldAddr .. | .indexAddr .. => true
  | _ => false
theorem SV.pure {P : Program} {blK : Int → Option Blk} {o : Oper} {σ : St} {v : V} (hp : pureOp o.op = true) (h : SV P blK o σ v) : SV P (fun _ => none) o σ v := by
  rcases h with ⟨hq, hT⟩ | ⟨c, f, p, n, ys, ho, hc, hp2, hro⟩
  · refine .inl ⟨hq, ?_⟩
    have fin : ∀ {v' : V}, (σ.withBl blK).put o.dst v' = (σ.withBl blK).put o.dst v → (σ.withBl fun _ => none).put o.dst v' = (σ.withBl fun _ => none).put o.dst v := by
      intro v' h
      cases hd : o.dst with
      | none => rfl
      | some d =>
        rw [hd] at h
        have h2 : upd σ.sl d v' = upd σ.sl d v := congrArg St.sl h
        show ({ n := σ.n, sl := upd σ.sl d v', bl := fun _ => none } : St) = { n := σ.n, sl := upd σ.sl d v, bl := fun _ => none }
        rw [h2]
    unfold Vm.T at hT ⊢
    cases ho : o.op <;> rw [ho] at hT hp <;> simp only [withBl_ev] at hT ⊢ <;> try (simp [pureOp] at hp; done)
    case move x => exact fin hT
    case nilCheck x => obtain ⟨u, h1, h2⟩ := hT; exact ⟨u, h1, fin h2⟩
    case fieldAddr => obtain ⟨u, h1, h2⟩ := hT; exact ⟨u, h1, fin h2⟩
    case indexAddr => obtain ⟨u, h1, h2⟩ := hT; exact ⟨u, h1, fin h2⟩
  · rw [ho] at hp; simp [pureOp] at hp
theorem DY.pure {P : Program} {ops : Array Oper} {blK : Int → Option Blk} {o : Oper} {σ : St} {v : V} (hp : pureOp o.op = true) (h : DY P ops blK o σ v) : DY P ops (fun _ => none) o σ v := by
  unfold DY at h ⊢
  split
  · rename_i hg; simp only [hg] at h; exact h.pure hp
  · rename_i j b hg
    simp only [hg] at h
    split
    · rename_i d hd
      simp only [hd] at h
      rcases onG_some h with ⟨q, hq, h1, h2⟩ | ⟨hq, h1⟩
      · rw [hq]; exact ⟨fun hh => (h1 hh).pure hp, h2⟩
      · rw [hq]; exact h1
    · rename_i hd; simp only [hd] at h
section
variable {P : Program} {ops : Array Oper}
theorem DL_firstP {blK : Int → Option Blk} {tl : Nat → Bool} {K : St → Prop} {i : Nat} {oi : Oper} {v : V} (hi : ops[i]? = some oi) (hti : tl i = false) : ∀ (fuel : Nat) (l : Array Bool) (σ : St),
    (∀ j oj, ops[j]? = some oj → j ≠ i → l.getD j true = false → (∀ e ∈ oj.after, Region.binds .any e = true → e.on ≠ i) → oi.apart ops oj = true) → (late tl l i = false → Sub blK σ.bl) →
    i ∈ Region.ready .any ops l → DY P ops (fun _ => none) oi σ v → DL P ops blK tl K fuel (l.setIfInBounds i true) (σ.put oi.dst v) → DL P ops blK tl K (fuel + 1) l σ := by
  have hbl : ∀ (σ : St), (σ.put oi.dst v).bl = σ.bl := fun σ => by cases oi.dst <;> rfl
  have hnone : ∀ (σ : St), Sub (fun _ => none) σ.bl := fun σ g b h => by cases h
  intro fuel
  induction fuel with
  | zero =>
    intro l σ _ hS hr hy H
    refine ⟨fun h => (by rw [h] at hr; cases hr), fun j hj => ?_⟩
    by_cases hji : j = i
    · subst hji; exact hy.step hi (hnone σ) ⟨fun h => by rw [hbl]; exact hS h, H⟩
    · have := ready_mono hj hji
      rw [H.1] at this
      cases this
  | succ fuel ih =>
    intro l σ hfree hS hr hy H
    refine ⟨fun h => (by rw [h] at hr; cases hr), fun j hj => ?_⟩
    by_cases hji : j = i
    · subst hji; exact hy.step hi (hnone σ) ⟨fun h => by rw [hbl]; exact hS h, H⟩
    · have h1 := H.2 j (ready_mono hj hji)
      obtain ⟨hjun, oj, hoj, hall⟩ := mem_ready.1 hj
      have hnot : ∀ e ∈ oj.after, Region.binds .any e = true → e.on ≠ i := fun e he hb heq => by
        have h1 := hall e he hb
        have h0 := (mem_ready.1 hr).1
        rw [heq] at h1
        rcases Nat.lt_or_ge i l.size with h' | h'
        · simp [h'] at h0 h1; rw [h0] at h1; cases h1
        · simp [Array.getElem?_eq_none h'] at h1
      have h2 := DY.put hoj (hfree j oj hoj hji hjun hnot) hy h1
      have hfree' : ∀ k ok, ops[k]? = some ok → k ≠ i → (l.setIfInBounds j true).getD k true = false →
          (∀ e ∈ ok.after, Region.binds .any e = true → e.on ≠ i) → oi.apart ops ok = true := fun k ok hk hki hun hno => by
        refine hfree k ok hk hki ?_ hno
        by_cases hjk : j = k
        · subst hjk; exact hjun
        · rw [arr_set_ne true hjk] at hun; exact hun
      refine D1_mono h2 fun σ' ⟨h3, h4, h5⟩ => ?_
      have hbl' : (σ'.put oi.dst v).bl = σ'.bl := hbl σ'
      have hS' : late tl (l.setIfInBounds j true) i = false → Sub blK σ'.bl := fun hl => by
        rw [← hbl']
        refine h4 ?_
        unfold late at hl ⊢
        rw [Bool.or_eq_false_iff, List.any_eq_false] at hl ⊢
        have hjs : j < l.size := by
          rcases Nat.lt_or_ge j l.size with h' | h'
          · exact h'
          · simp [Array.getD_eq_getD_getElem?, Array.getElem?_eq_none h'] at hjun
        have htj : tl j = false := by
          have := hl.2 j (by simp [hjs])
          rw [Array.getD_eq_getD_getElem?, Array.getElem?_setIfInBounds_self_of_lt hjs] at this
          simpa using this
        refine ⟨htj, fun k hk hh => ?_⟩
        simp only [Bool.and_eq_true] at hh
        have hkj : k ≠ j := fun e => by rw [e, htj] at hh; cases hh.1
        have hki : k ≠ i := fun e => by rw [e, hti] at hh; cases hh.1
        refine hl.2 k (by simpa using hk) ?_
        rw [arr_set_ne false (Ne.symm hki)] at hh
        rw [arr_set_ne false (Ne.symm hkj), hh.1, hh.2]; rfl
      refine ⟨fun h => hS' ?_, ih (l.setIfInBounds j true) σ' hfree' hS' (ready_mono hr (Ne.symm hji)) h3 ?_⟩
      · unfold late at h ⊢
        rw [Bool.or_eq_false_iff, List.any_eq_false] at h ⊢
        refine ⟨hti, fun k hk hh => ?_⟩
        simp only [Bool.and_eq_true] at hh
        by_cases hkj : k = j
        · subst hkj; rw [h.1] at hh; cases hh.1
        · rw [arr_set_ne false (Ne.symm hkj)] at hh
          exact h.2 k (by simpa using hk) (by rw [hh.1, hh.2]; rfl)
      · rw [Array.setIfInBounds_comm _ _ hji]
        exact h5
theorem DL_hoistP {blK : Int → Option Blk} {tl : Nat → Bool} {K : St → Prop} (fuel : Nat) : ∀ (is : List Nat) (l : Array Bool) (σ : St), (∀ i, i ∈ is → tl i = false) → (∀ k, tl k = true → l.getD k false = false) → (∀ i, i ∈ is → (∃ o, ops[i]? = some o ∧ pureOp o.op = true) ∨ ∀ j oj, tl j = true → ops[j]? = some oj → ∃ e ∈ oj.after, Region.binds .any e = true ∧ e.on = i) → hoistB ops is l = true → Sub blK σ.bl →
    Hoist P ops blK is (DL P ops blK tl K fuel (setAll is l)) σ → DL P ops blK tl K (fuel + is.length) l σ
  | [], l, σ, _, _, _, _, _, h => h
  | i :: is, l, σ, hI, hN, hT, hB, hs, h => by
    simp only [hoistB, Bool.and_eq_true] at hB
    obtain ⟨⟨hr, hf⟩, hB'⟩ := hB
    unfold Hoist at h
    split at h
    · rename_i o ho
      obtain ⟨v, hy, hK⟩ := h
      have : fuel + (i :: is).length = (fuel + is.length) + 1 := by simp; omega
      rw [this]
      have hN' : ∀ k, tl k = true → (l.setIfInBounds i true).getD k false = false := fun k hk => by
        by_cases hki : i = k
        · subst hki; rw [hI i List.mem_cons_self] at hk; cases hk
        · rw [arr_set_ne false hki]; exact hN k hk
      have next := DL_hoistP fuel is (l.setIfInBounds i true) (σ.put o.dst v) (fun i hi => hI i (List.mem_cons_of_mem _ hi)) hN' (fun i hi => hT i (List.mem_cons_of_mem _ hi)) hB' (by cases o.dst <;> exact hs) hK
      rcases hT i List.mem_cons_self with ⟨o', ho', hp⟩ | hT'
      · rw [ho] at ho'; cases ho'
        exact DL_firstP ho (hI i List.mem_cons_self) _ _ _ (Region.free_spec ho hf) (fun _ => hs) (by simpa using hr) (hy.pure hp) next
      · exact DL_first ho (hI i List.mem_cons_self) hT' _ _ _ (Region.free_spec ho hf) hN (by simpa using hr) hs hy next
    · exact h.elim
def tailP (ops : Array Oper) (tl : Nat → Bool) (is : List Nat) : Bool := is.all fun i => (match ops[i]? with | some o => pureOp o.op | none => false) || tailB ops tl [i]
theorem AW_mixedP {id : Nat} {K : Ex → St → Prop} {σ : St} (hm : P.follows .mixedOrders = true) (blK : Int → Option Blk) (hs : Sub blK σ.bl) (is : List Nat) (fuel n : Nat) (hn : (ops.size == fuel + is.length && is.all (fun i => decide (i < ops.size)) && hoistB ops is (Array.replicate ops.size false) && tailP ops (fun j => decide (n ≤ j)) is && is.all (fun i => decide (i < n))) = true)
    (h : HoistF P (ops.toList.map (·.dst)) blK (is.filterMap fun i => ops[i]?) (DL P ops blK (fun j => decide (n ≤ j)) (K .normal) fuel (setAll is (Array.replicate ops.size false))) σ) : AW P (.region id ops true) K σ := by
  simp only [Bool.and_eq_true, beq_iff_eq] at hn
  refine AW_drawL hm blK (tl := fun j => decide (n ≤ j)) ?_
  have := DL_hoistP (P := P) (ops := ops) (blK := blK) (tl := fun j => decide (n ≤ j)) (K := K .normal) fuel is (Array.replicate ops.size false) σ
    (fun i hi => by have := List.all_eq_true.1 hn.2 i hi; simp at this ⊢; exact this) (fun k _ => by
      rw [Array.getD_eq_getD_getElem?, Array.getElem?_replicate]; split <;> rfl) (fun i hi => by
      have h5 := List.all_eq_true.1 hn.1.2 i hi
      rw [Bool.or_eq_true] at h5
      rcases h5 with h5 | h5
      · refine .inl ?_
        split at h5
        · rename_i o ho; exact ⟨o, ho, h5⟩
        · cases h5
      · exact .inr (tailB_spec h5 i (by simp))) hn.1.1.2 hs (Hoist_is _ is σ (filter_some is hn.1.1.1.2) h)
  rw [← hn.1.1.1.1] at this
  exact this
end
end Go.Proofs.YtmbcofnnibpbeaaGreat.Vm

namespace Go.Proofs.YtmbcofnnibpbeaaGreat.Vm
open Go Go.Proofs
set_option linter.unusedSimpArgs false
set_option linter.unusedVariables false

/-- Rows in blocks of the call's own. -/
structure GridAt (b : Int → Option Blk) (g0 : Int) (ids : List Int) (r c : Nat) (M : MF) : Prop where
  len : ids.length = r
  top : b g0 = some ⟨1, ids.map fun g => [.lsl g 1 0 c]⟩
  row : ∀ (i : Nat) (g : Int), ids[i]? = some g → b g = some ⟨1, fvs (rowOf c M i)⟩
  pos : ∀ g, g ∈ ids → 0 ≤ g
  inj : ∀ (i j : Nat) (g : Int), ids[i]? = some g → ids[j]? = some g → i = j
  no0 : g0 ∉ ids
theorem rowOf_congr {c : Nat} {M M' : MF} {i : Nat} (h : ∀ j, j < c → M i j = M' i j) : rowOf c M i = rowOf c M' i := by
  unfold rowOf
  exact List.map_congr_left fun j hj => h j (by simpa using hj)
theorem rowOf_set {c i j : Nat} (M : MF) (hj : j < c) (v : Option Rat) : (rowOf c M i).set j v = rowOf c (updM M i j v) i := by
  apply List.ext_getElem
  · simp
  · intro t h1 h2
    simp only [List.getElem_set, rowOf_getE, updM]
    by_cases h : j = t
    · subst h; simp
    · rw [if_neg h, if_neg (fun e => h e.2.symm)]
theorem fvr_set {c i j : Nat} (M : MF) (hj : j < c) (v : Option Rat) : (fvs (rowOf c M i)).set j [fv v] = fvs (rowOf c (updM M i j v) i) := by rw [fvs_set, rowOf_set M hj]
theorem GridAt.congr {b : Int → Option Blk} {g0 : Int} {ids : List Int} {r c : Nat} {M M' : MF} (h : GridAt b g0 ids r c M) (hM : ∀ i j, i < r → j < c → M i j = M' i j) : GridAt b g0 ids r c M' :=
  ⟨h.len, h.top, fun i g hi => by
    rw [h.row i g hi, rowOf_congr fun j hj => hM i j (by rw [← h.len]; exact (List.getElem?_eq_some_iff.1 hi).1) hj], h.pos, h.inj, h.no0⟩
theorem GridAt.put {b : Int → Option Blk} {g0 g : Int} {ids : List Int} {r c i : Nat} {M M' : MF} (h : GridAt b g0 ids r c M) (hi : ids[i]? = some g) (hM : ∀ a j, a ≠ i → j < c → M a j = M' a j) : GridAt (upd b g (some ⟨1, fvs (rowOf c M' i)⟩)) g0 ids r c M' := by
  have hm := List.mem_of_getElem? hi
  refine ⟨h.len, ?_, fun k g' hk => ?_, h.pos, h.inj, h.no0⟩
  · rw [upd_ne _ _ _ _ (fun e => h.no0 (by rw [e]; exact hm))]; exact h.top
  · by_cases e : k = i
    · subst e
      rw [hi] at hk; cases hk
      rw [upd_same]
    · have hne : g' ≠ g := fun e2 => e (h.inj k i g (by rw [hk, e2]) hi)
      rw [upd_ne _ _ _ _ hne, h.row k g' hk, rowOf_congr fun j hj => hM k j e hj]
theorem GridAt.keep {b b' : Int → Option Blk} {g0 : Int} {ids : List Int} {r c : Nat} {M : MF} (h : GridAt b g0 ids r c M) (hk : ∀ x y, x = g0 ∨ x ∈ ids → b x = some y → b' x = some y) : GridAt b' g0 ids r c M :=
  ⟨h.len, hk _ _ (.inl rfl) h.top, fun i g hi => hk _ _ (.inr (List.mem_of_getElem? hi)) (h.row i g hi), h.pos, h.inj, h.no0⟩
def swapI (ids : List Int) (i n : Nat) (gi gn : Int) : List Int := (ids.set i gn).set n gi
theorem swapI_get {ids : List Int} {i n : Nat} {gi gn : Int} (hi : ids[i]? = some gi) (hn : ids[n]? = some gn) (k : Nat) : (swapI ids i n gi gn)[k]? = if k = n then some gi else if k = i then some gn else ids[k]? := by
  have h1 := (List.getElem?_eq_some_iff.1 hi).1
  have h2 := (List.getElem?_eq_some_iff.1 hn).1
  unfold swapI
  rw [List.getElem?_set, List.getElem?_set]
  by_cases e : n = k
  · subst e; simp [h2]
  · rw [if_neg e, if_neg (Ne.symm e)]
    by_cases e2 : i = k
    · subst e2; simp [h1]
    · rw [if_neg e2, if_neg (Ne.symm e2)]
theorem swapI_mem {ids : List Int} {i n : Nat} {gi gn : Int} (hi : ids[i]? = some gi) (hn : ids[n]? = some gn) {x : Int} (h : x ∈ swapI ids i n gi gn) : x ∈ ids := by
  obtain ⟨k, hk⟩ := List.mem_iff_getElem?.1 h
  rw [swapI_get hi hn] at hk
  split at hk
  · cases hk; exact List.mem_of_getElem? hi
  · split at hk
    · cases hk; exact List.mem_of_getElem? hn
    · exact List.mem_of_getElem? hk
theorem swapI_mem' {ids : List Int} {i n : Nat} {gi gn : Int} (hi : ids[i]? = some gi) (hn : ids[n]? = some gn) {x : Int} (h : x ∈ ids) : x ∈ swapI ids i n gi gn := by
  obtain ⟨k, hk⟩ := List.mem_iff_getElem?.1 h
  by_cases e : k = n
  · rw [e, hn] at hk; cases hk
    by_cases e2 : i = n
    · subst e2; rw [hi] at hn; cases hn
      exact List.mem_of_getElem? (i := i) (by rw [swapI_get hi hi, if_pos rfl])
    · exact List.mem_of_getElem? (i := i) (by rw [swapI_get hi hn, if_neg e2, if_pos rfl])
  · by_cases e2 : k = i
    · rw [e2, hi] at hk; cases hk
      exact List.mem_of_getElem? (i := n) (by rw [swapI_get hi hn, if_pos rfl])
    · exact List.mem_of_getElem? (i := k) (by rw [swapI_get hi hn, if_neg e, if_neg e2]; exact hk)
theorem GridAt.swap {b : Int → Option Blk} {g0 gi gn : Int} {ids : List Int} {r c i n : Nat} {M : MF} (h : GridAt b g0 ids r c M) (hi : ids[i]? = some gi) (hn : ids[n]? = some gn) : GridAt (upd b g0 (some ⟨1, (swapI ids i n gi gn).map fun g => [.lsl g 1 0 c]⟩)) g0 (swapI ids i n gi gn) r c (swapM M i n) := by
  refine ⟨by simp [swapI, h.len], by rw [upd_same], fun k g hk => ?_, fun g hg => h.pos g (swapI_mem hi hn hg), fun k j g hk hj => ?_, fun hm => h.no0 (swapI_mem hi hn hm)⟩
  · have hg : g ≠ g0 := fun e => h.no0 (swapI_mem hi hn (e ▸ List.mem_of_getElem? hk))
    rw [upd_ne _ _ _ _ hg]
    rw [swapI_get hi hn] at hk
    by_cases e : k = n
    · subst e
      rw [if_pos rfl] at hk; cases hk
      rw [h.row i _ hi]
      congr 2
      unfold rowOf swapM
      congr 1
      apply List.map_congr_left
      intro j _
      by_cases e2 : k = i
      · rw [if_pos e2, e2]
      · rw [if_neg e2, if_pos rfl]
    · rw [if_neg e] at hk
      by_cases e2 : k = i
      · subst e2
        rw [if_pos rfl] at hk; cases hk
        rw [h.row n _ hn]
        congr 2
        unfold rowOf swapM
        congr 1
        apply List.map_congr_left
        intro j _
        rw [if_pos rfl]
      · rw [if_neg e2] at hk
        rw [h.row k g hk]
        congr 2
        unfold rowOf swapM
        congr 1
        apply List.map_congr_left
        intro j _
        rw [if_neg e2, if_neg e]
  · rw [swapI_get hi hn] at hk hj
    have key : ∀ a b', (if a = n then some gi else if a = i then some gn else ids[a]?) = some g → (if b' = n then some gi else if b' = i then some gn else ids[b']?) = some g → a = b' := by
      intro a b' ha hb
      split at ha <;> split at hb
      · omega
      · rename_i e1 e2
        cases ha
        split at hb
        · rename_i e3; cases hb
          have := h.inj i n _ hi hn; omega
        · rename_i e3
          exact absurd (h.inj b' i _ hb hi) e3
      · rename_i e1 e2
        cases hb
        split at ha
        · rename_i e3; cases ha
          have := h.inj i n _ hi hn; omega
        · rename_i e3
          exact absurd (h.inj a i _ ha hi) e3
      · rename_i e1 e2
        split at ha <;> split at hb
        · omega
        · cases ha; exact absurd (h.inj b' n _ hb hn) e2
        · cases hb; exact absurd (h.inj a n _ ha hn) e1
        · exact h.inj a b' _ ha hb
    exact key k j hk hj
/-- The state of an elimination: the struct, its rows, its pivots. -/
structure RedAt (b : Int → Option Blk) (gr g0 gp : Int) (ids : List Int) (r c : Nat) (s : RS) (d : Option Rat) : Prop where
  grid : GridAt b g0 ids r c s.M
  hd : b gr = some ⟨5, [[.int .i64 r, .int .i64 c, .lsl g0 1 0 r, .lsl gp 1 0 s.P.length, fv d]]⟩
  pv : b gp = some ⟨1, iv (pz s.P)⟩
  pn : gp < 0 → s.P = []
  dq : okQ d
  g00 : 0 ≤ g0
  d1 : gr ≠ g0
  d2 : gr ∉ ids
  d3 : gp ≠ gr
  d4 : gp ≠ g0
  d5 : gp ∉ ids
/-- What isn't part of it is as it was. -/
def Fr (bl b : Int → Option Blk) (gr g0 : Int) (ids : List Int) : Prop := ∀ x y, bl x = some y → x ≠ gr → x ≠ g0 → x ∉ ids → b x = some y
theorem SignF_ro (x : Option Rat) (h : x.isSome = true) : RO Tryz.prog 77 [fv x] (.int .i64 (sgq x)) := by
  cases x with
  | none => cases h
  | some q => exact Sign_ro q
theorem sgq_nm (x : Option Rat) : sgq x = 0 ↔ nm x = 0 := by
  cases x with
  | none => simp [sgq, nm]
  | some q => show q.num.sign = 0 ↔ q.num = 0; exact Int.sign_eq_zero_iff_zero
/-- Multiples taken away up to a place. -/
def curI (M : MF) (n k i j : Nat) : MF := fun a b => if a < i ∨ a = i ∧ b < j then clrM M n k a b else M a b
theorem clrM_n (M : MF) (n k b : Nat) : clrM M n k n b = M n b := by unfold clrM; rw [if_pos (.inl rfl)]
theorem curI_at (M : MF) (n k i j b : Nat) (h : j ≤ b) : curI M n k i j i b = M i b := by unfold curI; rw [if_neg (by omega)]
theorem curI_n (M : MF) (n k i j b : Nat) : curI M n k i j n b = M n b := by unfold curI; split <;> simp [clrM_n]
theorem curI_end (M : MF) (n k i c a b : Nat) (hb : b < c) : curI M n k i c a b = curI M n k (i + 1) 0 a b := by
  unfold curI
  by_cases h : a < i ∨ a = i ∧ b < c
  · rw [if_pos h, if_pos (by omega)]
  · rw [if_neg h, if_neg (by omega)]
theorem curI_skip (M : MF) (n k i a b : Nat) (h : i = n ∨ nm (M i k) = 0) : curI M n k i 0 a b = curI M n k (i + 1) 0 a b := by
  unfold curI
  by_cases h1 : a < i
  · rw [if_pos (.inl h1), if_pos (by omega)]
  · rw [if_neg (by omega)]
    by_cases h2 : a = i
    · subst h2
      rw [if_pos (by omega)]
      unfold clrM
      rw [if_pos h]
    · rw [if_neg (by omega)]
theorem curI_do (M : MF) (n k i j a b : Nat) (h1 : i ≠ n) (h2 : nm (M i k) ≠ 0) : updM (curI M n k i j) i j (op2 (· - ·) (M i j) (op2 (· * ·) (M i k) (M n j))) a b = curI M n k i (j + 1) a b := by
  unfold updM
  by_cases h5 : a = i ∧ b = j
  · rw [if_pos h5]
    obtain ⟨rfl, rfl⟩ := h5
    unfold curI
    rw [if_pos (by omega)]
    unfold clrM
    rw [if_neg]
    rintro (h | h)
    · exact h1 h
    · exact h2 h
  · rw [if_neg h5]
    unfold curI
    by_cases h6 : a < i ∨ a = i ∧ b < j
    · rw [if_pos h6, if_pos (by omega)]
    · rw [if_neg h6, if_neg (by omega)]
theorem curI_all (M : MF) (n k r a b : Nat) (h : a < r) : curI M n k r 0 a b = clrM M n k a b := by unfold curI; rw [if_pos (.inl h)]
theorem curI_zero (M : MF) (n k : Nat) : curI M n k 0 0 = M := by funext a b; unfold curI; rw [if_neg (by omega)]
end Go.Proofs.YtmbcofnnibpbeaaGreat.Vm

namespace Go.Proofs.YtmbcofnnibpbeaaGreat.Vm
open Go Go.Proofs
set_option linter.unusedSimpArgs false
set_option linter.unusedVariables false

structure MidC where
  ids : List Int
  d : Option Rat
  b : Int → Option Blk
structure LoopC where
  j : Nat
  b : Int → Option Blk
theorem column_cp {bl : Int → Option Blk} {K : V → (Int → Option Blk) → Prop} (r c k : Nat) (s : RS) (gr g0 gp : Int) (ids : List Int) (d : Option Rat) (hr : r ≤ 24) (hc : c ≤ 24) (hk : k < c) (hPr : s.P.length < r) (h : RedAt bl gr g0 gp ids r c s d) (hri : RI r c k s)
    (hT : ∀ s' ids' gp' d' b', redStep r c k s = some s' → RedAt b' gr g0 gp' ids' r c s' d' → (∀ x, x ∈ ids' ↔ x ∈ ids) → (gp' = gp ∨ bl gp' = none) → (∀ x y, bl x = some y → x ≠ gr → x ≠ g0 → x ≠ gp → x ∉ ids → b' x = some y) → K (.bool true) b')
    (hF : ∀ b', redStep r c k s = none → (∀ x y, bl x = some y → x ≠ gr → x ≠ g0 → x ≠ gp → x ∉ ids → b' x = some y) → K (.bool false) b') :
    CallP Tryz.prog 155 [.loc gr 5 0 0, .int .i64 k] bl K := by
  obtain ⟨n, hn⟩ : ∃ n, n = s.P.length := ⟨_, rfl⟩
  have hnr : n < r := by omega
  have hgr := h.hd
  have htop := h.grid.top
  have hgl := h.grid.len
  have n1 : ¬ gr = g0 := h.d1
  have hat : ∀ i, i < r → ∃ gi, ids[i]? = some gi := fun i hi => ⟨ids[i]'(by omega), List.getElem?_eq_getElem _⟩
  obtain ⟨⟨pv1, pv2⟩, pv3, pv4⟩ := pivAt_spec s.M r k _ s.P.length rfl hri.le
  refine callP_of Tryz.func155 rfl rfl (by rw [Tryz.ntmps155]; simp) ?_
  rw [Tryz.ntmps155, Tryz.results155]
  refine AW_runA ?_
  simp
  refine AW_runA ?_
  simp [hgr]
  refine AW_runA ?_
  simp [hgr]
  refine AW_runA ?_
  simp
  rw [← hn]
  refine AW_runA ?_
  simp
  refine AW_for (fun i : Nat => [(0, .loc gr 5 0 0), (1, .int .i64 k), (4, .bool false), (5, .lsl g0 1 0 r), (6, .int .i64 n), (7, .int .i64 i)]) (fun _ => bl) (fun i => n ≤ i ∧ i ≤ r ∧ pivAt s.M r k n = pivAt s.M r k i) (fun i => r - i) _ n ⟨Nat.le_refl _, by omega, rfl⟩ ⟨rfl, by simp, Sub.refl _⟩ ?_
  rintro i ⟨hni, hir, hpi⟩
  have wi : IntKind.i64.wrap ((i : Int) + 1) = (i : Int) + 1 := i64_in (by omega) (by omega)
  refine AW_run ?_
  simp
  by_cases hgo : i < r ∧ nm (s.M i k) = 0
  · obtain ⟨hi, h0⟩ := hgo
    obtain ⟨gi, hgi⟩ := hat i hi
    have hrow := h.grid.row i gi hgi
    refine AW_way0 [(0, .loc gr 5 0 0), (1, .int .i64 k), (4, .bool false), (5, .lsl g0 1 0 r), (6, .int .i64 n), (7, .int .i64 i)] _ bl 39 (.bool true) ⟨rfl, by simp, Sub.refl _⟩ rfl ?_ ?_
    · simp [hi, htop, hgi, hrow, hk]
      refine callP_ro (SignF_ro _ (okM_iff.1 hri.ok i k hi hk)) ?_
      simp [(sgq_nm _).2 h0]
    simp [wi, loopQ_normal]
    exact ⟨i + 1, ⟨by omega, by omega, by rw [hpi, pivAt_zero _ hi h0]⟩, by omega, rfl, by simp, Sub.refl _⟩
  have hpiv : pivAt s.M r k n = i := by
    rw [hpi]
    by_cases hi : i < r
    · exact pivAt_hit _ hi (fun h => hgo ⟨hi, h⟩)
    · rw [pivAt_ge _ _ _ _ (by omega)]; omega
  refine AW_way0 [(0, .loc gr 5 0 0), (1, .int .i64 k), (4, .bool false), (5, .lsl g0 1 0 r), (6, .int .i64 n), (7, .int .i64 i)] _ bl 39 (.bool false) ⟨rfl, by simp, Sub.refl _⟩ rfl ?_ ?_
  · simp
    intro hi
    obtain ⟨gi, hgi⟩ := hat i hi
    have hrow := h.grid.row i gi hgi
    have h0 : ¬ sgq (s.M i k) = 0 := fun e => hgo ⟨hi, (sgq_nm _).1 e⟩
    simp [hi, htop, hgi, hrow, hk]
    refine callP_ro (SignF_ro _ (okM_iff.1 hri.ok i k hi hk)) ?_
    simp [h0]
  simp
  refine AW_runA ?_
  simp
  by_cases hir2 : i = r
  · have e : redStep r c k s = some s := by unfold redStep; rw [if_pos hPr, ← hn, hpiv, if_pos hir2]
    refine ⟨fun _ => ?_, fun h => absurd (by omega) h⟩
    rw [retK_ret]
    exact ⟨[.bool true], by simp, hT s ids gp d bl e h (fun _ => Iff.rfl) (.inl rfl) (fun _ _ hx _ _ _ _ => hx)⟩
  refine ⟨fun h => absurd h (by omega), fun _ => ?_⟩
  have hi : i < r := by omega
  have h4 : nm (s.M i k) ≠ 0 := fun h => hgo ⟨hi, h⟩
  have hst : redStep r c k s = if okM r c (stepM s.M n k i) = true then some ⟨stepM s.M n k i, s.P ++ [k]⟩ else none := by
    unfold redStep
    rw [if_pos hPr, ← hn, hpiv, if_neg hir2]
  have hz : Zs r c n k s.M := by rw [hn]; exact hri.zero
  obtain ⟨gi, hgi⟩ := hat i hi
  obtain ⟨gn, hgn⟩ := hat n hnr
  refine AW_mid (fun _ : MidC => [(0, .loc gr 5 0 0), (1, .int .i64 k), (4, .bool false), (5, .lsl g0 1 0 r), (6, .int .i64 n)]) (fun p => p.b) (fun p => RedAt p.b gr g0 gp p.ids r c ⟨swapM s.M i n, s.P⟩ p.d ∧ (∀ x, x ∈ p.ids ↔ x ∈ ids) ∧ Fr bl p.b gr g0 ids) 177 ?_ ?_
  · refine AW_run ?_
    simp
    refine ⟨fun hin => ?_, fun hin => ?_⟩
    · have hsw : ((ids.map fun g => [V.lsl g 1 0 c]).set i [.lsl gn 1 0 c]).set n [.lsl gi 1 0 c] = (swapI ids i n gi gn).map fun g => [.lsl g 1 0 c] := by simp [swapI, List.map_set]
      have hNg := neg_ro d
      refine AW_mixedP mixedO _ (Sub.refl _) [0, 1, 2, 3, 4, 5, 6, 7, 8, 9, 10, 11, 12] 3 13 (by kernel_rfl) ?_
      simp [hi, hnr, htop, hgi, hgn]
      refine DL_one (i := 13) true (by kernel_rfl) rfl rfl (by kernel_rfl) ?_
      simp [htop, hgi]
      refine DL_one (i := 14) true (by kernel_rfl) rfl rfl (by kernel_rfl) ?_
      simp [hnr]
      refine DL_one (i := 15) true (by kernel_rfl) rfl rfl (by kernel_rfl) ?_
      have hin' : i ≠ n := by omega
      have hx1 : ((ids.map fun g => [V.lsl g 1 0 c]).set i [.lsl gn 1 0 c])[n]? = some [.lsl gn 1 0 c] := by rw [List.getElem?_set_ne hin']; simp [hgn]
      simp [htop, hgn, hx1]
      refine DL_done (by kernel_rfl) ?_
      simp [hsw, n1, Ne.symm n1, hgr]
      refine callP_ro hNg ?_
      simp [n1, Ne.symm n1, hgr, midQ_normal]
      have hgs := h.grid.swap hgi hgn
      refine ⟨⟨swapI ids i n gi gn, d.map (- ·), upd (upd bl g0 (some ⟨1, (swapI ids i n gi gn).map fun g => [.lsl g 1 0 c]⟩)) gr (some ⟨5, [[.int .i64 r, .int .i64 c, .lsl g0 1 0 r, .lsl gp 1 0 s.P.length, fv (d.map (- ·))]]⟩)⟩, ⟨?_, fun x => ⟨swapI_mem hgi hgn, swapI_mem' hgi hgn⟩, ?_⟩, rfl, by simp, ?_⟩
      · have hmm : ∀ x, x ∈ swapI ids i n gi gn → x ∈ ids := fun x hx => swapI_mem hgi hgn hx
        refine ⟨hgs.keep fun x y hx hy => ?_, by simp, ?_, h.pn, okQ_neg h.dq, h.g00, h.d1, fun hm => h.d2 (hmm _ hm), h.d3, h.d4, fun hm => h.d5 (hmm _ hm)⟩
        · have : x ≠ gr := fun e => by
            rcases hx with hx | hx
            · exact h.d1 (by rw [← e, hx])
            · exact h.d2 (hmm _ (by rw [← e]; exact hx))
          simp only; rw [upd_ne _ _ _ _ this]; exact hy
        · simp [h.d3, h.d4, h.pv]
      · intro x y hx x1 x2 x3
        simp [x1, x2, hx]
      · intro x y hx
        simp only [upd_apply, hsw] at hx ⊢
        grind
    · have hin' : i = n := by omega
      subst hin'
      simp [midQ_normal]
      exact ⟨⟨ids, d, bl⟩, ⟨by simp only; rw [swapM_self]; exact h, fun _ => Iff.rfl, fun _ _ hx _ _ _ => hx⟩, rfl, by simp, Sub.refl _⟩
  rintro ⟨ids2, d2, b2⟩ ⟨h2, hm2, hf2⟩
  simp only at h2 hm2 hf2
  obtain ⟨S, hS⟩ : ∃ S, S = swapM s.M i n := ⟨_, rfl⟩
  obtain ⟨p, hp⟩ : ∃ p, p = S n k := ⟨_, rfl⟩
  have hSf : ∀ a b, okQ (S a b) := by rw [hS]; exact swapM_fit hri.fit i n
  have hSo : okM r c S = true := by rw [hS]; exact swap_ok hri.ok hi hnr
  have hpv : nm p ≠ 0 := by
    rw [hp, hS]
    unfold swapM
    by_cases e : n = i
    · rw [if_pos e, e]; exact h4
    · rw [if_neg e, if_pos rfl]; exact h4
  have hpf : okQ p := by rw [hp]; exact hSf n k
  rw [← hS] at h2
  have hl2 := h2.grid.len
  have hat2 : ∀ i, i < r → ∃ gi, ids2[i]? = some gi := fun i hi => ⟨ids2[i]'(by omega), List.getElem?_eq_getElem _⟩
  obtain ⟨qn, hqn⟩ := hat2 n hnr
  have hqm := List.mem_of_getElem? hqn
  have t2 := h2.grid.top
  have r2 := h2.grid.row n qn hqn
  have g2 := h2.hd
  have nq0 : ¬ qn = g0 := fun e => h2.grid.no0 (by rw [← e]; exact hqm)
  have nqr : ¬ qn = gr := fun e => h2.d2 (by rw [← e]; exact hqm)
  have hM := mul_ro d2 p h2.dq hpf
  refine AW_runA ?_
  simp [hnr, t2, hqn, r2, hk]
  rw [← hp]
  refine AW_runA ?_
  simp [g2]
  refine callP_ro hM ?_
  simp [g2]
  have hdq := okQ_op2 (· * ·) d2 p
  generalize op2 (· * ·) d2 p = d3 at hdq
  have h3 : RedAt (upd b2 gr (some ⟨5, [[.int .i64 r, .int .i64 c, .lsl g0 1 0 r, .lsl gp 1 0 s.P.length, fv d3]]⟩)) gr g0 gp ids2 r c ⟨S, s.P⟩ d3 := by
    refine ⟨h2.grid.keep fun x y hx hy => ?_, by simp, ?_, h2.pn, hdq, h2.g00, h2.d1, h2.d2, h2.d3, h2.d4, h2.d5⟩
    · have : x ≠ gr := fun e => by
        rcases hx with hx | hx
        · exact h2.d1 (by rw [← e, hx])
        · exact h2.d2 (by rw [← e]; exact hx)
      rw [upd_ne _ _ _ _ this]; exact hy
    · rw [upd_ne _ _ _ _ h2.d3]; exact h2.pv
  have hf3 : Fr bl (upd b2 gr (some ⟨5, [[.int .i64 r, .int .i64 c, .lsl g0 1 0 r, .lsl gp 1 0 s.P.length, fv d3]]⟩)) gr g0 ids := fun x y hx x1 x2 x3 => by rw [upd_ne _ _ _ _ x1]; exact hf2 x y hx x1 x2 x3
  generalize upd b2 gr (some ⟨5, [[.int .i64 r, .int .i64 c, .lsl g0 1 0 r, .lsl gp 1 0 s.P.length, fv d3]]⟩) = b3 at h3 hf3
  have t3 := h3.grid.top
  have r3 := h3.grid.row n qn hqn
  have hst2 : okM r c (stepM s.M n k i) = okM r c (clrM (divM S n p) n k) := by rw [hp, hS]; rfl
  have hno : ∀ j, j < c → op2 (· / ·) (S n j) p = none → redStep r c k s = none := fun j hj hy => by
    rw [hst, hst2]
    have : okM r c (clrM (divM S n p) n k) = false := by
      rw [Bool.eq_false_iff]
      intro hh
      have := okM_iff.1 hh n j hnr hj
      rw [clrM_n] at this
      unfold divM at this
      rw [if_pos rfl, hy] at this
      cases this
    rw [this]; rfl
  have hfr : ∀ b', Fr bl b' gr g0 ids → ∀ x y, bl x = some y → x ≠ gr → x ≠ g0 → x ≠ gp → x ∉ ids → b' x = some y := fun b' hb x y hx x1 x2 _ x3 => hb x y hx x1 x2 x3
  refine AW_at [(0, .loc gr 5 0 0), (1, .int .i64 k), (4, .bool false), (5, .lsl g0 1 0 r), (6, .int .i64 n), (8, fv p)] 177 b3 ⟨rfl, by simp, Sub.refl _⟩ ?_
  refine AW_runA ?_
  simp [hnr, t3, hqn, r3]
  refine AW_for (fun p' : LoopC => [(0, .loc gr 5 0 0), (1, .int .i64 k), (4, .bool false), (5, .lsl g0 1 0 r), (6, .int .i64 n), (8, fv p), (91, .int .i64 c), (92, .int .i64 p'.j)]) (fun p' => p'.b) (fun p' => p'.j ≤ c ∧ RedAt p'.b gr g0 gp ids2 r c ⟨dvTo S n 0 p'.j p, s.P⟩ d3 ∧ Fr bl p'.b gr g0 ids ∧ (∀ b, b < p'.j → (op2 (· / ·) (S n b) p).isSome = true)) (fun p' => c - p'.j) _ ⟨0, b3⟩ ⟨Nat.zero_le _, by simp only; rw [dvTo_start]; exact h3, hf3, fun b hb => absurd hb (Nat.not_lt_zero _)⟩ ⟨rfl, by simp, Sub.refl _⟩ ?_
  clear h3 hf3 t3 r3 h2 hf2 t2 r2 g2
  rintro ⟨j, b⟩ ⟨hj, hR, hf, hall⟩
  simp only at hj hR hf hall
  have wj : IntKind.i64.wrap ((j : Int) + 1) = (j : Int) + 1 := i64_in (by omega) (by omega)
  have t3 := hR.grid.top
  have r3 := hR.grid.row n qn hqn
  refine AW_runA ?_
  simp
  refine AW_runA ?_
  simp
  refine ⟨fun hjc => ?_, fun hjc => ?_⟩
  · have hset : (fvs (rowOf c (dvTo S n 0 j p) n)).set j [fv (op2 (· / ·) (S n j) p)] = fvs (rowOf c (dvTo S n 0 (j + 1) p) n) := by
      rw [fvr_set _ hjc]
      exact congrArg fvs (rowOf_congr fun b hb => dvTo_step S n 0 j n b p (Nat.zero_le _))
    have hat3 : dvTo S n 0 j p n j = S n j := dvTo_at S n 0 j p
    have hD := div_ro (S n j) p (hSf n j) hpf hpv
    have hGp := hR.grid.put (M' := dvTo S n 0 (j + 1) p) hqn (fun a b' ha _ => by
      show dvTo S n 0 j p a b' = dvTo S n 0 (j + 1) p a b'
      unfold dvTo; rw [if_neg (fun e => ha e.1), if_neg (fun e => ha e.1)])
    have hnone := hno j hjc
    have hall2 : (op2 (· / ·) (S n j) p).isSome = true → ∀ b, b < j + 1 → (op2 (· / ·) (S n b) p).isSome = true := fun h9 b hb => by
      by_cases e : b = j
      · rw [e]; exact h9
      · exact hall b (by omega)
    obtain ⟨y, hy⟩ : ∃ y, y = op2 (· / ·) (S n j) p := ⟨_, rfl⟩
    rw [← hy] at hset hD hnone hall2
    refine AW_runA ?_
    simp
    refine AW_mixedT mixedO [0, 1, 2, 3, 4, 5, 6, 7, 8, 9, 10, 11, 12, 13, 14] 1 15 (by kernel_rfl) ?_
    simp [hnr, t3, hqn, r3, hjc, hat3]
    refine hcQ_ro hD ?_
    simp [hnr, t3, hqn, r3, hjc, hat3]
    refine DAny_last (i := 15) (by kernel_rfl) rfl rfl rfl ?_
    simp [hnr, t3, hqn, r3, hjc, hat3, hset]
    refine DAny_done (by kernel_rfl) ?_
    have e7 : dvTo S n 0 (j + 1) p n j = y := by rw [hy]; unfold dvTo; rw [if_pos ⟨rfl, by omega, by omega⟩]
    have hR2 : RedAt (upd b qn (some ⟨1, fvs (rowOf c (dvTo S n 0 (j + 1) p) n)⟩)) gr g0 gp ids2 r c ⟨dvTo S n 0 (j + 1) p, s.P⟩ d3 :=
      ⟨hGp, by rw [upd_ne _ _ _ _ (Ne.symm nqr)]; exact hR.hd, by rw [upd_ne _ _ _ _ (fun e => hR.d5 (by rw [e]; exact hqm))]; exact hR.pv, hR.pn, hR.dq, hR.g00, hR.d1, hR.d2, hR.d3, hR.d4, hR.d5⟩
    have hf2 : Fr bl (upd b qn (some ⟨1, fvs (rowOf c (dvTo S n 0 (j + 1) p) n)⟩)) gr g0 ids := fun x z hx x1 x2 x3 => by
      rw [upd_ne _ _ _ _ (fun e => x3 (by rw [e]; exact (hm2 qn).1 hqm))]; exact hf x z hx x1 x2 x3
    cases y with
    | none =>
      simp [hnr, t3, hqn, nq0, Ne.symm nq0, hjc, e7, show fv none = V.nilp from rfl]
      rw [retK_ret]
      exact ⟨[.bool false], by simp, hF _ (hnone rfl) (hfr _ hf2)⟩
    | some q =>
      simp [hnr, t3, hqn, nq0, Ne.symm nq0, hjc, e7, show fv (some q) = V.ptr (rq q).c from rfl]
      refine AW_run ?_
      simp [wj, loopQ_normal]
      exact ⟨⟨j + 1, upd b qn (some ⟨1, fvs (rowOf c (dvTo S n 0 (j + 1) p) n)⟩)⟩, ⟨by simp only; omega, hR2, hf2, hall2 rfl⟩, by simp only; omega, rfl, by simp, Sub.refl _⟩
  have hj2 : j = c := by omega
  subst hj2
  obtain ⟨D, hD⟩ : ∃ D, D = divM S n p := ⟨_, rfl⟩
  have hDf : ∀ a b, okQ (D a b) := by rw [hD]; exact divM_fit hSf n p
  have hDn : ∀ b, b < j → (D n b).isSome = true := fun b hb => by rw [hD]; unfold divM; rw [if_pos rfl]; exact hall b hb
  have hDo : ∀ a b, a < r → b < j → (D a b).isSome = true := fun a b ha hb => by
    by_cases e : a = n
    · rw [e]; exact hDn b hb
    · rw [hD]; unfold divM; rw [if_neg e]; exact okM_iff.1 hSo a b ha hb
  have hRD : RedAt b gr g0 gp ids2 r j ⟨curI D n k 0 0, s.P⟩ d3 := by
    refine ⟨hR.grid.congr fun a b' ha hb' => ?_, hR.hd, hR.pv, hR.pn, hR.dq, hR.g00, hR.d1, hR.d2, hR.d3, hR.d4, hR.d5⟩
    show dvTo S n 0 j p a b' = curI D n k 0 0 a b'
    rw [curI_zero, hD]
    unfold dvTo divM
    by_cases e : a = n
    · rw [if_pos ⟨e, Nat.zero_le _, hb'⟩, if_pos e]
    · rw [if_neg (fun h => e h.1), if_neg e]
  have hno2 : ∀ a b, a < r → b < j → clrM D n k a b = none → redStep r j k s = none := fun a b ha hb hy => by
    rw [hst, hst2, ← hD]
    have : okM r j (clrM D n k) = false := by
      rw [Bool.eq_false_iff]
      intro hh
      have := okM_iff.1 hh a b ha hb
      rw [hy] at this; cases this
    rw [this]; rfl
  clear hno hall hR t3 r3
  refine AW_at [(0, .loc gr 5 0 0), (1, .int .i64 k), (4, .bool false), (5, .lsl g0 1 0 r), (6, .int .i64 n)] 177 b ⟨rfl, by simp, Sub.refl _⟩ ?_
  refine AW_runA ?_
  simp
  refine AW_for (fun p' : LoopC => [(0, .loc gr 5 0 0), (1, .int .i64 k), (4, .bool false), (5, .lsl g0 1 0 r), (6, .int .i64 n), (119, .lsl g0 1 0 r), (120, .int .i64 r), (121, .int .i64 p'.j)]) (fun p' => p'.b) (fun p' => p'.j ≤ r ∧ RedAt p'.b gr g0 gp ids2 r j ⟨curI D n k p'.j 0, s.P⟩ d3 ∧ Fr bl p'.b gr g0 ids ∧ (∀ a b, a < p'.j → b < j → (clrM D n k a b).isSome = true)) (fun p' => r - p'.j) _ ⟨0, b⟩ ⟨Nat.zero_le _, hRD, hf, fun a b ha => absurd ha (Nat.not_lt_zero _)⟩ ⟨rfl, by simp, Sub.refl _⟩ ?_
  clear hRD hf
  rintro ⟨t, b⟩ ⟨ht, hR, hf, hall⟩
  simp only at ht hR hf hall
  have wt : IntKind.i64.wrap ((t : Int) + 1) = (t : Int) + 1 := i64_in (by omega) (by omega)
  have t3 := hR.grid.top
  refine AW_runA ?_
  simp
  refine AW_runA ?_
  simp
  refine ⟨fun htr => ?_, fun htr => ?_⟩
  · obtain ⟨qt, hqt⟩ := hat2 t htr
    have hqtm := List.mem_of_getElem? hqt
    have rt := hR.grid.row t qt hqt
    have nt0 : ¬ qt = g0 := fun e => hR.grid.no0 (by rw [← e]; exact hqtm)
    have ntr : ¬ qt = gr := fun e => hR.d2 (by rw [← e]; exact hqtm)
    have ef : curI D n k t 0 t k = D t k := curI_at D n k t 0 k (Nat.zero_le _)
    refine AW_seq (AW_block ?_)
    refine AW_runA ?_
    simp [htr, t3, hqt]
    refine AW_runA ?_
    simp [rt, hk, ef]
    by_cases hz2 : t = n ∨ nm (D t k) = 0
    · refine AW_runA ?_
      simp
      refine AW_way0 [(0, .loc gr 5 0 0), (1, .int .i64 k), (4, .bool false), (5, .lsl g0 1 0 r), (6, .int .i64 n), (119, .lsl g0 1 0 r), (120, .int .i64 r), (121, .int .i64 t), (10, .int .i64 t), (11, .lsl qt 1 0 j), (12, fv (D t k))] _ b 137 (.bool true) ⟨rfl, by simp, Sub.refl _⟩ rfl ?_ ?_
      · simp
        intro h1
        refine callP_ro (SignF_ro _ (hDo t k htr hk)) ?_
        have h2 : nm (D t k) = 0 := hz2.resolve_left (by omega)
        simp [h1, (sgq_nm _).2 h2]
      simp
      refine AW_run ?_
      simp [wt, loopQ_normal]
      refine ⟨⟨t + 1, b⟩, ⟨by simp only; omega, ⟨hR.grid.congr fun a b' _ _ => curI_skip D n k t a b' hz2, hR.hd, hR.pv, hR.pn, hR.dq, hR.g00, hR.d1, hR.d2, hR.d3, hR.d4, hR.d5⟩, hf, fun a b' ha hb' => ?_⟩, by simp only; omega, rfl, by simp, Sub.refl _⟩
      by_cases e : a = t
      · subst e
        unfold clrM; rw [if_pos hz2]; exact hDo a b' htr hb'
      · exact hall a b' (by simp only at ha; omega) hb'
    have q1 : t ≠ n := fun e => hz2 (.inl e)
    have q2 : nm (D t k) ≠ 0 := fun e => hz2 (.inr e)
    have q1' : ¬ (t : Int) = n := by omega
    have q3 : ¬ sgq (D t k) = 0 := fun e => q2 ((sgq_nm _).1 e)
    refine AW_runA ?_
    simp
    refine AW_way0 [(0, .loc gr 5 0 0), (1, .int .i64 k), (4, .bool false), (5, .lsl g0 1 0 r), (6, .int .i64 n), (119, .lsl g0 1 0 r), (120, .int .i64 r), (121, .int .i64 t), (10, .int .i64 t), (11, .lsl qt 1 0 j), (12, fv (D t k))] _ b 137 (.bool false) ⟨rfl, by simp, Sub.refl _⟩ rfl ?_ ?_
    · simp [q1']
      refine callP_ro (SignF_ro _ (hDo t k htr hk)) ?_
      simp [q3]
    simp
    refine AW_run ?_
    simp
    refine AW_for (fun p' : LoopC => [(0, .loc gr 5 0 0), (1, .int .i64 k), (4, .bool false), (5, .lsl g0 1 0 r), (6, .int .i64 n), (119, .lsl g0 1 0 r), (120, .int .i64 r), (121, .int .i64 t), (10, .int .i64 t), (11, .lsl qt 1 0 j), (12, fv (D t k)), (139, .int .i64 j), (140, .int .i64 p'.j)]) (fun p' => p'.b) (fun p' => p'.j ≤ j ∧ RedAt p'.b gr g0 gp ids2 r j ⟨curI D n k t p'.j, s.P⟩ d3 ∧ Fr bl p'.b gr g0 ids ∧ (∀ b, b < p'.j → (clrM D n k t b).isSome = true)) (fun p' => j - p'.j) _ ⟨0, b⟩ ⟨Nat.zero_le _, hR, hf, fun a ha => absurd ha (Nat.not_lt_zero _)⟩ ⟨rfl, by simp, Sub.refl _⟩ ?_
    clear hR hf t3 rt
    rintro ⟨u, b⟩ ⟨hu, hR, hf, hallu⟩
    simp only at hu hR hf hallu
    have wu : IntKind.i64.wrap ((u : Int) + 1) = (u : Int) + 1 := i64_in (by omega) (by omega)
    have t3 := hR.grid.top
    have rt := hR.grid.row t qt hqt
    have rn := hR.grid.row n qn hqn
    refine AW_runA ?_
    simp
    refine AW_runA ?_
    simp
    refine ⟨fun huj => ?_, fun huj => ?_⟩
    · have hv : clrM D n k t u = op2 (· - ·) (D t u) (op2 (· * ·) (D t k) (D n u)) := by unfold clrM; rw [if_neg (by rintro (h | h); exact q1 h; exact q2 h)]
      have hset : (fvs (rowOf j (curI D n k t u) t)).set u [fv (op2 (· - ·) (D t u) (op2 (· * ·) (D t k) (D n u)))] = fvs (rowOf j (curI D n k t (u + 1)) t) := by
        rw [fvr_set _ huj]
        exact congrArg fvs (rowOf_congr fun b hb => curI_do D n k t u t b q1 q2)
      have hMu := mul_ro (D t k) (D n u) (hDf t k) (hDf n u)
      have hSu := sub_ro (D t u) (op2 (· * ·) (D t k) (D n u)) (hDf t u) (okQ_op2 _ _ _)
      have hGp := hR.grid.put (M' := curI D n k t (u + 1)) hqt (fun a b' ha _ => by
        show curI D n k t u a b' = curI D n k t (u + 1) a b'
        unfold curI
        by_cases h9 : a < t
        · rw [if_pos (.inl h9), if_pos (.inl h9)]
        · rw [if_neg (by omega), if_neg (by omega)])
      have e8 : curI D n k t u t u = D t u := curI_at D n k t u u (Nat.le_refl _)
      have e9 : curI D n k t u n u = D n u := curI_n D n k t u u
      obtain ⟨y, hy⟩ : ∃ y, y = op2 (· - ·) (D t u) (op2 (· * ·) (D t k) (D n u)) := ⟨_, rfl⟩
      rw [← hy] at hset hSu hv
      have hnone := hno2 t u htr huj
      rw [hv] at hnone
      refine AW_runA ?_
      simp
      refine AW_mixedT mixedO [0, 1, 2, 3, 4, 5, 6, 7, 8, 9, 10, 11, 12, 13, 14, 15, 16] 1 17 (by kernel_rfl) ?_
      simp [hnr, htr, t3, hqn, hqt, rn, rt, huj, e8, e9]
      refine hcQ_ro hMu ?_
      simp [hnr, htr, t3, hqn, hqt, rn, rt, huj, e8, e9]
      refine hcQ_ro hSu ?_
      simp [hnr, htr, t3, hqn, hqt, rn, rt, huj, e8, e9]
      refine DAny_last (i := 17) (by kernel_rfl) rfl rfl rfl ?_
      simp [hnr, htr, t3, hqn, hqt, rn, rt, huj, e8, e9, hset]
      refine DAny_done (by kernel_rfl) ?_
      have e7 : curI D n k t (u + 1) t u = y := by unfold curI; rw [if_pos (by omega)]; exact hv
      have hR2 : RedAt (upd b qt (some ⟨1, fvs (rowOf j (curI D n k t (u + 1)) t)⟩)) gr g0 gp ids2 r j ⟨curI D n k t (u + 1), s.P⟩ d3 :=
        ⟨hGp, by rw [upd_ne _ _ _ _ (Ne.symm ntr)]; exact hR.hd, by rw [upd_ne _ _ _ _ (fun e => hR.d5 (by rw [e]; exact hqtm))]; exact hR.pv, hR.pn, hR.dq, hR.g00, hR.d1, hR.d2, hR.d3, hR.d4, hR.d5⟩
      have hf2 : Fr bl (upd b qt (some ⟨1, fvs (rowOf j (curI D n k t (u + 1)) t)⟩)) gr g0 ids := fun x z hx x1 x2 x3 => by
        rw [upd_ne _ _ _ _ (fun e => x3 (by rw [e]; exact (hm2 qt).1 hqtm))]; exact hf x z hx x1 x2 x3
      cases y with
      | none =>
        simp [huj, e7, show fv none = V.nilp from rfl]
        rw [retK_ret]
        exact ⟨[.bool false], by simp, hF _ (hnone rfl) (hfr _ hf2)⟩
      | some q =>
        simp [huj, e7, show fv (some q) = V.ptr (rq q).c from rfl]
        refine AW_run ?_
        simp [wu, loopQ_normal]
        refine ⟨⟨u + 1, upd b qt (some ⟨1, fvs (rowOf j (curI D n k t (u + 1)) t)⟩)⟩, ⟨by simp only; omega, hR2, hf2, fun b' hb' => ?_⟩, by simp only; omega, rfl, by simp, Sub.refl _⟩
        by_cases e : b' = u
        · subst e; rw [hv]; rfl
        · exact hallu b' (by simp only at hb'; omega)
    have hu2 : u = j := by omega
    subst hu2
    simp
    refine AW_run ?_
    simp [wt, loopQ_normal]
    refine ⟨⟨t + 1, b⟩, ⟨by simp only; omega, ⟨hR.grid.congr fun a b' _ hb' => curI_end D n k t u a b' hb', hR.hd, hR.pv, hR.pn, hR.dq, hR.g00, hR.d1, hR.d2, hR.d3, hR.d4, hR.d5⟩, hf, fun a b' ha hb' => ?_⟩, by simp only; omega, rfl, by simp, Sub.refl _⟩
    by_cases e : a = t
    · subst e; exact hallu b' hb'
    · exact hall a b' (by simp only at ha; omega) hb'
  have ht2 : t = r := by omega
  subst ht2
  have hfin : redStep t j k s = some ⟨stepM s.M n k i, s.P ++ [k]⟩ := by
    rw [hst, hst2, ← hD]
    rw [if_pos (okM_iff.2 hall)]
  have hMe : ∀ a b', a < t → b' < j → curI D n k t 0 a b' = stepM s.M n k i a b' := fun a b' ha _ => by
    rw [curI_all D n k t a b' ha, hD, hp, hS]; rfl
  have hgp := hR.pv
  have hgr2 := hR.hd
  have htp : (iv (pz s.P)).take s.P.length = iv (pz s.P) := List.take_of_length_le (by simp)
  have e10 := pz_snoc s.P k
  have m1 : ¬ gp = gr := hR.d3
  refine AW_runA ?_
  simp [hgr2]
  intro gB hgB hbB
  have nBr : ¬ gB = gr := fun e => by rw [e, hgr2] at hbB; cases hbB
  have nBp : ¬ gB = gp := fun e => by rw [e, hgp] at hbB; cases hbB
  simp [hgp, nBr, nBp, Ne.symm nBr, Ne.symm nBp, m1, Ne.symm m1, hgr2, appV, elsV, Int.not_lt.2 hgB]
  refine ⟨by omega, fun gF hgF hbF => ?_⟩
  have nFB : ¬ gF = gB := by grind
  have cF : gF = gp ∨ b gF = none := by grind
  have nFr : ¬ gF = gr := fun e => by
    rcases cF with h9 | h9
    · exact m1 (by rw [← h9, e])
    · rw [e, hgr2] at h9; cases h9
  simp [hgr2, nBr, nBp, Ne.symm nBr, Ne.symm nBp, m1, Ne.symm m1, nFr, Ne.symm nFr]
  refine AW_run ?_
  simp
  rw [retK_ret, htp, ← e10]
  have keep : ∀ x z, b x = some z → x ≠ gr → x ≠ gp → upd (upd (rem (upd b gB (some ⟨1, [[V.int .i64 k]]⟩)) gp) gF (some ⟨1, iv (pz (s.P ++ [k]))⟩)) gr (some ⟨5, [[.int .i64 t, .int .i64 j, .lsl g0 1 0 t, .lsl gF 1 0 (s.P.length + 1), fv d3]]⟩) x = some z := fun x z hx x1 x2 => by
    have x3 : x ≠ gB := fun e => by rw [e, hbB] at hx; cases hx
    have x4 : x ≠ gF := fun e => by
      rcases cF with h9 | h9
      · exact x2 (by rw [e, h9])
      · rw [e, h9] at hx; cases hx
    simp [upd_apply, rem_apply, x1, x2, x3, x4, hx]
  have own : ∀ x, x = g0 ∨ x ∈ ids2 → x ≠ gr ∧ x ≠ gp := fun x hx => by
    rcases hx with hx | hx
    · exact ⟨fun e => hR.d1 (by rw [← e, hx]), fun e => hR.d4 (by rw [← e, hx])⟩
    · exact ⟨fun e => hR.d2 (by rw [← e]; exact hx), fun e => hR.d5 (by rw [← e]; exact hx)⟩
  have nown : ∀ x, x = g0 ∨ x ∈ ids2 → gF ≠ x := fun x hx e => by
    rcases cF with h9 | h9
    · exact (own x hx).2 (by rw [← e, h9])
    · rcases hx with hx | hx
      · have := hR.grid.top; rw [← hx, ← e, h9] at this; cases this
      · obtain ⟨i9, hi9⟩ := List.mem_iff_getElem?.1 hx
        have := hR.grid.row i9 x hi9; rw [← e, h9] at this; cases this
  refine ⟨[.bool true], by simp, hT ⟨stepM s.M n k i, s.P ++ [k]⟩ ids2 gF d3 _ hfin ⟨(hR.grid.congr hMe).keep fun x z hx hz => keep x z hz (own x hx).1 (own x hx).2, by simp, by simp [nFr], fun h9 => absurd h9 (by omega), hR.dq, hR.g00, hR.d1, hR.d2, nFr, nown g0 (.inl rfl), fun hm => nown gF (.inr hm) rfl⟩ hm2 ?_ fun x z hx x1 x2 x3 x4 => keep x z (hf x z hx x1 x2 x4) x1 x3⟩
  rcases cF with h9 | h9
  · exact .inl h9
  · refine .inr ?_
    cases hx : bl gF with
    | none => rfl
    | some z =>
      have := hf gF z hx nFr (nown g0 (.inl rfl)) (fun hm => nown gF (.inr ((hm2 gF).2 hm)) rfl)
      rw [h9] at this; cases this
end Go.Proofs.YtmbcofnnibpbeaaGreat.Vm

namespace Go.Proofs.YtmbcofnnibpbeaaGreat.Vm
open Go Go.Proofs
set_option linter.unusedSimpArgs false
set_option linter.unusedVariables false

theorem grid_el {M : MF} {r c i k : Nat} (hi : i < r) (hk : k < c) : (gv (gridOf r c M))[i]? = some [.sl (fvs (rowOf c M i))] ∧ (fvs (rowOf c M i))[k]? = some [fv (M i k)] := by
  constructor
  · rw [List.getElem?_eq_getElem (by simpa using hi)]; simp
  · rw [List.getElem?_eq_getElem (by simpa using hk)]; simp
theorem reduce1_ro (M : MF) (r c i k : Nat) (hi : i < r) (hk : k < c) (x y : V) : RO Tryz.prog 154 [.int .i64 i, .int .i64 k, .ptr [x, y, .sl (gv (gridOf r c M))]] (fv (M i k)) := by
  refine ro_of2 Tryz.func154 rfl rfl (by rw [Tryz.ntmps154]; simp) fun bl => ?_
  rw [Tryz.ntmps154, Tryz.results154]
  refine AW_run ?_
  simp [hi, hk]
  exact retRO [fv (M i k)] 0 (by simp) (frz_cl (fv_cl _)) (Sub.refl _)
theorem transposed1_ro (M : MF) (r c i k : Nat) (hi : i < r) (hk : k < c) (x y : V) : RO Tryz.prog 161 [.int .i64 k, .int .i64 i, .ptr [x, y, .sl (gv (gridOf r c M))]] (fv (M i k)) := by
  refine ro_of2 Tryz.func161 rfl rfl (by rw [Tryz.ntmps161]; simp) fun bl => ?_
  rw [Tryz.ntmps161, Tryz.results161]
  refine AW_run ?_
  simp [hi, hk]
  exact retRO [fv (M i k)] 0 (by simp) (frz_cl (fv_cl _)) (Sub.refl _)

theorem rows_of_own {b : Int → Option Blk} {c : Nat} (hc : 0 < c) : ∀ (cells : List (List (Option Rat))) (els : List (List V)) (gs : List Int), (∀ w, w ∈ cells → w.length = c) → OwnR b 1 (cells.map fun w => [fl 1 (fvs w)]) els gs →
    ∃ ids : List Int, els = ids.map (fun g => [.lsl g 1 0 c]) ∧ ids.length = cells.length ∧ (∀ (i : Nat) (g : Int), ids[i]? = some g → ∃ w, cells[i]? = some w ∧ b g = some ⟨1, fvs w⟩) ∧ (∀ g, g ∈ ids → 0 ≤ g ∧ g ∈ gs) ∧ (∀ (i j : Nat) (g : Int), ids[i]? = some g → ids[j]? = some g → i = j)
  | [], els, gs, _, h => by
    simp only [List.map_nil] at h
    rw [OwnR] at h
    exact ⟨[], by simp [h.1], rfl, fun i g hi => by simp at hi, fun g hg => absurd hg (by simp), fun i j g hi => by simp at hi⟩
  | w :: ws, els, gs, hl, h => by
    simp only [List.map_cons] at h
    rw [OwnR] at h
    obtain ⟨e, els', g1, g2, rfl, rfl, hd, he, ho, h1, h2⟩ := h
    obtain ⟨ids, q1, q2, q3, q4, q5⟩ := rows_of_own hc ws els' g2 (fun x hx => hl x (by simp [hx])) h2
    obtain ⟨v, rfl⟩ : ∃ v, e = [v] := by
      match e, he with
      | [v], _ => exact ⟨v, rfl⟩
    have h3 := own_single.1 h1
    rw [own_fl (fvs_cl w) (fvs_clen w)] at h3
    have hw : w.length = c := hl w (by simp)
    rcases h3 with ⟨h4, _⟩ | ⟨g, rfl, rfl, h5, h6⟩
    · have := congrArg List.length h4
      rw [fvs_length] at this; simp only [List.length_nil] at this; omega
    have hg0 : 0 ≤ g := by
      rcases Int.lt_or_le g 0 with h9 | h9
      · have := congrArg List.length (h6 h9)
        rw [fvs_length] at this; simp only [List.length_nil] at this; omega
      · exact h9
    refine ⟨g :: ids, by simp [q1, hw], by simp [q2], fun i g' hi => ?_, fun g' hg' => ?_, fun i j g' hi hj => ?_⟩
    · cases i with
      | zero => simp at hi; subst hi; exact ⟨w, rfl, h5⟩
      | succ i => simpa using q3 i g' (by simpa using hi)
    · rcases List.mem_cons.1 hg' with rfl | hg'
      · exact ⟨hg0, by simp⟩
      · exact ⟨(q4 g' hg').1, by simp [(q4 g' hg').2]⟩
    · have hno : ∀ i : Nat, ids[i]? = some g → False := fun i hi => hd g (by simp) (q4 g (List.mem_of_getElem? hi)).2
      cases i with
      | zero =>
        cases j with
        | zero => rfl
        | succ j =>
          simp at hi hj; subst hi
          exact absurd hj (fun h => hno j h)
      | succ i =>
        cases j with
        | zero =>
          simp at hi hj; subst hj
          exact absurd hi (fun h => hno i h)
        | succ j =>
          have := q5 i j g' (by simpa using hi) (by simpa using hj)
          omega
theorem grid_of_own {b : Int → Option Blk} {r c : Nat} {M : MF} {w : V} {gs : List Int} (hr : 0 < r) (hc : 0 < c) (h : OwnD b (dGr (gridOf r c M)) w gs) : ∃ g0 ids, w = .lsl g0 1 0 r ∧ GridAt b g0 ids r c M ∧ 0 ≤ g0 ∧ ∀ x, x = g0 ∨ x ∈ ids → x ∈ gs := by
  unfold dGr at h
  rw [OwnD] at h
  rcases h with ⟨h1, _⟩ | ⟨g, els, gs', rfl, rfl, hng, hb, hneg, ho⟩
  · have := congrArg List.length h1
    simp at this; omega
  obtain ⟨ids, q1, q2, q3, q4, q5⟩ := rows_of_own hc _ _ _ (fun w hw => by obtain ⟨i, _, rfl⟩ := List.mem_map.1 hw; simp) ho
  rw [gridOf_length] at q2
  have hg0 : 0 ≤ g := by
    rcases Int.lt_or_le g 0 with h9 | h9
    · have := congrArg List.length (hneg h9)
      rw [q1, List.length_map, q2] at this; simp only [List.length_nil] at this; omega
    · exact h9
  refine ⟨g, ids, by simp, ⟨q2, by rw [hb, q1], fun i g' hi => ?_, fun g' hg' => (q4 g' hg').1, q5, fun hm => hng (q4 g hm).2⟩, hg0, fun x hx => ?_⟩
  · obtain ⟨w, hw, hbw⟩ := q3 i g' hi
    have hlt : i < r := by rw [← q2]; exact (List.getElem?_eq_some_iff.1 hi).1
    rw [List.getElem?_eq_getElem (by simpa using hlt), gridOf_getE] at hw
    cases hw
    exact hbw
  · rcases hx with rfl | hx
    · simp
    · simp [(q4 x hx).2]
theorem mapM_idx {α β : Type} {f : α → Option β} : ∀ (xs : List α) (ys : List β), xs.length = ys.length → (∀ (i : Nat) x y, xs[i]? = some x → ys[i]? = some y → f x = some y) → xs.mapM f = some ys
  | [], [], _, _ => rfl
  | [], _ :: _, h, _ => by simp at h
  | _ :: _, [], h, _ => by simp at h
  | x :: xs, y :: ys, h, hf => by
    have h1 := hf 0 x y rfl rfl
    have h2 := mapM_idx xs ys (by simpa using h) (fun i a b ha hb => hf (i + 1) a b (by simpa using ha) (by simpa using hb))
    simp [List.mapM_cons, h1, h2]
theorem frz_grid {b : Int → Option Blk} {g0 : Int} {ids : List Int} {r c : Nat} {M : MF} (h : GridAt b g0 ids r c M) (h0 : 0 ≤ g0) : frz b 2 (.lsl g0 1 0 r) = some (.sl (gv (gridOf r c M))) := by
  have h1 := frz_lsl (n := 1) h0 h.top
  rw [List.length_map, h.len] at h1
  rw [h1]
  have h2 : (ids.map fun g => [V.lsl g 1 0 c]).mapM (fun e : List V => e.mapM (frz b 1)) = some (gv (gridOf r c M)) := by
    refine mapM_idx _ _ (by simp [h.len]) fun i x y hx hy => ?_
    rw [List.getElem?_map] at hx
    cases hi : ids[i]? with
    | none => rw [hi] at hx; cases hx
    | some g =>
      rw [hi] at hx; cases hx
      have hlt : i < r := by rw [← h.len]; exact (List.getElem?_eq_some_iff.1 hi).1
      rw [List.getElem?_eq_getElem (by simpa using hlt), gv_getE, gridOf_getE] at hy
      cases hy
      have h3 := frz_lsl (bl := b) (n := 0) (sz := 1) (els := fvs (rowOf c M i)) (h.pos g (List.mem_of_getElem? hi)) (h.row i g hi)
      rw [mapMM_cl (fvs_cl _)] at h3
      simp only [List.mapM_cons, List.mapM_nil]
      rw [show (fvs (rowOf c M i)).length = c by simp] at h3
      rw [h3]; rfl
  rw [h2]; rfl
end Go.Proofs.YtmbcofnnibpbeaaGreat.Vm

namespace Go.Proofs.YtmbcofnnibpbeaaGreat.Vm
open Go Go.Proofs
set_option linter.unusedSimpArgs false
set_option linter.unusedVariables false

structure LoopR where
  k : Nat
  s : RS
  ids : List Int
  gp : Int
  d : Option Rat
  b : Int → Option Blk
theorem frz_pz {b : Int → Option Blk} {gp : Int} {P : List Nat} (hn : gp < 0 → P = []) (hp : b gp = some ⟨1, iv (pz P)⟩) : frz b 2 (.lsl gp 1 0 P.length) = some (.sl (iv (pz P))) := by
  rcases Int.lt_or_le gp 0 with h9 | h9
  · rw [hn h9]; simp [frz, h9]; rfl
  · have h5 := frz_lsl (bl := b) (n := 1) (sz := 1) (els := iv (pz P)) h9 hp
    rw [mapMM_cl (iv_cl _)] at h5
    simpa using h5
theorem redTo_r0 {r c : Nat} (M : MF) (h : r = 0 ∨ c = 0) : redTo r c M c = some ⟨M, []⟩ := by
  rcases h with h | h
  · subst h
    have := redTo_full (r := 0) (c := c) (M := M) (k := 0) rfl (by simp) c
    rwa [Nat.zero_add] at this
  · subst h; rfl
theorem reduce_cp {bl : Int → Option Blk} {K : V → (Int → Option Blk) → Prop} (r c : Nat) (M : MF) (hr : r ≤ 24) (hc : c ≤ 24) (hM : ∀ i j, okQ (M i j)) (hM0 : okM r c M = true)
    (hK : ∀ s w p d b', redTo r c M c = some s → Sub bl b' → w.one = true → w.cells = [w] → p.one = true → p.cells = [p] → frz (dropB b' bl) 2 w = some (.sl (gv (gridOf r c s.M))) → frz (dropB b' bl) 2 p = some (.sl (iv (pz s.P))) → K (.tup [.agg [.int .i64 r, .int .i64 c, w, p, fv d], .bool true]) b')
    (hF : ∀ b', redTo r c M c = none → Sub bl b' → K (.tup [.agg [.int .i64 0, .int .i64 0, .nils, .nils, .nilp], .bool false]) b') :
    CallP Tryz.prog 113 [.agg [.int .i64 r, .int .i64 c, .sl (gv (gridOf r c M))]] bl K := by
  have w1 := whole_ro 1 (by omega)
  rw [show ((1 : Int) : Rat) = 1 from rfl] at w1
  have hone : okQ (some (1 : Rat)) := fun q h => by cases h; exact fits_int (n := 1) (by decide)
  refine callP_of Tryz.func113 rfl rfl (by rw [Tryz.ntmps113]; simp) ?_
  rw [Tryz.ntmps113, Tryz.results113]
  refine AW_runA ?_
  simp
  intro g1 hg1 hb1 g2 hg2 h21 hb2
  refine AW_frzAt 1 1 (.ptr [.int .i64 r, .int .i64 c, .sl (gv (gridOf r c M))]) (upd bl g2 (some ⟨5, [[.int .i64 0, .int .i64 0, .nils, .nils, .nilp]]⟩)) (by intro z b hz; simp only [upd_apply] at hz ⊢; grind) (by simp [frz, dropB, hb1, h21, Ne.symm h21, V.cl]) ?_
  refine AW_runA ?_
  simp
  refine callP_new (newGrid_nw r c (by omega) (by omega) 154 [.ptr [.int .i64 r, .int .i64 c, .sl (gv (gridOf r c M))]] M (fun i k hi hk => reduce1_ro M r c i k hi hk _ _)) fun v gs b' o f fr => ?_
  obtain ⟨w, rfl, ow⟩ := own_g.1 o
  have w12 : w.one = true ∧ w.cells = [w] := by
    unfold dGr at ow; rw [OwnD] at ow
    rcases ow with ⟨_, rfl, _⟩ | ⟨g, els, gs', rfl, _⟩ <;> exact ⟨rfl, rfl⟩
  obtain ⟨wo, wc⟩ := w12
  have k2 : b' g2 = some ⟨5, [[.int .i64 0, .int .i64 0, .nils, .nils, .nilp]]⟩ := new_keep f fr (by simp)
  have hsb : Sub bl b' := fun x y hx => new_keep f fr (by have : x ≠ g2 := fun e => (by rw [e, hb2] at hx; cases hx); simp [upd_apply, this, hx])
  have f' : ∀ x, x ∈ gs → bl x = none ∧ x ≠ g2 := fun x hx => by
    have h5 := f x hx
    have h6 : x ≠ g2 := fun e => by rw [e] at h5; simp at h5
    exact ⟨by simpa [upd_apply, h6] using h5, h6⟩
  simp [wo, wc]
  refine callP_ro w1 ?_
  simp [wo, wc]
  intro gr hgr hbr
  have nr2 : ¬ gr = g2 := fun e => by rw [e, k2] at hbr; cases hbr
  have hbr' : bl gr = none := by
    cases hh : bl gr with
    | none => rfl
    | some y => have := hsb gr y hh; rw [hbr] at this; cases this
  have nrg : ∀ x, x ∈ gs → x ≠ gr := fun x hx e => by
    obtain ⟨y, hy⟩ := ow.has x hx
    rw [e, hbr] at hy; cases hy
  by_cases h0 : r = 0 ∨ c = 0
  · have hfin := redTo_r0 M h0
    have hgo : ¬ (0 < c ∧ 0 < r) := by omega
    refine AW_runA ?_
    simp
    refine AW_for (fun _ : Unit => [(1, .ptr [.int .i64 r, .int .i64 c, .sl (gv (gridOf r c M))]), (2, .loc g2 5 0 0), (3, .bool false), (4, .loc gr 5 0 0), (5, .int .i64 0)]) (fun _ => upd b' gr (some ⟨5, [[.int .i64 r, .int .i64 c, w, .nils, fv (some 1)]]⟩)) (fun _ => True) (fun _ => 0) _ () trivial ⟨rfl, by simp, Sub.refl _⟩ ?_
    intro _ _
    refine AW_runA ?_
    simp
    refine AW_way0 [(1, .ptr [.int .i64 r, .int .i64 c, .sl (gv (gridOf r c M))]), (2, .loc g2 5 0 0), (3, .bool false), (4, .loc gr 5 0 0), (5, .int .i64 0)] _ (upd b' gr (some ⟨5, [[.int .i64 r, .int .i64 c, w, .nils, fv (some 1)]]⟩)) 25 (.bool false) ⟨rfl, by simp, Sub.refl _⟩ rfl ?_ ?_
    · simp
      intro h9; omega
    simp
    refine AW_run ?_
    simp [wo, wc, k2, Ne.symm nr2]
    rw [retK_ret]
    refine ⟨[.agg [.int .i64 r, .int .i64 c, w, .nils, fv (some 1)], .bool true], by simp, hK ⟨M, []⟩ w .nils (some 1) _ hfin ((hsb.upd hbr' _).upd hb2 _) wo wc rfl rfl ?_ (by simp [frz]; rfl)⟩
    have o2 : OwnD (dropB (upd (upd b' gr (some ⟨5, [[.int .i64 r, .int .i64 c, w, .nils, fv (some 1)]]⟩)) g2 (some ⟨5, [[.int .i64 r, .int .i64 c, w, .nils, fv (some 1)]]⟩)) bl) (dGr (gridOf r c M)) w gs := ow.frame fun x hx => by
      simp [dropB, (f' x hx).1, upd_apply, (f' x hx).2, nrg x hx]
    have := o2.frz (dGr_dep _ 0)
    rwa [dGr_fz] at this
  have hrp : 0 < r := by omega
  have hcp : 0 < c := by omega
  obtain ⟨g0, ids, rfl, hgrid, hg00, hmem⟩ := grid_of_own hrp hcp ow
  have n02 : g0 ≠ g2 := (f' g0 (hmem _ (.inl rfl))).2
  have n0r : g0 ≠ gr := nrg g0 (hmem _ (.inl rfl))
  refine AW_ghostCell (g := gr) (s := 5) (els := [[.int .i64 r, .int .i64 c, .lsl g0 1 0 r, .nils, fv (some 1)]]) (e := [.int .i64 r, .int .i64 c, .lsl g0 1 0 r, .nils, fv (some 1)]) 0 3 1 (by simp) rfl rfl fun gp0 hgp0 hne => ?_
  simp only [upd_apply, if_neg hne] at hgp0
  have np2 : gp0 ≠ g2 := fun e => by rw [e, k2] at hgp0; cases hgp0
  have np0 : gp0 ≠ g0 := fun e => by rw [e, hgrid.top] at hgp0; cases hgp0
  have npi : gp0 ∉ ids := fun hm => by
    obtain ⟨i, hi⟩ := List.mem_iff_getElem?.1 hm
    rw [hgrid.row i gp0 hi] at hgp0; cases hgp0
  have hbp : bl gp0 = none := by
    cases hh : bl gp0 with
    | none => rfl
    | some y => have := hsb gp0 y hh; rw [hgp0] at this; cases this
  refine AW_runA ?_
  simp
  refine AW_for (fun p : LoopR => [(1, .ptr [.int .i64 r, .int .i64 c, .sl (gv (gridOf r c M))]), (2, .loc g2 5 0 0), (3, .bool false), (4, .loc gr 5 0 0), (5, .int .i64 p.k)]) (fun p => p.b) (fun p => (p.k ≤ c ∧ redTo r c M p.k = some p.s ∧ RI r c p.k p.s) ∧ RedAt p.b gr g0 p.gp p.ids r c p.s p.d ∧ (∀ x, x ∈ p.ids ↔ x ∈ ids) ∧ bl p.gp = none ∧ p.gp ≠ g2 ∧ p.b g2 = some ⟨5, [[.int .i64 0, .int .i64 0, .nils, .nils, .nilp]]⟩ ∧ Sub bl p.b) (fun p => c - p.k) _
    ⟨0, ⟨M, []⟩, ids, gp0, some 1, upd (upd b' gr (some ⟨5, [[.int .i64 r, .int .i64 c, .lsl g0 1 0 r, .lsl gp0 1 0 0, fv (some 1)]]⟩)) gp0 (some ⟨1, []⟩)⟩
    ⟨⟨Nat.zero_le _, rfl, ⟨Nat.zero_le _, hM0, hM, fun i j _ _ h _ => absurd h (Nat.not_lt_zero _), fun n h => by simp at h, fun m n _ h => by simp at h⟩⟩, ⟨hgrid.keep fun x y hx hy => ?_, by simp [hne, Ne.symm hne], by simp; rfl, fun _ => rfl, hone, hg00, Ne.symm n0r, fun hm => nrg gr (hmem _ (.inr hm)) rfl, hne, np0, npi⟩, fun _ => Iff.rfl, hbp, np2, by simp [Ne.symm np2, Ne.symm nr2, k2], (hsb.upd hbr' _).upd hbp _⟩ ⟨rfl, by simp, by intro z y hz; simp only [upd_apply] at hz ⊢; grind⟩ ?_
  · have x1 : x ≠ gr := nrg x (hmem x hx)
    have x2 : x ≠ gp0 := fun e => by
      rcases hx with hx | hx
      · exact np0 (by rw [← e, hx])
      · exact npi (by rw [← e]; exact hx)
    simp [upd_apply, x1, x2, hy]
  rintro ⟨k, s, ids2, gp, d, b⟩ ⟨⟨hk, hred, hri⟩, hR, hm2, hbp2, np22, kb2, hsb2⟩
  simp only at hk hred hri hR hm2 hbp2 np22 kb2 hsb2
  have wk : IntKind.i64.wrap ((k : Int) + 1) = (k : Int) + 1 := i64_in (by omega) (by omega)
  have hPl := hri.le
  have hhd := hR.hd
  refine AW_runA ?_
  simp
  by_cases hgo : ¬ (k < c ∧ s.P.length < r)
  · refine AW_way0 [(1, .ptr [.int .i64 r, .int .i64 c, .sl (gv (gridOf r c M))]), (2, .loc g2 5 0 0), (3, .bool false), (4, .loc gr 5 0 0), (5, .int .i64 k)] _ b 25 (.bool false) ⟨rfl, by simp, Sub.refl _⟩ rfl ?_ ?_
    · simp [hhd]
      intro h9; omega
    have hfin : redTo r c M c = some s := by
      by_cases h9 : k = c
      · exact (congrArg (redTo r c M) h9.symm).trans hred
      · have := redTo_full hred (by omega) (c - k)
        rwa [show k + (c - k) = c by omega] at this
    simp
    refine AW_run ?_
    simp [hhd, kb2, Ne.symm nr2]
    rw [retK_ret]
    have own2 : ∀ x, x = g0 ∨ x ∈ ids2 → bl x = none ∧ x ≠ g2 := fun x hx => f' x (hmem x (by
      rcases hx with hx | hx
      · exact .inl hx
      · exact .inr ((hm2 x).1 hx)))
    refine ⟨[.agg [.int .i64 r, .int .i64 c, .lsl g0 1 0 r, .lsl gp 1 0 s.P.length, fv d], .bool true], by simp, hK s (.lsl g0 1 0 r) (.lsl gp 1 0 s.P.length) d _ hfin (hsb2.upd hb2 _) rfl rfl rfl rfl ?_ ?_⟩
    · exact frz_grid (ids := ids2) (hR.grid.keep fun x y hx hy => by
        obtain ⟨x1, x2⟩ := own2 x hx
        simp [dropB, x1, upd_apply, x2, hy]) hg00
    · exact frz_pz hR.pn (by simp [dropB, hbp2, upd_apply, np22, hR.pv])
  have hkc : k < c := by omega
  have hPr : s.P.length < r := by omega
  refine AW_way0 [(1, .ptr [.int .i64 r, .int .i64 c, .sl (gv (gridOf r c M))]), (2, .loc g2 5 0 0), (3, .bool false), (4, .loc gr 5 0 0), (5, .int .i64 k)] _ b 25 (.bool true) ⟨rfl, by simp, Sub.refl _⟩ rfl ?_ ?_
  · simp [hhd, hkc, hPr]
  have hne2 : ∀ x, x = g0 ∨ x ∈ ids2 → bl x = none ∧ x ≠ g2 := fun x hx => f' x (hmem x (by
    rcases hx with hx | hx
    · exact .inl hx
    · exact .inr ((hm2 x).1 hx)))
  have hkeep : ∀ b', (∀ x y, b x = some y → x ≠ gr → x ≠ g0 → x ≠ gp → x ∉ ids2 → b' x = some y) → Sub bl b' ∧ b' g2 = some ⟨5, [[.int .i64 0, .int .i64 0, .nils, .nils, .nilp]]⟩ := fun b' hfr => by
    refine ⟨fun x y hx => hfr x y (hsb2 x y hx) (fun e => ?_) (fun e => ?_) (fun e => ?_) (fun hm => ?_), hfr g2 _ kb2 (fun e => nr2 e.symm) (fun e => n02 e.symm) (fun e => np22 e.symm) (fun hm => (hne2 g2 (.inr hm)).2 rfl)⟩
    · rw [e, hbr'] at hx; cases hx
    · rw [e, (hne2 g0 (.inl rfl)).1] at hx; cases hx
    · rw [e, hbp2] at hx; cases hx
    · rw [(hne2 x (.inr hm)).1] at hx; cases hx
  simp
  refine AW_run ?_
  simp
  refine column_cp r c k s gr g0 gp ids2 d hr hc hkc hPr hR hri (fun s' ids' gp' d' b9 hst hR' hm' hgp' hfr => ?_) (fun b9 hst hfr => ?_)
  · obtain ⟨hs9, hb9⟩ := hkeep b9 hfr
    have hred2 : redTo r c M (k + 1) = some s' := by show (redTo r c M k).bind _ = _; rw [hred]; exact hst
    simp [wk, loopQ_normal]
    refine ⟨⟨k + 1, s', ids', gp', d', b9⟩, ⟨⟨by simp only; omega, hred2, redStep_ri hri hkc hst⟩, hR', fun x => (hm' x).trans (hm2 x), ?_, ?_, hb9, hs9⟩, by simp only; omega, rfl, by simp, Sub.refl _⟩
    · rcases hgp' with h9 | h9
      · simp only; rw [h9]; exact hbp2
      · simp only
        cases hh : bl gp' with
        | none => rfl
        | some y => have := hsb2 gp' y hh; rw [h9] at this; cases this
    · rcases hgp' with h9 | h9
      · simp only; rw [h9]; exact np22
      · intro e
        simp only at e
        rw [e, kb2] at h9; cases h9
  · obtain ⟨hs9, hb9⟩ := hkeep b9 hfr
    have hno : redTo r c M c = none := by
      have h1 : redTo r c M (k + 1) = none := by
        show (redTo r c M k).bind _ = _
        rw [hred]; exact hst
      have := redTo_none h1 (c - (k + 1))
      rwa [show k + 1 + (c - (k + 1)) = c by omega] at this
    simp [hb9]
    rw [retK_ret]
    exact ⟨[.agg [.int .i64 0, .int .i64 0, .nils, .nils, .nilp], .bool false], by simp, hF _ hno (hs9.upd hb2 _)⟩
end Go.Proofs.YtmbcofnnibpbeaaGreat.Vm

namespace Go.Proofs.YtmbcofnnibpbeaaGreat.Vm
open Go Go.RowKit Go.Proofs
set_option linter.unusedSimpArgs false
set_option linter.unusedVariables false

mutual
/-- No map that is read only, anywhere. -/
def V.nm : V → Bool
  | .ptr cs | .agg cs | .tup cs | .fn _ cs => V.nmL cs
  | .sl xs => V.nmR xs
  | .mpf _ => false
  | _ => true
def V.nmL : List V → Bool
  | [] => true
  | x :: xs => x.nm && V.nmL xs
def V.nmR : List (List V) → Bool
  | [] => true
  | x :: xs => V.nmL x && V.nmR xs
end
theorem nmL_get : ∀ {xs : List V} {i : Nat} {x : V}, V.nmL xs = true → xs[i]? = some x → x.nm = true
  | [], i, x, _, h => by simp at h
  | y :: ys, 0, x, h, hi => by
    simp at hi; subst hi
    rw [V.nmL, Bool.and_eq_true] at h; exact h.1
  | y :: ys, i + 1, x, h, hi => by
    rw [V.nmL, Bool.and_eq_true] at h
    exact nmL_get h.2 (by simpa using hi)
theorem nmR_get : ∀ {xs : List (List V)} {i : Nat} {x : List V}, V.nmR xs = true → xs[i]? = some x → V.nmL x = true
  | [], i, x, _, h => by simp at h
  | y :: ys, 0, x, h, hi => by
    simp at hi; subst hi
    rw [V.nmR, Bool.and_eq_true] at h; exact h.1
  | y :: ys, i + 1, x, h, hi => by
    rw [V.nmR, Bool.and_eq_true] at h
    exact nmR_get h.2 (by simpa using hi)
theorem nmR_of : ∀ {xs : List (List V)}, (∀ x, x ∈ xs → V.nmL x = true) → V.nmR xs = true
  | [], _ => by rw [V.nmR]
  | x :: xs, h => by rw [V.nmR, h x (by simp), nmR_of (xs := xs) fun y hy => h y (by simp [hy])]; rfl
theorem nmR_iv (ns : List Int) : V.nmR (iv ns) = true := nmR_of fun x hx => by
  obtain ⟨n, _, rfl⟩ := List.mem_map.1 hx
  simp [V.nmL, V.nm]
theorem nm_iv (ns : List Int) : V.nm (.sl (iv ns)) = true := by rw [V.nm]; exact nmR_iv ns
theorem nm_fv (x : Option Rat) : V.nm (fv x) = true := by
  cases x with
  | none => simp [fv, V.nm]
  | some q => simp [fv, V.nm, RT.c, V.nmL, nmR_iv]
theorem nm_gv (cells : List (List (Option Rat))) : V.nm (.sl (gv cells)) = true := by
  rw [V.nm]
  refine nmR_of fun x hx => ?_
  obtain ⟨w, _, rfl⟩ := List.mem_map.1 hx
  have : V.nm (.sl (fvs w)) = true := by
    rw [V.nm]
    refine nmR_of fun y hy => ?_
    obtain ⟨z, _, rfl⟩ := List.mem_map.1 hy
    simp [V.nmL, nm_fv]
  simp [V.nmL, this]

def isMap (w : World) (b : Nat) : Prop := ∃ es clock, w.heap[b]? = some (.map es clock)
/-- Nothing else sees what a map holds. -/
theorem rep_map {F : Nat → Prop} {w w' : World} {b : Nat} (hm : isMap w b) (hw : ∀ k, k ≠ b → w'.heap[k]? = w.heap[k]?) (hs : Shapes w w') {x : V} {v : Value} (h : Rep F w x v) : x.nm = true → Rep F w' x v := by
  have cell : ∀ {k o : Nat} {u : Value}, w.cell? ⟨k, o, none⟩ = some u → w'.cell? ⟨k, o, none⟩ = some u := fun {k o u} hc => by
    have hk : k ≠ b := fun e => by
      obtain ⟨es, clock, hb⟩ := hm
      rw [e] at hc
      simp [World.cell?, hb] at hc
    rw [cell_of_heap (hw k hk)]; exact hc
  induction h with
  | junk v => intro _; exact .junk v
  | bool b => intro _; exact .bool b
  | int k n => intro _; exact .int k n
  | str s => intro _; exact .str s
  | nilp => intro _; exact .nilp
  | ptr k o cs u hF hc hr ih => intro hn; rw [V.nm] at hn; exact .ptr k o cs u hF (fun i x hx => cell (hc i x hx)) (fun i x hx => ih i x hx (nmL_get hn hx))
  | nils => intro _; exact .nils
  | sle a cap => intro _; exact .sle a cap
  | sl0 a cap ha => intro _; exact .sl0 a cap ha
  | sl k o cap sz xs u hF hle hcap hsz hc hr ih => intro hn; rw [V.nm] at hn; exact .sl k o cap sz xs u hF hle hcap hsz (fun i c j x h1 h2 => cell (hc i c j x h1 h2)) (fun i c j x h1 h2 => ih i c j x h1 h2 (nmL_get (nmR_get hn h1) h2))
  | loc g sz k j => intro _; exact .loc g sz k j
  | lsl g sz o n cap hg hle hcap hb =>
    intro _
    obtain ⟨c, t, f, h1, h2⟩ := hb
    obtain ⟨c', f', h3, h4⟩ := hs _ c t f h1
    exact .lsl g sz o n cap hg hle hcap ⟨c', t, f', h3, by omega⟩
  | lsln g sz hg => intro _; exact .lsln g sz hg
  | agg cs arr hlen hr ih => intro hn; rw [V.nm] at hn; exact .agg cs arr hlen fun i x hx => ih i x hx (nmL_get hn hx)
  | tup cs arr hlen hr ih => intro hn; rw [V.nm] at hn; exact .tup cs arr hlen fun i x hx => ih i x hx (nmL_get hn hx)
  | fn f cs arr hlen hr ih => intro hn; rw [V.nm] at hn; exact .fn f cs arr hlen fun i x hx => ih i x hx (nmL_get hn hx)
  | mp b => intro _; exact .mp b
  | mpf k es ents clock hF hh he => intro hn; simp [V.nm] at hn

/-- What the map b holds. -/
def MapIn (w : World) (b : Nat) (E : List (Int × Int)) : Prop := ∃ ents clock, w.heap[b]? = some (.map ents clock) ∧ ents.toList.map (fun e => (e.key, e.val)) = E.map fun p => (Value.int .i64 p.1, Value.int .i64 p.2)
/-- Blocks of no length alone. -/
def Ghosts (gb : Int → Option Blk) : Prop := ∀ g y, gb g = some y → g < 0
theorem ghost_blk {F F' : Nat → Prop} {w w' : World} {g : Int} {y : Blk} (hg : g < 0) (h : BlkIn F w g y) : BlkIn F' w' g y := by
  unfold BlkIn at h ⊢
  rw [if_pos hg] at h ⊢
  exact h
/-- The states of such a loop: these slots, no blocks of the call's own, and the map. -/
def MI (gb : Int → Option Blk) (n : Nat) (S : List (Nat × V)) (b : Nat) (E : List (Int × Int)) (w0 : World) (M F : Nat → Prop) (a : Act) (w : World) : Prop :=
  w0.heap.size ≤ b ∧ MapIn w b E ∧ ∃ F', (∀ k, F k → F' k) ∧ Sim w0 M F' ⟨n, hv S, gb⟩ a w
theorem MI_step {P : Program} {gb : Int → Option Blk} (hgb : Ghosts gb) {n : Nat} {S S' : List (Nat × V)} {b : Nat} {E : List (Int × Int)} {w0 : World} {M F : Nat → Prop} {a : Act} {w : World} {c : Code} (h : AW P c (fun e σ' => e = .normal ∧ Fit S' n gb σ') ⟨n, hv S, gb⟩) (hm : MI gb n S b E w0 M F a w) :
    c.wp P (fun e a' w' => e = .normal ∧ MI gb n S' b E w0 M F a' w') a w := by
  obtain ⟨hb0, hE, F1, hF1, hs⟩ := hm
  have hs1 : Sim w (fun _ => False) F1 ⟨n, hv S, gb⟩ a w :=
    ⟨⟨rfl, rfl, rfl, Nat.le_refl _, fun _ _ _ => rfl, .refl w, hs.mem.fr, hs.mem.fin, fun g y hg h0 => absurd (hgb g y hg) (by omega), hs.mem.blk⟩, hs.size, hs.sl, hs.defers⟩
  refine wp_mono (h w _ F1 a w hs1) fun e a' w' hp => ?_
  obtain ⟨x, σ', F2, rfl, hF2, hs2, rfl, hfit⟩ := hp
  have hs3 := hs2.le (le_hv hfit)
  obtain ⟨ents, clock, hb, he⟩ := hE
  have hbs : b < w.heap.size := (Array.getElem?_eq_some_iff.1 hb).1
  refine ⟨rfl, hb0, ⟨ents, clock, by rw [hs3.mem.frame b hbs (fun h => h)]; exact hb, he⟩, F2, fun k hk => hF2 k (hF1 k hk), ?_⟩
  exact ⟨⟨hs3.mem.os.trans hs.mem.os, hs3.mem.tape.trans hs.mem.tape, hs3.mem.output.trans hs.mem.output, Nat.le_trans hs.mem.size hs3.mem.size, fun k hk hM => (hs3.mem.frame k (Nat.lt_of_lt_of_le hk hs.mem.size) (fun h => h)).trans (hs.mem.frame k hk hM), hs.mem.shapes.trans hs3.mem.shapes, hs3.mem.fr, hs3.mem.fin, fun g y hg h0 => absurd (hgb g y hg) (by omega), hs3.mem.blk⟩, hs3.size, hs3.sl, hs3.defers⟩
end Go.Proofs.YtmbcofnnibpbeaaGreat.Vm

namespace Go.Proofs.YtmbcofnnibpbeaaGreat.Vm
open Go Go.RowKit Go.Proofs
set_option linter.unusedSimpArgs false
set_option linter.unusedVariables false

section
variable {P : Program} {ops : Array Oper} {Q : Exit → Act → World → Prop} {a : Act} {w : World} {rest : List Oper}
theorem wl_move {d : Option Tmp} {x : Operand} {ty : TypeId} {pos : String} {af : Array Edge} (h : wpList P ops Q rest (a.put d (a.eval x)) w) : wpList P ops Q (⟨d, .move x, ty, pos, af, none⟩ :: rest) a w := by
  unfold wpList
  rw [if_pos (by simp [Region.wanted])]
  exact .inl (wp_value (v := a.eval x) (w' := w) (by simp [execOp]) h)
theorem wl_assign {d : Option Tmp} {x : Operand} {ty : TypeId} {pos : String} {af : Array Edge} (h : wpList P ops Q rest (a.put d (a.eval x)) w) : wpList P ops Q (⟨d, .assign x, ty, pos, af, none⟩ :: rest) a w := by
  unfold wpList
  rw [if_pos (by simp [Region.wanted])]
  exact .inl (wp_value (v := a.eval x) (w' := w) (by simp [execOp]) h)
theorem wl_makeMap {d : Option Tmp} {t : TypeId} {ty : TypeId} {pos : String} {af : Array Edge} (h : wpList P ops Q rest (a.put d (.map (some w.heap.size))) (w.alloc (.map #[] 0))) : wpList P ops Q (⟨d, .makeMap t none, ty, pos, af, none⟩ :: rest) a w := by
  unfold wpList
  rw [if_pos (by simp [Region.wanted])]
  refine .inl (wp_value (v := .map (some w.heap.size)) (w' := w.alloc (.map #[] 0)) ?_ h)
  have hrun : (Instr.makeMap t none).run P w = .ok (.map (some w.heap.size)) (w.alloc (.map #[] 0)) := rfl
  simp only [execOp, Option.map_none, Sem.run_bind, hrun, Result.andThen_ok, Sem.run_pure]
/-- The world with an entry more. -/
def entered (w : World) (b : Nat) (ents : Array MapEntry) (clock : Nat) (k v : Int) : World := { w with heap := w.heap.setIfInBounds b (.map (ents.push { key := .int .i64 k, val := .int .i64 v, born := clock }) (clock + 1)) }
theorem wl_update {t : TypeId} {m k v : Operand} {ty : TypeId} {pos : String} {af : Array Edge} {b clock : Nat} {ents : Array MapEntry} {E : List (Int × Int)} {kk vv : Int} (hm : a.eval m = .map (some b)) (hk : a.eval k = .int .i64 kk) (hv : a.eval v = .int .i64 vv) (ht : mapT P t = true)
    (hb : w.heap[b]? = some (.map ents clock)) (he : ents.toList.map (fun e => (e.key, e.val)) = E.map fun p => (Value.int .i64 p.1, Value.int .i64 p.2)) (hnew : mfind E kk = none)
    (h : wpList P ops Q rest (a.put none undef) (entered w b ents clock kk vv)) : wpList P ops Q (⟨none, .mapUpdate t m k v, ty, pos, af, none⟩ :: rest) a w := by
  unfold wpList
  rw [if_pos (by simp [Region.wanted])]
  refine .inl (wp_skipv (w' := entered w b ents clock kk vv) ?_ h)
  obtain ⟨kt, et, inf, h1, h2, h3, h4⟩ := mapT_some ht
  have hf : Instr.findNow (.int .i64) (.int .i64 kk) ents.toList 0 = some none := by
    rcases findNow_ints kk ents.toList E 0 he with ⟨u, j, a1, a2⟩ | ⟨a1, a2⟩
    · rw [hnew] at a1; cases a1
    · exact a2
  have hset : ∀ o, (setObj b o).run P w = .ok () { w with heap := w.heap.setIfInBounds b o } := fun o => by simp [setObj, Sem.run, hb]
  simp [execOp, Instr.mapUpdate, hm, hk, hv, run_underlying h1, run_getObjM hb, run_checkInt h2, Instr.findKey, run_underlying h2, hf, Result.andThen, hset, entered]
end
theorem isMap_entered {w : World} {b clock : Nat} {ents : Array MapEntry} {k v : Int} (hb : w.heap[b]? = some (.map ents clock)) : (entered w b ents clock k v).heap[b]? = some (.map (ents.push { key := .int .i64 k, val := .int .i64 v, born := clock }) (clock + 1)) := by
  have := (Array.getElem?_eq_some_iff.1 hb).1
  show (w.heap.setIfInBounds b _)[b]? = _
  rw [Array.getElem?_setIfInBounds_self_of_lt this]
theorem entered_ne {w : World} {b clock : Nat} {ents : Array MapEntry} {k v : Int} {j : Nat} (hj : j ≠ b) : (entered w b ents clock k v).heap[j]? = w.heap[j]? := by
  show (w.heap.setIfInBounds b _)[j]? = _
  rw [Array.getElem?_setIfInBounds_ne (Ne.symm hj)]
theorem entered_shapes {w : World} {b clock : Nat} {ents : Array MapEntry} {k v : Int} (hb : w.heap[b]? = some (.map ents clock)) : Shapes w (entered w b ents clock k v) := fun j c t f hc => by
  have hj : j ≠ b := fun e => by rw [e, hb] at hc; cases hc
  exact ⟨c, f, by rw [entered_ne hj]; exact hc, rfl⟩
/-- Entering into the map. -/
theorem MI_update {P : Program} {gb : Int → Option Blk} (hgb : Ghosts gb) {n : Nat} {S : List (Nat × V)} {b : Nat} {E : List (Int × Int)} {w0 : World} {M F : Nat → Prop} {a : Act} {w : World} {id d1 d2 d3 tm tk tv : Nat} {t ty1 ty2 ty3 ty4 : TypeId} {p1 p2 p3 p4 : String} {a1 a2 a3 a4 : Array Edge} {k v : Int}
    (hnm : ∀ p, p ∈ S → p.2.nm = true) (hlt : d1 < n ∧ d2 < n ∧ d3 < n ∧ tm < n ∧ tk < n ∧ tv < n) (hne : d1 ≠ d2 ∧ d1 ≠ d3 ∧ d2 ≠ d3 ∧ tk ≠ d1 ∧ tv ≠ d1 ∧ tv ≠ d2) (hS : Fit S n gb ((((⟨n, hv S, gb⟩ : St).put (some d1) (.mp b)).put (some d2) (.int .i64 k)).put (some d3) (.int .i64 v)))
    (h1 : hv S tm = .mp b) (h2 : hv S tk = .int .i64 k) (h3 : hv S tv = .int .i64 v) (ht : mapT P t = true) (hnew : mfind E k = none) (hm : MI gb n S b E w0 M F a w) :
    (Code.region id #[⟨some d1, .move (.tmp tm), ty1, p1, a1, none⟩, ⟨some d2, .move (.tmp tk), ty2, p2, a2, none⟩, ⟨some d3, .move (.tmp tv), ty3, p3, a3, none⟩, ⟨none, .mapUpdate t (.tmp d1) (.tmp d2) (.tmp d3), ty4, p4, a4, none⟩] false).wp P
      (fun e a' w' => e = .normal ∧ MI gb n S b (E ++ [(k, v)]) w0 M F a' w') a w := by
  obtain ⟨hb0, ⟨ents, clock, hb, he⟩, F1, hF1, hs⟩ := hm
  have r1 := hs.ev (.tmp tm)
  have hs1 := hs.put (d := some d1) r1
  have e1 : (⟨n, hv S, gb⟩ : St).ev (.tmp tm) = .mp b := by show (if tm < n then hv S tm else .junk) = _; rw [if_pos hlt.2.2.2.1, h1]
  rw [e1] at hs1
  have r2 := hs1.ev (.tmp tk)
  have hs2 := hs1.put (d := some d2) r2
  have e2 : ((⟨n, hv S, gb⟩ : St).put (some d1) (.mp b)).ev (.tmp tk) = .int .i64 k := by
    show (if tk < n then upd (hv S) d1 (.mp b) tk else .junk) = _
    rw [if_pos hlt.2.2.2.2.1, upd_ne _ _ _ _ hne.2.2.2.1, h2]
  rw [e2] at hs2
  have r3 := hs2.ev (.tmp tv)
  have hs3 := hs2.put (d := some d3) r3
  have e3 : (((⟨n, hv S, gb⟩ : St).put (some d1) (.mp b)).put (some d2) (.int .i64 k)).ev (.tmp tv) = .int .i64 v := by
    show (if tv < n then upd (upd (hv S) d1 (.mp b)) d2 (.int .i64 k) tv else .junk) = _
    rw [if_pos hlt.2.2.2.2.2, upd_ne _ _ _ _ hne.2.2.2.2.2, upd_ne _ _ _ _ hne.2.2.2.2.1, h3]
  rw [e3] at hs3
  refine wp_region_list ?_
  refine wl_move (wl_move (wl_move ?_))
  have q1 := hs3.ev (.tmp d1)
  have q2 := hs3.ev (.tmp d2)
  have q3 := hs3.ev (.tmp d3)
  have f1 : ((((⟨n, hv S, gb⟩ : St).put (some d1) (.mp b)).put (some d2) (.int .i64 k)).put (some d3) (.int .i64 v)).ev (.tmp d1) = .mp b := by
    show (if d1 < n then upd (upd (upd (hv S) d1 (.mp b)) d2 (.int .i64 k)) d3 (.int .i64 v) d1 else .junk) = _
    rw [if_pos hlt.1, upd_ne _ _ _ _ hne.2.1, upd_ne _ _ _ _ hne.1, upd_same]
  have f2 : ((((⟨n, hv S, gb⟩ : St).put (some d1) (.mp b)).put (some d2) (.int .i64 k)).put (some d3) (.int .i64 v)).ev (.tmp d2) = .int .i64 k := by
    show (if d2 < n then upd (upd (upd (hv S) d1 (.mp b)) d2 (.int .i64 k)) d3 (.int .i64 v) d2 else .junk) = _
    rw [if_pos hlt.2.1, upd_ne _ _ _ _ hne.2.2.1, upd_same]
  have f3 : ((((⟨n, hv S, gb⟩ : St).put (some d1) (.mp b)).put (some d2) (.int .i64 k)).put (some d3) (.int .i64 v)).ev (.tmp d3) = .int .i64 v := by
    show (if d3 < n then upd (upd (upd (hv S) d1 (.mp b)) d2 (.int .i64 k)) d3 (.int .i64 v) d3 else .junk) = _
    rw [if_pos hlt.2.2.1, upd_same]
  rw [f1] at q1
  rw [f2] at q2
  rw [f3] at q3
  have g1 : ∀ {u : Value}, Rep F1 w (.mp b) u → u = .map (some b) := fun h => by cases h; rfl
  have g2 : ∀ {u : Value} {m : Int}, Rep F1 w (.int .i64 m) u → u = .int .i64 m := fun h => by cases h; rfl
  refine wl_update (g1 q1) (g2 q2) (g2 q3) ht hb he hnew ?_
  refine ⟨rfl, hb0, ⟨_, _, isMap_entered hb, by simp [he]⟩, F1, hF1, ?_⟩
  have hs4 := hs3.le (le_hv hS)
  have hsh := entered_shapes (k := k) (v := v) hb
  refine ⟨hs4.mem.step rfl rfl rfl (by show _ ≤ (w.heap.setIfInBounds b _).size; simp) hsh (fun j => j = b) (fun j _ hj => entered_ne hj) (fun j hj => .inl (by rw [hj]; exact hb0)) (fun j hj => by
      show j < (w.heap.setIfInBounds b _).size; simpa using hs4.mem.fr j hj) hs4.mem.fin (fun g y hg => ⟨fun h0 => absurd (hgb g y hg) (by omega), ghost_blk (hgb g y hg) (hs4.mem.blk g y hg)⟩), hs4.size, fun u hu => ?_, hs4.defers⟩
  refine rep_map ⟨ents, clock, hb⟩ (fun j hj => entered_ne hj) hsh (hs4.sl u hu) ?_
  show (hv S u).nm = true
  induction S with
  | nil => rfl
  | cons p l ih =>
    clear hs4 hs hs1 hs2 hs3
    have key : ∀ (S : List (Nat × V)), (∀ p, p ∈ S → p.2.nm = true) → (hv S u).nm = true := fun S => by
      induction S with
      | nil => intro _; rfl
      | cons p l ih =>
        intro h
        obtain ⟨x, y⟩ := p
        unfold hv
        split
        · exact h (x, y) (by simp)
        · exact ih fun q hq => h q (by simp [hq])
    exact key _ hnm
end Go.Proofs.YtmbcofnnibpbeaaGreat.Vm
