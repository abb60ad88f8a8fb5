/- Finite sums, and determinants by the first row: plain laws. -/
import Derived.Test.YticmgmemnpcbbaaGreatQCFnExactCanCarry8

namespace Go.Proofs.YticmgmemnpcbbaaGreat.Lp
set_option linter.unusedSimpArgs false
set_option linter.unusedVariables false

/-- The sum of the first numbers of a sequence. -/
def S : Nat → (Nat → Rat) → Rat
  | 0, _ => 0
  | n + 1, f => S n f + f n
theorem S_congr {f g : Nat → Rat} : ∀ {n : Nat}, (∀ i, i < n → f i = g i) → S n f = S n g
  | 0, _ => rfl
  | n + 1, h => by rw [S, S, S_congr (n := n) fun i hi => h i (by omega), h n (by omega)]
theorem S_zero {f : Nat → Rat} : ∀ {n : Nat}, (∀ i, i < n → f i = 0) → S n f = 0
  | 0, _ => rfl
  | n + 1, h => by rw [S, S_zero (n := n) fun i hi => h i (by omega), h n (by omega)]; grind
theorem S_add (f g : Nat → Rat) : ∀ n, S n (fun i => f i + g i) = S n f + S n g
  | 0 => by simp [S]; grind
  | n + 1 => by rw [S, S, S, S_add f g n]; grind
theorem S_sub (f g : Nat → Rat) : ∀ n, S n (fun i => f i - g i) = S n f - S n g
  | 0 => by simp [S]; grind
  | n + 1 => by rw [S, S, S, S_sub f g n]; grind
theorem S_mul (a : Rat) (f : Nat → Rat) : ∀ n, S n (fun i => a * f i) = a * S n f
  | 0 => by simp [S]
  | n + 1 => by rw [S, S, S_mul a f n]; grind
theorem S_mul_r (a : Rat) (f : Nat → Rat) (n : Nat) : S n (fun i => f i * a) = S n f * a := by
  rw [show (fun i => f i * a) = fun i => a * f i from funext fun i => Rat.mul_comm _ _, S_mul, Rat.mul_comm]
theorem S_swap (f : Nat → Nat → Rat) (m : Nat) : ∀ n, S n (fun i => S m fun j => f i j) = S m fun j => S n fun i => f i j
  | 0 => by
    rw [S]; symm; exact S_zero fun i _ => rfl
  | n + 1 => by
    rw [S, S_swap f m n, ← S_add]
    rfl
theorem S_single {f : Nat → Rat} {k : Nat} : ∀ {n : Nat}, k < n → (∀ i, i < n → i ≠ k → f i = 0) → S n f = f k
  | n + 1, hk, h => by
    rw [S]
    by_cases e : k = n
    · subst e
      rw [S_zero fun i hi => h i (by omega) (by omega)]
      grind
    · rw [S_single (n := n) (by omega) fun i hi hik => h i (by omega) hik, h n (by omega) (by omega)]
      grind
theorem S_nonneg {f : Nat → Rat} : ∀ {n : Nat}, (∀ i, i < n → 0 ≤ f i) → 0 ≤ S n f
  | 0, _ => Rat.le_refl
  | n + 1, h => by
    have h1 := S_nonneg (n := n) fun i hi => h i (by omega)
    have h2 := h n (by omega)
    rw [S]; grind
theorem S_pos {f : Nat → Rat} {k : Nat} : ∀ {n : Nat}, (∀ i, i < n → 0 ≤ f i) → k < n → 0 < f k → 0 < S n f
  | n + 1, h, hk, hp => by
    have h1 := S_nonneg (n := n) fun i hi => h i (by omega)
    have h2 := h n (by omega)
    rw [S]
    by_cases e : k = n
    · subst e; grind
    · have := S_pos (n := n) (fun i hi => h i (by omega)) (by omega) hp
      grind

/-! ### Determinants -/
/-- The columns but one, without their first number. -/
def skip (v : Nat → Nat → Rat) (j : Nat) : Nat → Nat → Rat := fun c i => v (if c < j then c else c + 1) (i + 1)
def sg (j : Nat) : Rat := if j % 2 = 0 then 1 else -1
theorem sg_succ (j : Nat) : sg (j + 1) = - sg j := by
  unfold sg
  by_cases h : j % 2 = 0
  · rw [if_pos h, if_neg (by omega)]
  · rw [if_neg h, if_pos (by omega)]; grind
/-- The determinant of the first m columns: v j i is the number of column j in row i. -/
def det : Nat → (Nat → Nat → Rat) → Rat
  | 0, _ => 1
  | m + 1, v => S (m + 1) fun j => sg j * v j 0 * det m (skip v j)
theorem det_congr : ∀ {m : Nat} {v w : Nat → Nat → Rat}, (∀ j i, j < m → i < m → v j i = w j i) → det m v = det m w
  | 0, _, _, _ => rfl
  | m + 1, v, w, h => by
    rw [det, det]
    refine S_congr fun j hj => ?_
    rw [h j 0 hj (by omega), det_congr (m := m) (v := skip v j) (w := skip w j) fun c i hc hi => ?_]
    unfold skip
    split
    · exact h c (i + 1) (by omega) (by omega)
    · exact h (c + 1) (i + 1) (by omega) (by omega)
/-- Columns with another one in one place. -/
def put (v : Nat → Nat → Rat) (p : Nat) (x : Nat → Rat) : Nat → Nat → Rat := fun j => if j = p then x else v j
theorem skip_put_eq (v : Nat → Nat → Rat) (p : Nat) (x : Nat → Rat) : skip (put v p x) p = skip v p := by
  funext c i
  unfold skip put
  split <;> (rw [if_neg (by omega)])
theorem skip_put_ne (v : Nat → Nat → Rat) (p j : Nat) (x : Nat → Rat) (h : p ≠ j) : skip (put v p x) j = put (skip v j) (if p < j then p else p - 1) fun i => x (i + 1) := by
  funext c i
  unfold skip put
  by_cases h1 : c < j
  · by_cases h2 : p < j
    · simp only [h1, h2, if_true]
      split <;> rfl
    · simp only [h1, h2, if_true, if_false]
      rw [if_neg (by omega), if_neg (by omega)]
  · by_cases h2 : p < j
    · simp only [h1, h2, if_true, if_false]
      rw [if_neg (by omega), if_neg (by omega)]
    · simp only [h1, h2, if_false]
      by_cases h3 : c + 1 = p
      · rw [if_pos h3, if_pos (by omega)]
      · rw [if_neg h3, if_neg (by omega)]
theorem det_lin (a b : Rat) (x y : Nat → Rat) : ∀ {m : Nat} {p : Nat} (v : Nat → Nat → Rat), p < m → det m (put v p fun i => a * x i + b * y i) = a * det m (put v p x) + b * det m (put v p y)
  | 0, p, v, hp => by omega
  | m + 1, p, v, hp => by
    rw [det, det, det, ← S_mul, ← S_mul, ← S_add]
    refine S_congr fun j hj => ?_
    by_cases h : p = j
    · subst h
      simp only [skip_put_eq]
      simp only [put, if_true]
      grind
    · rw [skip_put_ne _ _ _ _ h, skip_put_ne _ _ _ _ h, skip_put_ne _ _ _ _ h]
      have ih := det_lin a b (fun i => x (i + 1)) (fun i => y (i + 1)) (m := m) (p := if p < j then p else p - 1) (skip v j) (by split <;> omega)
      rw [ih]
      have e : ∀ z : Nat → Rat, put v p z j 0 = v j 0 := fun z => by simp [put, Ne.symm h]
      simp only [e]
      grind
theorem det_adj : ∀ {m : Nat} {p : Nat} (v : Nat → Nat → Rat), p + 1 < m → (∀ i, i < m → v p i = v (p + 1) i) → det m v = 0
  | 0, p, v, hp, h => by omega
  | m + 1, p, v, hp, h => by
    rw [det]
    have hz : ∀ j, j < m + 1 → j ≠ p → j ≠ p + 1 → sg j * v j 0 * det m (skip v j) = 0 := fun j hj h1 h2 => by
      have : det m (skip v j) = 0 := by
        by_cases h3 : j < p
        · refine det_adj (p := p - 1) _ (by omega) fun i hi => ?_
          unfold skip
          rw [if_neg (by omega), if_neg (by omega), show p - 1 + 1 = p by omega]
          exact h (i + 1) (by omega)
        · refine det_adj (p := p) _ (by omega) fun i hi => ?_
          unfold skip
          rw [if_pos (by omega), if_pos (by omega)]
          exact h (i + 1) (by omega)
      rw [this]; grind
    have he : det m (skip v p) = det m (skip v (p + 1)) := det_congr fun c i hc hi => by
      unfold skip
      by_cases h1 : c < p
      · rw [if_pos h1, if_pos (by omega)]
      · by_cases h2 : c = p
        · subst h2
          rw [if_neg (by omega), if_pos (by omega)]
          exact (h (i + 1) (by omega)).symm
        · rw [if_neg (by omega), if_neg (by omega)]
    -- two terms that cancel
    have h0 := h 0 (by omega)
    have key : ∀ n, n ≤ m + 1 → S n (fun j => sg j * v j 0 * det m (skip v j)) = if n = p + 1 then sg p * v p 0 * det m (skip v p) else 0 := by
      intro n
      induction n with
      | zero => intro _; rw [if_neg (by omega)]; rfl
      | succ n ih =>
        intro hn
        rw [S, ih (by omega)]
        by_cases e1 : n = p
        · subst e1
          rw [if_neg (by omega), if_pos rfl]; grind
        · by_cases e2 : n = p + 1
          · subst e2
            rw [if_pos rfl, if_neg (by omega), sg_succ, he, h0]; grind
          · rw [if_neg (by omega), if_neg (by omega), hz n (by omega) e1 e2]; grind
    rw [key (m + 1) (Nat.le_refl _), if_neg (by omega)]
theorem put_self (v : Nat → Nat → Rat) (p : Nat) : put v p (v p) = v := by
  funext j; unfold put; split
  · rename_i h; rw [h]
  · rfl
theorem put_comm (v : Nat → Nat → Rat) {p q : Nat} (h : p ≠ q) (x y : Nat → Rat) : put (put v p x) q y = put (put v q y) p x := by
  funext j; unfold put
  by_cases h1 : j = q
  · rw [if_pos h1, if_neg (by omega), if_pos h1]
  · rw [if_neg h1]
    by_cases h2 : j = p
    · rw [if_pos h2]; rw [if_pos h2]
    · rw [if_neg h2, if_neg h2]; rw [if_neg h1]
/-- Neighbours changed. -/
theorem det_swap {m p : Nat} (v : Nat → Nat → Rat) (hp : p + 1 < m) (x y : Nat → Rat) : det m (put (put v p x) (p + 1) y) = - det m (put (put v p y) (p + 1) x) := by
  have hz : det m (put (put v p fun i => 1 * x i + 1 * y i) (p + 1) fun i => 1 * x i + 1 * y i) = 0 := det_adj (p := p) _ hp fun i hi => by
    simp [put]
  rw [det_lin 1 1 x y (p := p + 1) _ hp, put_comm v (show p ≠ p + 1 by omega) _ x, put_comm v (show p ≠ p + 1 by omega) _ y, det_lin 1 1 x y (p := p) _ (by omega), det_lin 1 1 x y (p := p) _ (by omega)] at hz
  have z1 : det m (put (put v (p + 1) x) p x) = 0 := det_adj (p := p) _ hp fun i hi => by simp [put]
  have z2 : det m (put (put v (p + 1) y) p y) = 0 := det_adj (p := p) _ hp fun i hi => by simp [put]
  rw [put_comm v (show p ≠ p + 1 by omega) x y, put_comm v (show p ≠ p + 1 by omega) y x]
  rw [z1, z2] at hz
  grind
/-- Two columns alike. -/
theorem det_eq0 {m : Nat} : ∀ (d p : Nat) (v : Nat → Nat → Rat), p + 1 + d < m → (∀ i, i < m → v p i = v (p + 1 + d) i) → det m v = 0
  | 0, p, v, hp, h => det_adj v hp h
  | d + 1, p, v, hp, h => by
    have e : v = put (put v (p + 1 + d) (v (p + 1 + d))) (p + 1 + d + 1) (v (p + 1 + d + 1)) := by rw [put_self, put_self]
    rw [e, det_swap v (by omega)]
    have : det m (put (put v (p + 1 + d) (v (p + 1 + d + 1))) (p + 1 + d + 1) (v (p + 1 + d))) = 0 := by
      refine det_eq0 d p _ (by omega) fun i hi => ?_
      unfold put
      rw [if_neg (show ¬ p = p + 1 + d + 1 by omega), if_neg (show ¬ p = p + 1 + d by omega), if_neg (show ¬ p + 1 + d = p + 1 + d + 1 by omega), if_pos rfl]
      exact h i hi
    rw [this]; grind
theorem det_same {m p q : Nat} (v : Nat → Nat → Rat) (hp : p < m) (hq : q < m) (hn : p ≠ q) (h : ∀ i, i < m → v p i = v q i) : det m v = 0 := by
  rcases Nat.lt_or_gt_of_ne hn with h1 | h1
  · exact det_eq0 (q - p - 1) p v (by omega) (by rw [show p + 1 + (q - p - 1) = q by omega]; exact h)
  · exact det_eq0 (p - q - 1) q v (by omega) (by rw [show q + 1 + (p - q - 1) = p by omega]; exact fun i hi => (h i hi).symm)
theorem det_zero {m p : Nat} (v : Nat → Nat → Rat) (hp : p < m) : det m (put v p fun _ => 0) = 0 := by
  have := det_lin 0 0 (fun _ => 0) (fun _ => 0) v hp
  simp only [Rat.zero_mul, Rat.zero_add] at this
  exact this
theorem det_sum {m p : Nat} (v : Nat → Nat → Rat) (hp : p < m) (x : Nat → Rat) (u : Nat → Nat → Rat) : ∀ n, det m (put v p fun i => S n fun j => x j * u j i) = S n fun j => x j * det m (put v p (u j))
  | 0 => by simp only [S]; exact det_zero v hp
  | n + 1 => by
    have := det_lin 1 (x n) (fun i => S n fun j => x j * u j i) (u n) v hp
    simp only [S]
    rw [← det_sum v hp x u n]
    simp only [Rat.one_mul] at this
    exact this
/-- Cramer's rule. -/
theorem cramer {m p : Nat} (v : Nat → Nat → Rat) (hp : p < m) (x y : Nat → Rat) (h : ∀ i, i < m → y i = S m fun j => x j * v j i) : det m (put v p y) = x p * det m v := by
  have e : det m (put v p y) = det m (put v p fun i => S m fun j => x j * v j i) := det_congr fun j i hj hi => by
    unfold put; split
    · exact h i hi
    · rfl
  rw [e, det_sum v hp, S_single hp, put_self]
  intro j hj hjp
  rw [det_same (p := p) (q := j) _ hp hj (Ne.symm hjp) (fun i hi => by simp [put, hjp])]
  grind
def isInt (q : Rat) : Prop := ∃ z : Int, q = z
theorem isInt_add {a b : Rat} : isInt a → isInt b → isInt (a + b) := fun ⟨x, hx⟩ ⟨y, hy⟩ => ⟨x + y, by rw [hx, hy, Rat.intCast_add]⟩
theorem isInt_mul {a b : Rat} : isInt a → isInt b → isInt (a * b) := fun ⟨x, hx⟩ ⟨y, hy⟩ => ⟨x * y, by rw [hx, hy, Rat.intCast_mul]⟩
theorem isInt_S {f : Nat → Rat} : ∀ {n : Nat}, (∀ i, i < n → isInt (f i)) → isInt (S n f)
  | 0, _ => ⟨0, rfl⟩
  | n + 1, h => isInt_add (isInt_S fun i hi => h i (by omega)) (h n (by omega))
theorem isInt_sg (j : Nat) : isInt (sg j) := by
  unfold sg; split
  · exact ⟨1, rfl⟩
  · exact ⟨-1, rfl⟩
theorem det_int : ∀ {m : Nat} {v : Nat → Nat → Rat}, (∀ j i, j < m → i < m → isInt (v j i)) → isInt (det m v)
  | 0, _, _ => ⟨1, rfl⟩
  | m + 1, v, h => by
    rw [det]
    refine isInt_S fun j hj => isInt_mul (isInt_mul (isInt_sg j) (h j 0 hj (by omega))) (det_int fun c i hc hi => ?_)
    unfold skip
    split
    · exact h c (i + 1) (by omega) (by omega)
    · exact h (c + 1) (i + 1) (by omega) (by omega)
/-- What a determinant can't exceed. -/
def lid (K : Nat) : Nat → Nat
  | 0 => 1
  | m + 1 => (m + 1) * (K * lid K m)
theorem S_abs {f : Nat → Rat} {B : Rat} : ∀ {n : Nat}, (∀ i, i < n → -B ≤ f i ∧ f i ≤ B) → -((n : Rat) * B) ≤ S n f ∧ S n f ≤ (n : Rat) * B
  | 0, _ => by simp [S]
  | n + 1, h => by
    have h1 := S_abs (n := n) fun i hi => h i (by omega)
    have h2 := h n (by omega)
    rw [S, show ((n + 1 : Nat) : Rat) = (n : Rat) + 1 by simp [Rat.natCast_add]]
    grind
theorem mul_abs {a b A B : Rat} (ha : -A ≤ a ∧ a ≤ A) (hb : -B ≤ b ∧ b ≤ B) : -(A * B) ≤ a * b ∧ a * b ≤ A * B := by
  have h1 : 0 ≤ (A - a) * (B + b) := Rat.mul_nonneg (by grind) (by grind)
  have h2 : 0 ≤ (A + a) * (B - b) := Rat.mul_nonneg (by grind) (by grind)
  have h3 : 0 ≤ (A - a) * (B - b) := Rat.mul_nonneg (by grind) (by grind)
  have h4 : 0 ≤ (A + a) * (B + b) := Rat.mul_nonneg (by grind) (by grind)
  constructor <;> grind
theorem det_le {K : Nat} : ∀ {m : Nat} {v : Nat → Nat → Rat}, (∀ j i, j < m → i < m → -(K : Rat) ≤ v j i ∧ v j i ≤ K) → -(lid K m : Rat) ≤ det m v ∧ det m v ≤ lid K m
  | 0, _, _ => by simp [det, lid]; decide
  | m + 1, v, h => by
    rw [det, lid, Rat.natCast_mul, Rat.natCast_mul]
    refine S_abs fun j hj => ?_
    have h1 := h j 0 hj (by omega)
    have h2 : -(lid K m : Rat) ≤ det m (skip v j) ∧ det m (skip v j) ≤ lid K m := det_le fun c i hc hi => by
      unfold skip
      split
      · exact h c (i + 1) (by omega) (by omega)
      · exact h (c + 1) (i + 1) (by omega) (by omega)
    refine mul_abs ?_ h2
    unfold sg
    split <;> grind
theorem det_id : ∀ (m : Nat) (v : Nat → Nat → Rat), (∀ j i, j < m → i < m → v j i = if j = i then 1 else 0) → det m v = 1
  | 0, _, _ => rfl
  | m + 1, v, h => by
    rw [det, S_single (k := 0) (by omega)]
    · rw [h 0 0 (by omega) (by omega), if_pos rfl, det_id m (skip v 0) fun c i hc hi => ?_]
      · simp [sg]
      · unfold skip
        rw [if_neg (by omega), h (c + 1) (i + 1) (by omega) (by omega)]
        by_cases e : c = i
        · rw [if_pos e, if_pos (by omega)]
        · rw [if_neg e, if_neg (by omega)]
    · intro j hj h0
      rw [h j 0 hj (by omega), if_neg h0]
      grind
end Go.Proofs.YticmgmemnpcbbaaGreat.Lp

namespace Go.Proofs.YticmgmemnpcbbaaGreat.Lp
set_option linter.unusedSimpArgs false
set_option linter.unusedVariables false

structure Tab where
  X : Nat → Nat → Rat
  bs : Nat → Nat
/-- Column k becomes the basic one of row r. -/
def piv (t : Tab) (r k : Nat) : Tab := ⟨fun i c => if i = r then t.X r c / t.X r k else t.X i c - t.X i k * (t.X r c / t.X r k), fun i => if i = r then k else t.bs i⟩
/-- A tableau of m rows that belongs to the rows E. -/
structure TI (m : Nat) (E : Nat → Nat → Rat) (t : Tab) : Prop where
  row : ∀ i, i < m → ∃ U : Nat → Rat, ∀ c, t.X i c = S m fun l => U l * E l c
  col : ∀ l, l < m → ∀ c, E l c = S m fun i => t.X i c * E l (t.bs i)
  unit : ∀ i j, i < m → j < m → t.X i (t.bs j) = if i = j then 1 else 0
theorem piv_r (t : Tab) (r k c : Nat) : (piv t r k).X r c = t.X r c / t.X r k := by simp [piv]
theorem piv_i (t : Tab) {r i : Nat} (k c : Nat) (h : i ≠ r) : (piv t r k).X i c = t.X i c - t.X i k * (t.X r c / t.X r k) := by simp [piv, h]
theorem piv_bs_r (t : Tab) (r k : Nat) : (piv t r k).bs r = k := by simp [piv]
theorem piv_bs_i (t : Tab) {r i : Nat} (k : Nat) (h : i ≠ r) : (piv t r k).bs i = t.bs i := by simp [piv, h]
/-- A sum over the rows behind a pivot. -/
theorem piv_sum {m : Nat} (t : Tab) {r k : Nat} (hr : r < m) (hp : t.X r k ≠ 0) (g : Nat → Rat) (c : Nat) :
    S m (fun i => (piv t r k).X i c * g ((piv t r k).bs i)) = S m (fun i => t.X i c * g (t.bs i)) - (t.X r c / t.X r k) * (S m (fun i => t.X i k * g (t.bs i)) - g k) := by
  have e : S m (fun i => (piv t r k).X i c * g ((piv t r k).bs i)) = S m (fun i => (t.X i c * g (t.bs i) - (t.X r c / t.X r k) * (t.X i k * g (t.bs i))) + if i = r then (t.X r c / t.X r k) * g k else 0) := S_congr fun i hi => by
    by_cases h : i = r
    · subst h
      rw [piv_r, piv_bs_r, if_pos rfl]
      grind
    · rw [piv_i t k c h, piv_bs_i t k h, if_neg h]
      grind
  rw [e, S_add, S_sub, S_mul, S_single (f := fun i => if i = r then (t.X r c / t.X r k) * g k else 0) hr (fun i _ h => if_neg h), if_pos rfl]
  grind
theorem TI.piv {m : Nat} {E : Nat → Nat → Rat} {t : Tab} (h : TI m E t) {r k : Nat} (hr : r < m) (hp : t.X r k ≠ 0) : TI m E (piv t r k) := by
  refine ⟨fun i hi => ?_, fun l hl c => ?_, fun i j hi hj => ?_⟩
  · obtain ⟨V, hV⟩ := h.row r hr
    by_cases e : i = r
    · subst e
      refine ⟨fun l => V l / t.X i k, fun c => ?_⟩
      rw [piv_r, hV c]
      rw [show (fun l => V l / t.X i k * E l c) = fun l => (t.X i k)⁻¹ * (V l * E l c) from funext fun l => by grind, S_mul]
      grind
    · obtain ⟨U, hU⟩ := h.row i hi
      refine ⟨fun l => U l - t.X i k / t.X r k * V l, fun c => ?_⟩
      rw [piv_i t k c e, hU c, hV c]
      rw [show (fun l => (U l - t.X i k / t.X r k * V l) * E l c) = fun l => U l * E l c - (t.X i k / t.X r k) * (V l * E l c) from funext fun l => by grind, S_sub, S_mul]
      grind
  · rw [piv_sum t hr hp (fun x => E l x) c, ← h.col l hl c, ← h.col l hl k]
    grind
  · by_cases ej : j = r
    · subst ej
      rw [piv_bs_r]
      by_cases ei : i = j
      · subst ei; rw [piv_r, if_pos rfl]; grind
      · rw [piv_i t k k ei, if_neg ei]; grind
    · rw [piv_bs_i t k ej]
      have hrj := h.unit r j hr hj
      rw [if_neg (Ne.symm ej)] at hrj
      by_cases ei : i = r
      · subst ei; rw [piv_r, if_neg (Ne.symm ej), hrj]; grind
      · rw [piv_i t k _ ei, h.unit i j hi hj, hrj]; grind
theorem TI.cross {m : Nat} {E : Nat → Nat → Rat} {t t' : Tab} (h : TI m E t) (h' : TI m E t') {i : Nat} (hi : i < m) (c : Nat) : t'.X i c = S m fun j => t.X j c * t'.X i (t.bs j) := by
  obtain ⟨U, hU⟩ := h'.row i hi
  rw [hU c]
  have e1 : S m (fun l => U l * E l c) = S m fun l => S m fun j => t.X j c * (U l * E l (t.bs j)) := S_congr fun l hl => by
    rw [h.col l hl c, ← S_mul]
    exact S_congr fun j _ => by grind
  rw [e1, S_swap]
  refine S_congr fun j hj => ?_
  rw [S_mul, hU (t.bs j)]
theorem TI.uniq {m : Nat} {E : Nat → Nat → Rat} {t t' : Tab} (h : TI m E t) (h' : TI m E t') (hb : ∀ i, i < m → t.bs i = t'.bs i) {i : Nat} (hi : i < m) (c : Nat) : t'.X i c = t.X i c := by
  rw [h.cross h' hi c, S_single hi]
  · rw [hb i hi, h'.unit i i hi hi, if_pos rfl]; grind
  · intro j hj hne
    rw [hb j hj, h'.unit i j hi hj, if_neg (Ne.symm hne)]; grind
theorem TI.inj {m : Nat} {E : Nat → Nat → Rat} {t : Tab} (h : TI m E t) {i j : Nat} (hi : i < m) (hj : j < m) (e : t.bs i = t.bs j) : i = j := by
  have h1 := h.unit i i hi hi
  have h2 := h.unit i j hi hj
  rw [← e, h1] at h2
  by_cases hij : i = j
  · exact hij
  · rw [if_pos rfl, if_neg hij] at h2; exact absurd h2 (by decide)
/-- What an objective gains by a column. -/
def rc (m : Nat) (w : Nat → Rat) (t : Tab) (c : Nat) : Rat := w c - S m fun i => t.X i c * w (t.bs i)
theorem rc_basic {m : Nat} {E : Nat → Nat → Rat} {t : Tab} (h : TI m E t) (w : Nat → Rat) {j : Nat} (hj : j < m) : rc m w t (t.bs j) = 0 := by
  unfold rc
  rw [S_single hj, h.unit j j hj hj, if_pos rfl]
  · grind
  · intro i hi hne
    rw [h.unit i j hi hj, if_neg hne]; grind
theorem rc_piv {m : Nat} (w : Nat → Rat) (t : Tab) {r k : Nat} (hr : r < m) (hp : t.X r k ≠ 0) (c : Nat) : rc m w (piv t r k) c = rc m w t c - rc m w t k * (t.X r c / t.X r k) := by
  unfold rc
  rw [piv_sum t hr hp w c]
  grind
theorem rc_cross {m : Nat} {E : Nat → Nat → Rat} {t t' : Tab} (h : TI m E t) (h' : TI m E t') (w : Nat → Rat) (c : Nat) : rc m w t' c = rc m w t c + S m fun i => t.X i c * rc m w t' (t.bs i) := by
  unfold rc
  have e1 : S m (fun i => t.X i c * (w (t.bs i) - S m fun j => t'.X j (t.bs i) * w (t'.bs j))) = S m (fun i => t.X i c * w (t.bs i)) - S m fun j => t'.X j c * w (t'.bs j) := by
    rw [show (fun i => t.X i c * (w (t.bs i) - S m fun j => t'.X j (t.bs i) * w (t'.bs j))) = fun i => t.X i c * w (t.bs i) - S m fun j => t.X i c * t'.X j (t.bs i) * w (t'.bs j) from funext fun i => by
      rw [← show t.X i c * (S m fun j => t'.X j (t.bs i) * w (t'.bs j)) = S m fun j => t.X i c * t'.X j (t.bs i) * w (t'.bs j) from by
        rw [← S_mul]; exact S_congr fun j _ => by grind]
      grind, S_sub, S_swap]
    congr 1
    refine S_congr fun j hj => ?_
    rw [h.cross h' hj c, ← S_mul_r]
  rw [e1]
  grind
/-! ### Solutions -/
def Sol (m N : Nat) (X : Nat → Nat → Rat) (b : Nat) (x : Nat → Rat) : Prop := ∀ i, i < m → S N (fun c => X i c * x c) = X i b
theorem sol_iff {m : Nat} {E : Nat → Nat → Rat} {t : Tab} (h : TI m E t) (N b : Nat) (x : Nat → Rat) : Sol m N E b x ↔ Sol m N t.X b x := by
  constructor
  · intro hE i hi
    obtain ⟨U, hU⟩ := h.row i hi
    have e : S N (fun c => t.X i c * x c) = S m fun l => U l * S N fun c => E l c * x c := by
      rw [show (fun c => t.X i c * x c) = fun c => S m fun l => U l * E l c * x c from funext fun c => by rw [hU c, ← S_mul_r], S_swap]
      refine S_congr fun l _ => ?_
      rw [← S_mul]
      exact S_congr fun c _ => by grind
    rw [e, hU b]
    exact S_congr fun l hl => by rw [hE l hl]
  · intro hX l hl
    have e : S N (fun c => E l c * x c) = S m fun i => (S N fun c => t.X i c * x c) * E l (t.bs i) := by
      rw [show (fun c => E l c * x c) = fun c => S m fun i => t.X i c * E l (t.bs i) * x c from funext fun c => by rw [h.col l hl c, ← S_mul_r], S_swap]
      refine S_congr fun i _ => ?_
      rw [← S_mul_r]
      exact S_congr fun c _ => by grind
    rw [e, h.col l hl b]
    exact S_congr fun i hi => by rw [hX i hi]

/-! ### The order by the first that differs -/
def lpos (Q : Nat) (v : Nat → Rat) : Prop := ∃ q, q < Q ∧ 0 < v q ∧ ∀ j, j < q → v j = 0
def lzero (Q : Nat) (v : Nat → Rat) : Prop := ∀ q, q < Q → v q = 0
theorem ltri : ∀ (Q : Nat) (v : Nat → Rat), lpos Q v ∨ lzero Q v ∨ lpos Q fun q => - v q
  | 0, v => .inr (.inl fun q hq => by omega)
  | Q + 1, v => by
    rcases ltri Q v with ⟨q, h1, h2, h3⟩ | h | ⟨q, h1, h2, h3⟩
    · exact .inl ⟨q, by omega, h2, h3⟩
    · by_cases h0 : 0 < v Q
      · exact .inl ⟨Q, by omega, h0, fun j hj => h j hj⟩
      · by_cases h1 : v Q = 0
        · refine .inr (.inl fun q hq => ?_)
          by_cases e : q = Q
          · rw [e]; exact h1
          · exact h q (by omega)
        · exact .inr (.inr ⟨Q, by omega, by grind, fun j hj => by have := h j hj; grind⟩)
    · exact .inr (.inr ⟨q, by omega, h2, h3⟩)
theorem lpos_not_zero {Q : Nat} {v : Nat → Rat} (h : lpos Q v) (h0 : lzero Q v) : False := by
  obtain ⟨q, h1, h2, _⟩ := h
  rw [h0 q h1] at h2
  exact absurd h2 (by decide)
theorem lpos_not_neg {Q : Nat} {v : Nat → Rat} (h : lpos Q v) (h' : lpos Q fun q => - v q) : False := by
  obtain ⟨q, h1, h2, h3⟩ := h
  obtain ⟨q', h1', h2', h3'⟩ := h'
  rcases Nat.lt_trichotomy q q' with h | h | h
  · have := h3' q h; grind
  · subst h; grind
  · have := h3 q' h; grind
theorem lpos_add {Q : Nat} {u v : Nat → Rat} (h : lpos Q u) (h' : lpos Q v) : lpos Q fun q => u q + v q := by
  obtain ⟨q, h1, h2, h3⟩ := h
  obtain ⟨q', h1', h2', h3'⟩ := h'
  rcases Nat.lt_trichotomy q q' with h | h | h
  · exact ⟨q, h1, by have := h3' q h; grind, fun j hj => by have := h3 j hj; have := h3' j (by omega); grind⟩
  · subst h; exact ⟨q, h1, by grind, fun j hj => by have := h3 j hj; have := h3' j hj; grind⟩
  · exact ⟨q', h1', by have := h3 q' h; grind, fun j hj => by have := h3 j (by omega); have := h3' j hj; grind⟩
theorem lpos_add0 {Q : Nat} {u v : Nat → Rat} (h : lpos Q u) (h' : lzero Q v) : lpos Q fun q => u q + v q := by
  obtain ⟨q, h1, h2, h3⟩ := h
  exact ⟨q, h1, by have := h' q h1; grind, fun j hj => by have := h3 j hj; have := h' j (by omega); grind⟩
theorem lpos_mul {Q : Nat} {v : Nat → Rat} {a : Rat} (ha : 0 < a) (h : lpos Q v) : lpos Q fun q => a * v q := by
  obtain ⟨q, h1, h2, h3⟩ := h
  exact ⟨q, h1, Rat.mul_pos ha h2, fun j hj => by have := h3 j hj; grind⟩
theorem lpos_congr {Q : Nat} {u v : Nat → Rat} (h : lpos Q u) (e : ∀ q, q < Q → u q = v q) : lpos Q v := by
  obtain ⟨q, h1, h2, h3⟩ := h
  exact ⟨q, h1, by rw [← e q h1]; exact h2, fun j hj => by rw [← e j (by omega)]; exact h3 j hj⟩
/-- Sums of what is not below zero. -/
theorem lpos_sum {Q : Nat} {f : Nat → Nat → Rat} : ∀ {n : Nat} {u : Nat → Rat}, lpos Q u → (∀ i, i < n → lpos Q (f i) ∨ lzero Q (f i)) → lpos Q fun q => u q + S n fun i => f i q
  | 0, u, h, _ => lpos_congr h fun q _ => by rw [S]; grind
  | n + 1, u, h, hf => by
    have ih := lpos_sum (n := n) h fun i hi => hf i (by omega)
    rcases hf n (by omega) with h1 | h1
    · exact lpos_congr (lpos_add ih h1) fun q _ => by rw [S]; grind
    · exact lpos_congr (lpos_add0 ih h1) fun q _ => by rw [S]; grind
end Go.Proofs.YticmgmemnpcbbaaGreat.Lp

namespace Go.Proofs.YticmgmemnpcbbaaGreat.Lp
set_option linter.unusedSimpArgs false
set_option linter.unusedVariables false

/-- A step by Bland's rule: b the right side, w the objectives (the first counts most), F the columns that may enter. -/
structure Step (m b Q : Nat) (w : Nat → Nat → Rat) (F : Nat → Prop) (t : Tab) (r k : Nat) : Prop where
  hF : F k
  pos : lpos Q fun q => rc m (w q) t k
  first : ∀ j, F j → j < k → ¬ lpos Q fun q => rc m (w q) t j
  hr : r < m
  prk : 0 < t.X r k
  min : ∀ i, i < m → 0 < t.X i k → t.X r b * t.X i k ≤ t.X i b * t.X r k
  tie : ∀ i, i < m → 0 < t.X i k → t.X i b * t.X r k = t.X r b * t.X i k → t.bs r ≤ t.bs i
theorem rle_lt (a b : Rat) : a ≤ b ∨ b < a := by grind
theorem div_nn {a b : Rat} (ha : 0 ≤ a) (hb : 0 < b) : 0 ≤ a / b := by
  rcases rle_lt 0 (a / b) with h | h
  · exact h
  · have h1 : 0 < (- (a / b)) * b := Rat.mul_pos (by grind) hb
    have h2 : a / b * b = a := by grind
    grind
theorem div_p {a b : Rat} (ha : 0 < a) (hb : 0 < b) : 0 < a / b := by
  rcases rle_lt (a / b) 0 with h | h
  · have h1 : 0 ≤ (- (a / b)) * b := Rat.mul_nonneg (by grind) (by grind)
    have h2 : a / b * b = a := by grind
    grind
  · exact h
theorem Step.rhs {m b Q : Nat} {w : Nat → Nat → Rat} {F : Nat → Prop} {t : Tab} {r k : Nat} (h : Step m b Q w F t r k) (hb : ∀ i, i < m → 0 ≤ t.X i b) : ∀ i, i < m → 0 ≤ (piv t r k).X i b := by
  intro i hi
  have hr := hb r h.hr
  have hth := div_nn hr h.prk
  by_cases e : i = r
  · subst e; rw [piv_r]; exact hth
  · rw [piv_i t k b e]
    have hpk := h.prk
    have h2 : t.X r b / t.X r k * t.X r k = t.X r b := by grind
    generalize t.X r b / t.X r k = θ at *
    by_cases hp : 0 < t.X i k
    · have h1 := h.min i hi hp
      rw [← h2] at h1
      rcases rle_lt 0 (t.X i b - t.X i k * θ) with h4 | h4
      · exact h4
      · have := Rat.mul_pos (show 0 < -(t.X i b - t.X i k * θ) by grind) hpk
        grind
    · have h1 := hb i hi
      have h2 : 0 ≤ (- t.X i k) * θ := Rat.mul_nonneg (by grind) hth
      grind
theorem max_lt (f : Nat → Nat) : ∀ n, 0 < n → ∃ i, i < n ∧ ∀ j, j < n → f j ≤ f i
  | 1, _ => ⟨0, by omega, fun j hj => by rw [show j = 0 by omega]; exact Nat.le_refl _⟩
  | n + 2, _ => by
    obtain ⟨i, h1, h2⟩ := max_lt f (n + 1) (by omega)
    rcases Nat.lt_or_ge (f i) (f (n + 1)) with h | h
    · exact ⟨n + 1, by omega, fun j hj => by
        by_cases e : j = n + 1
        · rw [e]; exact Nat.le_refl _
        · have := h2 j (by omega); omega⟩
    · exact ⟨i, by omega, fun j hj => by
        by_cases e : j = n + 1
        · rw [e]; exact h
        · exact h2 j (by omega)⟩
theorem turn {P : Nat → Prop} {a c : Nat} (hac : a ≤ c) (ha : P a) (hc : ¬ P c) : ∃ n, a ≤ n ∧ n < c ∧ P n ∧ ¬ P (n + 1) := by
  induction c with
  | zero => exact absurd (by rw [show (0 : Nat) = a by omega]; exact ha) hc
  | succ c ih =>
    by_cases h : P c
    · exact ⟨c, by
        by_cases e : a = c + 1
        · exact absurd (e ▸ ha) hc
        · omega, by omega, h, hc⟩
    · have hac2 : a ≤ c := by
        by_cases e : a = c + 1
        · exact absurd (e ▸ ha) hc
        · omega
      obtain ⟨n, h1, h2, h3, h4⟩ := ih hac2 h
      exact ⟨n, h1, by omega, h3, h4⟩
section
variable {m b Q L : Nat} {E : Nat → Nat → Rat} {w : Nat → Nat → Rat} {F : Nat → Prop} {t : Nat → Tab} {r k : Nat → Nat}
theorem bland (hT : ∀ n, n ≤ L → TI m E (t n)) (hb : ∀ n, n ≤ L → ∀ i, i < m → 0 ≤ (t n).X i b) (hs : ∀ n, n < L → Step m b Q w F (t n) (r n) (k n)) (hn : ∀ n, n < L → t (n + 1) = piv (t n) (r n) (k n))
    (hL : 0 < L) (he : ∀ i, i < m → (t 0).bs i = (t L).bs i) : False := by
  have hne : ∀ n, n < L → (t n).X (r n) (k n) ≠ 0 := fun n h => by have := (hs n h).prk; grind
  have huq : ∀ i, i < m → ∀ c, (t L).X i c = (t 0).X i c := fun i hi c => (hT 0 (by omega)).uniq (hT L (Nat.le_refl _)) he hi c
  have hzL : ∀ q, rc m (w q) (t L) b = rc m (w q) (t 0) b := fun q => by
    unfold rc
    congr 1
    exact S_congr fun i hi => by rw [huq i hi, he i hi]
  -- the objectives never become less
  have hobj : ∀ n, n ≤ L → (lpos Q (fun q => rc m (w q) (t 0) b - rc m (w q) (t n) b) ∨ (lzero Q fun q => rc m (w q) (t 0) b - rc m (w q) (t n) b) ∧ ∀ n', n' < n → (t n').X (r n') b = 0) := by
    intro n
    induction n with
    | zero => exact fun _ => .inr ⟨fun q _ => by grind, fun n' h => by omega⟩
    | succ n ih =>
      intro hnl
      have hst := hs n (by omega)
      have hr0 := hb n (by omega) (r n) hst.hr
      have estep : ∀ q, rc m (w q) (t (n + 1)) b = rc m (w q) (t n) b - rc m (w q) (t n) (k n) * ((t n).X (r n) b / (t n).X (r n) (k n)) := fun q => by
        rw [hn n (by omega), rc_piv _ _ hst.hr (hne n (by omega))]
      by_cases hz : (t n).X (r n) b = 0
      · have e : ∀ q, rc m (w q) (t (n + 1)) b = rc m (w q) (t n) b := fun q => by rw [estep q, hz]; grind
        rcases ih (by omega) with h | ⟨h1, h2⟩
        · exact .inl (lpos_congr h fun q _ => by rw [e q])
        · exact .inr ⟨fun q hq => by have := h1 q hq; simp only at this ⊢; rw [e q]; exact this, fun n' h => by
            by_cases en : n' = n
            · rw [en]; exact hz
            · exact h2 n' (by omega)⟩
      · have hth := div_p (show 0 < (t n).X (r n) b by grind) hst.prk
        have hp := lpos_mul hth hst.pos
        refine .inl ?_
        rcases ih (by omega) with h | ⟨h1, h2⟩
        · exact lpos_congr (lpos_add h hp) fun q _ => by rw [estep q]; grind
        · exact lpos_congr (lpos_add0 hp h1) fun q _ => by rw [estep q]; grind
  have hz : ∀ n, n < L → (t n).X (r n) b = 0 := by
    rcases hobj L (Nat.le_refl _) with h | ⟨_, h⟩
    · exact absurd (fun q _ => by have := hzL q; grind) fun h0 => lpos_not_zero h h0
    · exact h
  have hconst : ∀ n, n < L → ∀ i, i < m → (t (n + 1)).X i b = (t n).X i b := fun n h i hi => by
    rw [hn n h]
    by_cases e : i = r n
    · subst e; rw [piv_r, hz n h]; grind
    · rw [piv_i _ _ _ e, hz n h]; grind
  have hbasic : ∀ n, n ≤ L → ∀ c, (∃ i, i < m ∧ (t n).bs i = c) → ¬ lpos Q fun q => rc m (w q) (t n) c := fun n h c ⟨i, hi, hc⟩ hp =>
    lpos_not_zero hp fun q _ => by rw [← hc]; exact rc_basic (hT n h) _ hi
  -- what enters and what leaves
  have hleave : ∀ n, n < L → ∀ c, (∃ i, i < m ∧ (t n).bs i = c) → ¬ (∃ i, i < m ∧ (t (n + 1)).bs i = c) → (t n).bs (r n) = c := fun n h c ⟨i, hi, hc⟩ hno => by
    by_cases e : i = r n
    · rw [← e]; exact hc
    · exact absurd ⟨i, hi, by rw [hn n h, piv_bs_i _ _ e]; exact hc⟩ hno
  have henter : ∀ n, n < L → ∀ c, ¬ (∃ i, i < m ∧ (t n).bs i = c) → (∃ i, i < m ∧ (t (n + 1)).bs i = c) → k n = c := fun n h c hno ⟨i, hi, hc⟩ => by
    rw [hn n h] at hc
    by_cases e : i = r n
    · rw [e, piv_bs_r] at hc; exact hc
    · rw [piv_bs_i _ _ e] at hc; exact absurd ⟨i, hi, hc⟩ hno
  have hcyc : ∀ c, (∃ i, i < m ∧ (t 0).bs i = c) ↔ (∃ i, i < m ∧ (t L).bs i = c) := fun c => by
    constructor
    · rintro ⟨i, hi, h⟩; exact ⟨i, hi, by rw [← he i hi]; exact h⟩
    · rintro ⟨i, hi, h⟩; exact ⟨i, hi, by rw [he i hi]; exact h⟩
  obtain ⟨n1, hn1, hmax⟩ := max_lt k L hL
  -- the last of all comes in at n1; it leaves at n0
  have hnb1 : ¬ (∃ i, i < m ∧ (t n1).bs i = k n1) := fun h => hbasic n1 (by omega) _ h (hs n1 hn1).pos
  have hbb1 : ∃ i, i < m ∧ (t (n1 + 1)).bs i = k n1 := ⟨r n1, (hs n1 hn1).hr, by rw [hn n1 hn1, piv_bs_r]⟩
  obtain ⟨n0, hn0, hl0⟩ : ∃ n0, n0 < L ∧ (t n0).bs (r n0) = k n1 := by
    by_cases h0 : ∃ i, i < m ∧ (t 0).bs i = k n1
    · obtain ⟨n, _, h2, h3, h4⟩ := turn (P := fun n => ∃ i, i < m ∧ (t n).bs i = k n1) (Nat.zero_le n1) h0 hnb1
      exact ⟨n, by omega, hleave n (by omega) _ h3 h4⟩
    · have hL0 : ¬ ∃ i, i < m ∧ (t L).bs i = k n1 := fun h => h0 ((hcyc _).2 h)
      obtain ⟨n, _, h2, h3, h4⟩ := turn (P := fun n => ∃ i, i < m ∧ (t n).bs i = k n1) (show n1 + 1 ≤ L by omega) hbb1 hL0
      exact ⟨n, by omega, hleave n (by omega) _ h3 h4⟩
  have hst0 := hs n0 hn0
  have hst1 := hs n1 hn1
  have hT0 := hT n0 (by omega)
  have hT1 := hT n1 (by omega)
  have hs1 : k n0 < k n1 := by
    rcases Nat.lt_or_ge (k n0) (k n1) with h | h
    · exact h
    · have e : k n0 = k n1 := by have := hmax n0 hn0; omega
      exact absurd hst0.pos (hbasic n0 (by omega) _ ⟨r n0, hst0.hr, by rw [hl0, e]⟩)
  have hnp := hst1.first (k n0) hst0.hF hs1
  -- some term is below zero
  have hex : ∃ i, i < m ∧ lpos Q fun q => - ((t n0).X i (k n0) * rc m (w q) (t n1) ((t n0).bs i)) := by
    rcases Classical.em (∃ i, i < m ∧ lpos Q fun q => - ((t n0).X i (k n0) * rc m (w q) (t n1) ((t n0).bs i))) with h | h
    · exact h
    · refine absurd ?_ hnp
      have := lpos_sum (n := m) (f := fun i q => (t n0).X i (k n0) * rc m (w q) (t n1) ((t n0).bs i)) hst0.pos fun i hi => by
        rcases ltri Q fun q => (t n0).X i (k n0) * rc m (w q) (t n1) ((t n0).bs i) with h1 | h1 | h1
        · exact .inl h1
        · exact .inr h1
        · exact absurd ⟨i, hi, h1⟩ h
      exact lpos_congr this fun q _ => (rc_cross hT0 hT1 (w q) (k n0)).symm
  obtain ⟨i, hi, hneg⟩ := hex
  obtain ⟨c, hc⟩ : ∃ c, (t n0).bs i = c := ⟨_, rfl⟩
  rw [hc] at hneg
  have hnb : ¬ (∃ j, j < m ∧ (t n1).bs j = c) := fun ⟨j, hj, h⟩ => by
    refine lpos_not_zero hneg fun q _ => ?_
    rw [← h, rc_basic hT1 _ hj]; grind
  have hfick : ∃ n, n < L ∧ k n = c := by
    have hin : ∃ j, j < m ∧ (t n0).bs j = c := ⟨i, hi, hc⟩
    have go : ∀ a e, a ≤ e → e ≤ L → ¬ (∃ j, j < m ∧ (t a).bs j = c) → (∃ j, j < m ∧ (t e).bs j = c) → ∃ n, n < L ∧ k n = c := fun a e h1 h2 h3 h4 => by
      obtain ⟨n, _, g2, g3, g4⟩ := turn (P := fun n => ¬ ∃ j, j < m ∧ (t n).bs j = c) h1 h3 (fun h => h h4)
      exact ⟨n, by omega, henter n (by omega) c g3 (Classical.not_not.1 g4)⟩
    rcases Nat.lt_or_ge n1 n0 with h | h
    · exact go n1 n0 (by omega) (by omega) hnb hin
    · by_cases h0 : ∃ j, j < m ∧ (t 0).bs j = c
      · exact go n1 L (by omega) (Nat.le_refl _) hnb ((hcyc c).1 h0)
      · exact go 0 n0 (by omega) (by omega) h0 hin
  obtain ⟨nc, hnc, hkc⟩ := hfick
  have hcle : c ≤ k n1 := by rw [← hkc]; exact hmax nc hnc
  -- its value is zero
  have hval : ∀ n, n ≤ L → ∀ j, j < m → (t n).bs j = c → (t n).X j b = 0 := by
    have fwd : ∀ n, n < L → (∀ j, j < m → (t n).bs j = c → (t n).X j b = 0) → ∀ j, j < m → (t (n + 1)).bs j = c → (t (n + 1)).X j b = 0 := fun n h ih j hj hbj => by
      rw [hconst n h j hj]
      by_cases e : j = r n
      · rw [e]; exact hz n h
      · rw [hn n h, piv_bs_i _ _ e] at hbj; exact ih j hj hbj
    have bwd : ∀ n, n < L → (∀ j, j < m → (t (n + 1)).bs j = c → (t (n + 1)).X j b = 0) → ∀ j, j < m → (t n).bs j = c → (t n).X j b = 0 := fun n h ih j hj hbj => by
      by_cases e : j = r n
      · rw [e]; exact hz n h
      · rw [← hconst n h j hj]
        exact ih j hj (by rw [hn n h, piv_bs_i _ _ e]; exact hbj)
    have h1 : ∀ j, j < m → (t n1).bs j = c → (t n1).X j b = 0 := fun j hj h => absurd ⟨j, hj, h⟩ hnb
    intro n hnL
    rcases Nat.le_total n n1 with h | h
    · have : ∀ d, d ≤ n1 → ∀ j, j < m → (t (n1 - d)).bs j = c → (t (n1 - d)).X j b = 0 := by
        intro d
        induction d with
        | zero => exact fun _ => h1
        | succ d ih =>
          intro hd
          refine bwd (n1 - (d + 1)) (by omega) ?_
          rw [show n1 - (d + 1) + 1 = n1 - d by omega]
          exact ih (by omega)
      have := this (n1 - n) (by omega)
      rwa [show n1 - (n1 - n) = n by omega] at this
    · have : ∀ d, n1 + d ≤ L → ∀ j, j < m → (t (n1 + d)).bs j = c → (t (n1 + d)).X j b = 0 := by
        intro d
        induction d with
        | zero => exact fun _ => h1
        | succ d ih => exact fun hd => fwd (n1 + d) (by omega) (ih (by omega))
      have := this (n - n1) (by omega)
      rwa [show n1 + (n - n1) = n by omega] at this
  have hxi : (t n0).X i b = 0 := hval n0 (by omega) i hi hc
  have hFc : F c := by rw [← hkc]; exact (hs nc hnc).hF
  have hx0 : (t n0).X i (k n0) ≠ 0 := fun h => lpos_not_zero hneg fun q _ => by rw [h]; grind
  have hsgn : (0 < (t n0).X i (k n0)) ∧ c ≠ k n1 := by
    rcases rle_lt ((t n0).X i (k n0)) 0 with h | h
    · -- then the gain of c is above zero
      have hp : lpos Q fun q => rc m (w q) (t n1) c := by
        have := lpos_mul (div_p (show (0 : Rat) < 1 by decide) (show 0 < - (t n0).X i (k n0) by grind)) hneg
        exact lpos_congr this fun q _ => by grind
      have hge : ¬ c < k n1 := fun hl => hst1.first c hFc hl hp
      have e : c = k n1 := by omega
      have : i = r n0 := hT0.inj hi hst0.hr (by rw [hc, hl0, e])
      rw [this] at h
      have := hst0.prk
      grind
    · refine ⟨h, fun e => ?_⟩
      have hp := lpos_mul h hst1.pos
      rw [e] at hneg
      exact lpos_not_neg hp hneg
  have htie := hst0.tie i hi hsgn.1 (by rw [hxi, hz n0 hn0]; grind)
  rw [hl0, hc] at htie
  omega
end
/-! ### Finitely many bases -/
theorem pigeon {α : Type} [DecidableEq α] : ∀ (l : List α) (f : Nat → α), (∀ n, n ≤ l.length → f n ∈ l) → ∃ a b, a < b ∧ b ≤ l.length ∧ f a = f b
  | [], f, h => absurd (h 0 (Nat.le_refl _)) (by simp)
  | x :: l, f, h => by
    rcases Classical.em (∃ n0, n0 ≤ l.length + 1 ∧ f n0 = x) with ⟨n0, h0, hx⟩ | hno
    · rcases Classical.em (∃ n1, n1 ≤ l.length + 1 ∧ n1 ≠ n0 ∧ f n1 = x) with ⟨n1, h1, hne, hx1⟩ | hno
      · rcases Nat.lt_or_gt_of_ne hne with h | h
        · exact ⟨n1, n0, h, by simpa using h0, by rw [hx, hx1]⟩
        · exact ⟨n0, n1, h, by simpa using h1, by rw [hx, hx1]⟩
      · obtain ⟨a, b, h1, h2, h3⟩ := pigeon l (fun n => if n < n0 then f n else f (n + 1)) fun n hn => by
          have hm : ∀ k, k ≤ l.length + 1 → k ≠ n0 → f k ∈ l := fun k hk hkn => by
            have := h k (by simpa using hk)
            rcases List.mem_cons.1 this with e | e
            · exact absurd ⟨k, hk, hkn, e⟩ hno
            · exact e
          split
          · exact hm n (by omega) (by omega)
          · exact hm (n + 1) (by omega) (by omega)
        by_cases ha : a < n0
        · by_cases hb : b < n0
          · simp only [ha, hb, if_true] at h3
            exact ⟨a, b, h1, by simp; omega, h3⟩
          · simp only [ha, hb, if_true, if_false] at h3
            exact ⟨a, b + 1, by omega, by simp; omega, h3⟩
        · simp only [ha, show ¬ b < n0 by omega, if_false] at h3
          exact ⟨a + 1, b + 1, by omega, by simp; omega, h3⟩
    · obtain ⟨a, b, h1, h2, h3⟩ := pigeon l f fun n hn => by
        rcases List.mem_cons.1 (h n (by simp; omega)) with e | e
        · exact absurd ⟨n, by omega, e⟩ hno
        · exact e
      exact ⟨a, b, h1, by simp; omega, h3⟩
/-- All lists of a length of numbers below a bound. -/
def allL (N : Nat) : Nat → List (List Nat)
  | 0 => [[]]
  | m + 1 => (allL N m).flatMap fun l => (List.range N).map fun x => l ++ [x]
theorem allL_mem (N : Nat) (f : Nat → Nat) : ∀ m, (∀ i, i < m → f i < N) → (List.range m).map f ∈ allL N m
  | 0, _ => by simp [allL]
  | m + 1, h => by
    rw [allL, List.mem_flatMap]
    exact ⟨_, allL_mem N f m fun i hi => h i (by omega), List.mem_map.2 ⟨f m, by simpa using h m (by omega), by simp [List.range_succ]⟩⟩
/-- A run by a rule that takes steps by Bland's. -/
def orb (nx : Tab → Option (Nat × Nat)) (t : Tab) : Nat → Tab
  | 0 => t
  | n + 1 => match nx (orb nx t n) with
    | some (r, k) => piv (orb nx t n) r k
    | none => orb nx t n
end Go.Proofs.YticmgmemnpcbbaaGreat.Lp

namespace Go.Proofs.YticmgmemnpcbbaaGreat.Lp
set_option linter.unusedSimpArgs false
set_option linter.unusedVariables false

/-- Numbers that a program's rows allow. -/
structure Feas (n m : Nat) (E : Nat → Nat → Rat) (b : Nat) (x : Nat → Rat) : Prop where
  nn : ∀ c, c < n → 0 ≤ x c
  sol : Sol m n E b x
def dot (n : Nat) (w x : Nat → Rat) : Rat := S n fun c => w c * x c
/-- An objective through the gains. -/
theorem obj_id {n m b : Nat} (w : Nat → Rat) (t : Tab) {x : Nat → Rat} (h : Sol m n t.X b x) : dot n w x = dot n (rc m w t) x - rc m w t b + w b := by
  have e : dot n (rc m w t) x = dot n w x - S m fun i => w (t.bs i) * S n fun c => t.X i c * x c := by
    unfold dot rc
    rw [show (fun c => (w c - S m fun i => t.X i c * w (t.bs i)) * x c) = fun c => w c * x c - S m fun i => w (t.bs i) * (t.X i c * x c) from funext fun c => by
      rw [show (S m fun i => w (t.bs i) * (t.X i c * x c)) = (S m fun i => t.X i c * w (t.bs i)) * x c by rw [← S_mul_r]; exact S_congr fun i _ => by grind]
      grind, S_sub, S_swap]
    congr 1
    exact S_congr fun i _ => by rw [S_mul]
  have e2 : (S m fun i => w (t.bs i) * S n fun c => t.X i c * x c) = S m fun i => t.X i b * w (t.bs i) := S_congr fun i hi => by rw [h i hi]; grind
  rw [e, e2]
  unfold rc
  grind
/-- The numbers of the basic columns; the others are 0. -/
def xb (m b : Nat) (t : Tab) (c : Nat) : Rat := S m fun i => if t.bs i = c then t.X i b else 0
theorem xb_nn {m b : Nat} {t : Tab} (h : ∀ i, i < m → 0 ≤ t.X i b) (c : Nat) : 0 ≤ xb m b t c := S_nonneg fun i hi => by
  split
  · exact h i hi
  · exact Rat.le_refl
/-- A sum over columns of what only stands in basic ones. -/
theorem sum_ind {n m : Nat} (bs : Nat → Nat) (f g : Nat → Rat) (hz : ∀ i, i < m → ¬ bs i < n → f i = 0) : (S n fun c => g c * S m fun i => if bs i = c then f i else 0) = S m fun i => f i * g (bs i) := by
  rw [show (fun c => g c * S m fun i => if bs i = c then f i else 0) = fun c => S m fun i => if bs i = c then f i * g c else 0 from funext fun c => by
    rw [← S_mul]
    exact S_congr fun i _ => by split <;> grind, S_swap]
  refine S_congr fun i hi => ?_
  by_cases h : bs i < n
  · rw [S_single h, if_pos rfl]
    intro c hc hne
    rw [if_neg (Ne.symm hne)]
  · rw [S_zero, hz i hi h]
    · grind
    · intro c hc
      rw [if_neg (by omega)]
theorem xb_sol {n m b : Nat} {E : Nat → Nat → Rat} {t : Tab} (h : TI m E t) (hz : ∀ i, i < m → ¬ t.bs i < n → t.X i b = 0) : Sol m n t.X b (xb m b t) := by
  intro i hi
  unfold xb
  rw [sum_ind t.bs (fun j => t.X j b) (t.X i) hz, S_single hi, h.unit i i hi hi, if_pos rfl]
  · grind
  · intro j hj hne
    rw [h.unit i j hi hj, if_neg (Ne.symm hne)]; grind
theorem xb_feas {n m b : Nat} {E : Nat → Nat → Rat} {t : Tab} (h : TI m E t) (hb : ∀ i, i < m → 0 ≤ t.X i b) (hz : ∀ i, i < m → ¬ t.bs i < n → t.X i b = 0) : Feas n m E b (xb m b t) :=
  ⟨fun c _ => xb_nn hb c, (sol_iff h n b _).2 (xb_sol h hz)⟩
/-! ### The first phase -/
def wart (n m : Nat) (c : Nat) : Rat := if n ≤ c ∧ c < n + m then -1 else 0
theorem rc_wart_b {n m b : Nat} {t : Tab} (hb : b = n + m) : rc m (wart n m) t b = S m fun i => if n ≤ t.bs i ∧ t.bs i < n + m then t.X i b else 0 := by
  unfold rc
  rw [show wart n m b = 0 by unfold wart; rw [if_neg (by omega)]]
  rw [show (fun i => if n ≤ t.bs i ∧ t.bs i < n + m then t.X i b else 0) = fun i => (-1) * (t.X i b * wart n m (t.bs i)) from funext fun i => by
    unfold wart; split <;> grind, S_mul]
  grind
/-- The first phase has ended and an artificial column is not 0: nothing is allowed. -/
theorem phase1_no {n m b : Nat} {E : Nat → Nat → Rat} {t : Tab} (hb : b = n + m) (h : TI m E t) (hnn : ∀ i, i < m → 0 ≤ t.X i b) (hend : ∀ c, c < n → rc m (wart n m) t c ≤ 0) (hp : 0 < rc m (wart n m) t b) (x : Nat → Rat) : ¬ Feas n m E b x := by
  intro hx
  have h1 := obj_id (wart n m) t ((sol_iff h n b x).1 hx.sol)
  have h2 : dot n (wart n m) x = 0 := S_zero fun c hc => by unfold wart; rw [if_neg (by omega)]; grind
  have h3 : wart n m b = 0 := by unfold wart; rw [if_neg (by omega)]
  have h4 : dot n (rc m (wart n m) t) x ≤ 0 := by
    have : 0 ≤ S n fun c => - rc m (wart n m) t c * x c := S_nonneg fun c hc => Rat.mul_nonneg (by have := hend c hc; grind) (hx.nn c hc)
    have e : (S n fun c => - rc m (wart n m) t c * x c) = (-1) * dot n (rc m (wart n m) t) x := by
      unfold dot; rw [← S_mul]; exact S_congr fun c _ => by grind
    grind
  grind
theorem art_zero {n m b : Nat} {t : Tab} (hb : b = n + m) (hnn : ∀ i, i < m → 0 ≤ t.X i b) (hz : rc m (wart n m) t b = 0) (hlt : ∀ i, i < m → t.bs i < n + m) : ∀ i, i < m → ¬ t.bs i < n → t.X i b = 0 := by
  intro i hi hge
  rw [rc_wart_b hb] at hz
  rcases rle_lt (t.X i b) 0 with h | h
  · have := hnn i hi; grind
  · have := S_pos (f := fun i => if n ≤ t.bs i ∧ t.bs i < n + m then t.X i b else 0) (k := i) (n := m) (fun j hj => by
      split
      · exact hnn j hj
      · exact Rat.le_refl) hi (by
        have := hlt i hi
        rw [if_pos (by omega)]; exact h)
    grind
/-! ### The best -/
/-- What counts first is C, then that each number is little, one after the other. -/
def wl (C : Nat → Rat) : Nat → Nat → Rat
  | 0 => C
  | q + 1 => fun c => if c = q then -1 else 0
/-- The first of the best. -/
def Best (n m : Nat) (E : Nat → Nat → Rat) (b : Nat) (C x : Nat → Rat) : Prop := Feas n m E b x ∧ ∀ y, Feas n m E b y → ¬ lpos (n + 1) fun q => dot n (wl C q) y - dot n (wl C q) x
/-- No column helps: it is the best. -/
theorem best_end {n m b : Nat} {E : Nat → Nat → Rat} {t : Tab} {C : Nat → Rat} (h : TI m E t) (hb : ∀ i, i < m → 0 ≤ t.X i b) (hz : ∀ i, i < m → ¬ t.bs i < n → t.X i b = 0) (hend : ∀ c, c < n → ¬ lpos (n + 1) fun q => rc m (wl C q) t c) : Best n m E b C (xb m b t) := by
  have hf := xb_feas h hb hz
  refine ⟨hf, fun y hy hp => ?_⟩
  have h1 : ∀ q, dot n (wl C q) y - dot n (wl C q) (xb m b t) = S n fun c => y c * rc m (wl C q) t c := fun q => by
    have e1 := obj_id (wl C q) t ((sol_iff h n b y).1 hy.sol)
    have e2 := obj_id (wl C q) t ((sol_iff h n b _).1 hf.sol)
    have e3 : dot n (rc m (wl C q) t) (xb m b t) = 0 := by
      unfold dot xb
      rw [sum_ind t.bs (fun j => t.X j b) (rc m (wl C q) t) hz]
      exact S_zero fun i hi => by rw [rc_basic h _ hi]; grind
    have e4 : dot n (rc m (wl C q) t) y = S n fun c => y c * rc m (wl C q) t c := S_congr fun c _ => by grind
    grind
  have h2 := lpos_sum (n := n) (f := fun c q => - (y c * rc m (wl C q) t c)) hp fun c hc => by
    have hy0 := hy.nn c hc
    rcases ltri (n + 1) fun q => rc m (wl C q) t c with g | g | g
    · exact absurd g (hend c hc)
    · exact .inr fun q hq => by have := g q hq; simp only at this ⊢; rw [this]; grind
    · rcases rle_lt (y c) 0 with k | k
      · exact .inr fun q hq => by
          have : y c = 0 := by grind
          simp only; rw [this]; grind
      · exact .inl (lpos_congr (lpos_mul k g) fun q _ => by grind)
  refine lpos_not_zero h2 fun q _ => ?_
  have : (S n fun c => - (y c * rc m (wl C q) t c)) = (-1) * S n fun c => y c * rc m (wl C q) t c := by rw [← S_mul]; exact S_congr fun c _ => by grind
  rw [h1 q, this]; grind
/-- Without end. -/
def Unb (n m : Nat) (E : Nat → Nat → Rat) (b : Nat) (C : Nat → Rat) : Prop := ∀ x, Feas n m E b x → ∃ y, Feas n m E b y ∧ dot n C x < dot n C y
/-! ### One objective after the other -/
/-- At the end of a round: no free column helps; those that would harm are free no more. -/
structure Round (n m b : Nat) (E : Nat → Nat → Rat) (w : Nat → Rat) (F F' : Nat → Prop) (t : Tab) : Prop where
  ti : TI m E t
  nn : ∀ i, i < m → 0 ≤ t.X i b
  zero : ∀ i, i < m → ¬ t.bs i < n → t.X i b = 0
  bas : ∀ i, i < m → t.bs i < n → F (t.bs i)
  up : ∀ c, c < n → F c → rc m w t c ≤ 0
  keep : ∀ c, c < n → (F' c ↔ F c ∧ rc m w t c = 0)
def Only (n : Nat) (F : Nat → Prop) (x : Nat → Rat) : Prop := ∀ c, c < n → ¬ F c → x c = 0
theorem round_le {n m b : Nat} {E : Nat → Nat → Rat} {w : Nat → Rat} {F F' : Nat → Prop} {t : Tab} (h : Round n m b E w F F' t) {x : Nat → Rat} (hx : Feas n m E b x) (ho : Only n F x) :
    dot n w x ≤ w b - rc m w t b ∧ (dot n w x = w b - rc m w t b → Only n F' x) ∧ (Only n F' x → dot n w x = w b - rc m w t b) := by
  have h1 := obj_id w t ((sol_iff h.ti n b x).1 hx.sol)
  have hterm : ∀ c, c < n → 0 ≤ - rc m w t c * x c := fun c hc => by
    by_cases hF : F c
    · exact Rat.mul_nonneg (by have := h.up c hc hF; grind) (hx.nn c hc)
    · rw [ho c hc hF]; grind
  have e : (S n fun c => - rc m w t c * x c) = (-1) * dot n (rc m w t) x := by
    unfold dot; rw [← S_mul]; exact S_congr fun c _ => by grind
  have h2 := S_nonneg hterm
  refine ⟨by grind, fun heq c hc hF' => ?_, fun ho' => ?_⟩
  · by_cases hF : F c
    · have hne : rc m w t c ≠ 0 := fun h0 => hF' ((h.keep c hc).2 ⟨hF, h0⟩)
      have hlt : rc m w t c < 0 := by have := h.up c hc hF; grind
      rcases rle_lt (x c) 0 with g | g
      · have := hx.nn c hc; grind
      · have := S_pos hterm hc (Rat.mul_pos (by grind) g)
        grind
    · exact ho c hc hF
  · have : dot n (rc m w t) x = 0 := S_zero fun c hc => by
      by_cases hF' : F' c
      · rw [((h.keep c hc).1 hF').2]; grind
      · rw [ho' c hc hF']; grind
    grind
end Go.Proofs.YticmgmemnpcbbaaGreat.Lp

namespace Go.Proofs.YticmgmemnpcbbaaGreat.Lp
set_option linter.unusedSimpArgs false
set_option linter.unusedVariables false

/-- The determinant of the basic columns. -/
def vol (m : Nat) (E : Nat → Nat → Rat) (t : Tab) : Rat := det m fun j i => E i (t.bs j)
theorem vol_entry {m : Nat} {E : Nat → Nat → Rat} {t : Tab} (h : TI m E t) {p : Nat} (hp : p < m) (c : Nat) : det m (put (fun j i => E i (t.bs j)) p fun i => E i c) = t.X p c * vol m E t :=
  cramer _ hp (fun j => t.X j c) _ fun i hi => h.col i hi c
theorem vol_piv {m : Nat} {E : Nat → Nat → Rat} {t : Tab} (h : TI m E t) {r k : Nat} (hr : r < m) : vol m E (piv t r k) = t.X r k * vol m E t := by
  rw [← vol_entry h hr k]
  unfold vol
  refine det_congr fun j i _ _ => ?_
  unfold put
  by_cases e : j = r
  · subst e; rw [piv_bs_r, if_pos rfl]
  · rw [piv_bs_i _ _ e, if_neg e]
/-- The rows that a program gives: integers that are not large, up to column N. -/
structure Ints (m N K : Nat) (E : Nat → Nat → Rat) : Prop where
  int : ∀ i c, i < m → c < N → isInt (E i c)
  le : ∀ i c, i < m → c < N → -(K : Rat) ≤ E i c ∧ E i c ≤ K
/-- A tableau with its integers. -/
structure TZ (m N K : Nat) (E : Nat → Nat → Rat) (t : Tab) : Prop where
  ti : TI m E t
  ints : Ints m N K E
  bs : ∀ i, i < m → t.bs i < N
  vol : vol m E t ≠ 0
theorem TZ.piv {m N K : Nat} {E : Nat → Nat → Rat} {t : Tab} (h : TZ m N K E t) {r k : Nat} (hr : r < m) (hk : k < N) (hp : t.X r k ≠ 0) : TZ m N K E (piv t r k) := by
  refine ⟨h.ti.piv hr hp, h.ints, fun i hi => ?_, ?_⟩
  · by_cases e : i = r
    · subst e; rw [piv_bs_r]; exact hk
    · rw [piv_bs_i _ _ e]; exact h.bs i hi
  · rw [vol_piv h.ti hr]
    have := h.vol
    intro h0
    rcases Rat.mul_eq_zero.1 h0 with h1 | h1
    · exact hp h1
    · exact this h1
theorem TZ.vol_int {m N K : Nat} {E : Nat → Nat → Rat} {t : Tab} (h : TZ m N K E t) : isInt (Lp.vol m E t) ∧ -(lid K m : Rat) ≤ Lp.vol m E t ∧ Lp.vol m E t ≤ lid K m :=
  ⟨det_int fun j i hj hi => h.ints.int i _ hi (h.bs j hj), det_le fun j i hj hi => h.ints.le i _ hi (h.bs j hj)⟩
theorem TZ.entry {m N K : Nat} {E : Nat → Nat → Rat} {t : Tab} (h : TZ m N K E t) {p c : Nat} (hp : p < m) (hc : c < N) : isInt (t.X p c * Lp.vol m E t) ∧ -(lid K m : Rat) ≤ t.X p c * Lp.vol m E t ∧ t.X p c * Lp.vol m E t ≤ lid K m := by
  rw [← vol_entry h.ti hp c]
  refine ⟨det_int fun j i hj hi => ?_, det_le fun j i hj hi => ?_⟩
  · unfold put; split
    · exact h.ints.int i c hi hc
    · exact h.ints.int i _ hi (h.bs j hj)
  · unfold put; split
    · exact h.ints.le i c hi hc
    · exact h.ints.le i _ hi (h.bs j hj)
def rabs (q : Rat) : Rat := if q < 0 then -q else q
theorem rabs_pos {q : Rat} (h : q ≠ 0) : 0 < rabs q := by unfold rabs; split <;> grind
theorem rabs_mul (a b : Rat) : rabs (a * b) = rabs a * rabs b := by
  rcases rle_lt a 0 with h1 | h1 <;> rcases rle_lt b 0 with h2 | h2
  · have := Rat.mul_nonneg (show 0 ≤ -a by grind) (show 0 ≤ -b by grind)
    unfold rabs
    rw [if_neg (show ¬ a * b < 0 by grind)]
    by_cases ha : a < 0
    · by_cases hb : b < 0
      · rw [if_pos ha, if_pos hb]; grind
      · have : b = 0 := by grind
        rw [this]; grind
    · have : a = 0 := by grind
      rw [this]; grind
  · unfold rabs
    by_cases ha : a < 0
    · have := Rat.mul_pos (show 0 < -a by grind) h2
      rw [if_pos (show a * b < 0 by grind), if_pos ha, if_neg (by grind)]; grind
    · have : a = 0 := by grind
      rw [this]; grind
  · unfold rabs
    by_cases hb : b < 0
    · have := Rat.mul_pos h1 (show 0 < -b by grind)
      rw [if_pos (show a * b < 0 by grind), if_pos hb, if_neg (by grind)]; grind
    · have : b = 0 := by grind
      rw [this]; grind
  · have := Rat.mul_pos h1 h2
    unfold rabs
    rw [if_neg (by grind), if_neg (by grind), if_neg (by grind)]
theorem isInt_neg {a : Rat} : isInt a → isInt (-a) := fun ⟨x, hx⟩ => ⟨-x, by rw [hx, Rat.intCast_neg]⟩
theorem isInt_sub {a b : Rat} (ha : isInt a) (hb : isInt b) : isInt (a - b) := by
  rw [show a - b = a + -b by grind]; exact isInt_add ha (isInt_neg hb)
theorem isInt_rabs {a : Rat} (h : isInt a) : isInt (rabs a) := by
  unfold rabs; split
  · exact isInt_neg h
  · exact h
theorem num_of_int {q : Rat} (h : isInt q) : (q.num : Rat) = q := by obtain ⟨z, rfl⟩ := h; simp
/-- What the program divides by, and the integers of its tableau. -/
def dz (m : Nat) (E : Nat → Nat → Rat) (t : Tab) : Int := (rabs (vol m E t)).num
def zt (m : Nat) (E : Nat → Nat → Rat) (t : Tab) (i c : Nat) : Int := (t.X i c * rabs (vol m E t)).num
section
variable {m N K : Nat} {E : Nat → Nat → Rat} {t : Tab}
theorem dz_cast (h : TZ m N K E t) : (dz m E t : Rat) = rabs (vol m E t) := num_of_int (isInt_rabs h.vol_int.1)
theorem dz_pos (h : TZ m N K E t) : 0 < dz m E t := by
  have := rabs_pos h.vol
  rw [← dz_cast h] at this
  exact Rat.intCast_pos.1 this
theorem zt_cast (h : TZ m N K E t) {i c : Nat} (hi : i < m) (hc : c < N) : (zt m E t i c : Rat) = t.X i c * dz m E t := by
  rw [dz_cast h]
  refine num_of_int ?_
  have h1 := (h.entry hi hc).1
  unfold rabs; split
  · rw [show t.X i c * -vol m E t = -(t.X i c * vol m E t) by grind]; exact isInt_neg h1
  · exact h1
theorem zt_le (h : TZ m N K E t) {i c : Nat} (hi : i < m) (hc : c < N) : -(lid K m : Int) ≤ zt m E t i c ∧ zt m E t i c ≤ lid K m := by
  have h1 := (h.entry hi hc).2
  have h2 : -(lid K m : Rat) ≤ (zt m E t i c : Rat) ∧ (zt m E t i c : Rat) ≤ lid K m := by
    rw [zt_cast h hi hc, dz_cast h]
    unfold rabs; split <;> grind
  constructor
  · have := h2.1
    rw [← Rat.intCast_natCast, ← Rat.intCast_neg] at this
    exact Rat.intCast_le_intCast.1 this
  · have := h2.2
    rw [← Rat.intCast_natCast] at this
    exact Rat.intCast_le_intCast.1 this
theorem dz_le (h : TZ m N K E t) : dz m E t ≤ lid K m := by
  have h1 := h.vol_int.2
  have h2 : (dz m E t : Rat) ≤ lid K m := by
    rw [dz_cast h]
    unfold rabs; split <;> grind
  rw [← Rat.intCast_natCast] at h2
  exact Rat.intCast_le_intCast.1 h2
theorem zt_sign (h : TZ m N K E t) {i c : Nat} (hi : i < m) (hc : c < N) : (0 < zt m E t i c ↔ 0 < t.X i c) ∧ (zt m E t i c = 0 ↔ t.X i c = 0) := by
  have h1 := zt_cast h hi hc
  have h2 : (0 : Rat) < dz m E t := by rw [dz_cast h]; exact rabs_pos h.vol
  constructor
  · constructor
    · intro hp
      have h3 : (0 : Rat) < zt m E t i c := Rat.intCast_pos.2 hp
      rw [h1] at h3
      rcases rle_lt (t.X i c) 0 with g | g
      · have := Rat.mul_nonneg (show 0 ≤ - t.X i c by grind) (show 0 ≤ (dz m E t : Rat) by grind)
        grind
      · exact g
    · intro hp
      have := Rat.mul_pos hp h2
      rw [← h1] at this
      exact Rat.intCast_pos.1 this
  · constructor
    · intro h0
      rw [h0] at h1
      rcases Rat.mul_eq_zero.1 h1.symm with g | g
      · exact g
      · rw [g] at h2; exact absurd h2 (by decide)
    · intro h0
      rw [h0, Rat.zero_mul] at h1
      exact Rat.intCast_inj.1 h1
/-- The numbers behind a pivot. -/
theorem zt_piv (h : TZ m N K E t) {r k : Nat} (hr : r < m) (hk : k < N) (hp : t.X r k ≠ 0) {i c : Nat} (hi : i < m) (hc : c < N) :
    (0 < zt m E t r k → dz m E (piv t r k) = zt m E t r k ∧ (zt m E (piv t r k) i c * dz m E t = if i = r then zt m E t i c * dz m E t else zt m E t i c * zt m E t r k - zt m E t i k * zt m E t r c)) ∧
    (zt m E t r k < 0 → dz m E (piv t r k) = - zt m E t r k ∧ (zt m E (piv t r k) i c * dz m E t = - if i = r then zt m E t i c * dz m E t else zt m E t i c * zt m E t r k - zt m E t i k * zt m E t r c)) := by
  have h' := h.piv hr hk hp
  have e1 := zt_cast h hi hc
  have e2 := zt_cast h' hi hc
  have e3 := zt_cast h hr hk
  have e4 := zt_cast h hi hk
  have e5 := zt_cast h hr hc
  have hd : (dz m E (piv t r k) : Rat) = rabs (t.X r k) * dz m E t := by rw [dz_cast h', dz_cast h, vol_piv h.ti hr, rabs_mul]
  have hdp := dz_pos h
  have hs := zt_sign h hr hk
  constructor
  · intro hpos
    have hx := hs.1.1 hpos
    have hd2 : (dz m E (piv t r k) : Rat) = zt m E t r k := by rw [hd, e3]; unfold rabs; rw [if_neg (by grind)]
    refine ⟨Rat.intCast_inj.1 hd2, ?_⟩
    have hz := Rat.intCast_inj.1 hd2
    refine Rat.intCast_inj.1 ?_
    rw [Rat.intCast_mul, e2, hd]
    split
    · rename_i e
      subst e
      rw [Rat.intCast_mul, piv_r, e1]
      unfold rabs; rw [if_neg (by grind)]
      grind
    · rename_i e
      rw [Rat.intCast_sub, Rat.intCast_mul, Rat.intCast_mul, piv_i _ _ _ e, e1, e3, e4, e5]
      unfold rabs; rw [if_neg (by grind)]
      grind
  · intro hneg
    have hx : t.X r k < 0 := by
      rcases rle_lt (t.X r k) 0 with g | g
      · grind
      · have := hs.1.2 g; omega
    have hd2 : (dz m E (piv t r k) : Rat) = ((- zt m E t r k : Int) : Rat) := by rw [hd, Rat.intCast_neg, e3]; unfold rabs; rw [if_pos hx]; grind
    refine ⟨Rat.intCast_inj.1 hd2, ?_⟩
    refine Rat.intCast_inj.1 ?_
    rw [Rat.intCast_mul, e2, hd, Rat.intCast_neg]
    split
    · rename_i e
      subst e
      rw [Rat.intCast_mul, piv_r, e1]
      unfold rabs; rw [if_pos hx]
      grind
    · rename_i e
      rw [Rat.intCast_sub, Rat.intCast_mul, Rat.intCast_mul, piv_i _ _ _ e, e1, e3, e4, e5]
      unfold rabs; rw [if_pos hx]
      grind
end
end Go.Proofs.YticmgmemnpcbbaaGreat.Lp

namespace Go.Proofs.YticmgmemnpcbbaaGreat.Lp
set_option linter.unusedSimpArgs false
set_option linter.unusedVariables false
open Classical

/-- The first number below a bound with a property. -/
noncomputable def fstP (p : Nat → Prop) : Nat → Option Nat
  | 0 => none
  | n + 1 => match fstP p n with
    | some k => some k
    | none => if p n then some n else none
theorem fstP_none {p : Nat → Prop} : ∀ {n : Nat}, fstP p n = none ↔ ∀ k, k < n → ¬ p k
  | 0 => by simp [fstP]
  | n + 1 => by
    have ih := fstP_none (p := p) (n := n)
    rw [fstP]
    cases h : fstP p n with
    | some k =>
      constructor
      · intro h'; cases h'
      · intro h'
        have := ih.2 fun k hk => h' k (by omega)
        rw [h] at this; cases this
    | none =>
      have hn := ih.1 h
      constructor
      · intro h' k hk
        by_cases e : k = n
        · subst e; intro hp; simp [hp] at h'
        · exact hn k (by omega)
      · intro h'
        simp [h' n (by omega)]
theorem fstP_some {p : Nat → Prop} {k : Nat} : ∀ {n : Nat}, fstP p n = some k ↔ k < n ∧ p k ∧ ∀ j, j < k → ¬ p j
  | 0 => by simp [fstP]
  | n + 1 => by
    have ih := fstP_some (p := p) (k := k) (n := n)
    rw [fstP]
    cases h : fstP p n with
    | some k' =>
      rw [h] at ih
      constructor
      · intro h'
        obtain ⟨h1, h2, h3⟩ := ih.1 h'
        exact ⟨by omega, h2, h3⟩
      · rintro ⟨h1, h2, h3⟩
        by_cases e : k < n
        · exact ih.2 ⟨e, h2, h3⟩
        · obtain ⟨g1, g2, _⟩ := fstP_some.1 h
          exact absurd g2 (h3 k' (by omega))
    | none =>
      have hn := fstP_none.1 h
      constructor
      · intro h'
        by_cases hp : p n
        · simp [hp] at h'
          subst h'
          exact ⟨by omega, hp, hn⟩
        · simp [hp] at h'
      · rintro ⟨h1, h2, h3⟩
        by_cases e : k < n
        · exact absurd h2 (hn k e)
        · obtain rfl : k = n := by omega
          simp [h2]
/-- The quotient by which a row leaves. -/
def quo (t : Tab) (b k i : Nat) : Rat := t.X i b / t.X i k
noncomputable def lvStep (t : Tab) (b k : Nat) (best : Option Nat) (i : Nat) : Option Nat :=
  if 0 < t.X i k then match best with
    | none => some i
    | some j => if quo t b k i < quo t b k j ∨ quo t b k i = quo t b k j ∧ t.bs i < t.bs j then some i else some j
  else best
/-- The row that leaves for a column. -/
noncomputable def leave (t : Tab) (b k : Nat) (rows : List Nat) : Option Nat := rows.foldl (lvStep t b k) none
theorem leave_snoc (t : Tab) (b k : Nat) (rows : List Nat) (i : Nat) : leave t b k (rows ++ [i]) = lvStep t b k (leave t b k rows) i := by
  unfold leave; rw [List.foldl_append]; rfl
theorem snoc_ind {α : Type} {P : List α → Prop} (h0 : P []) (hs : ∀ l x, P l → P (l ++ [x])) (l : List α) : P l := by
  rw [← List.reverse_reverse l]
  induction l.reverse with
  | nil => exact h0
  | cons x xs ih => rw [List.reverse_cons]; exact hs _ _ ih
theorem leave_spec (t : Tab) (b k : Nat) (rows : List Nat) : (leave t b k rows = none → ∀ i, i ∈ rows → ¬ 0 < t.X i k) ∧
    ∀ r, leave t b k rows = some r → r ∈ rows ∧ 0 < t.X r k ∧ ∀ i, i ∈ rows → 0 < t.X i k → quo t b k r ≤ quo t b k i ∧ (quo t b k i = quo t b k r → t.bs r ≤ t.bs i) := by
  induction rows using snoc_ind with
  | h0 => exact ⟨fun _ i hi => (by cases hi), fun r h => (by cases h)⟩
  | hs l x ih =>
    obtain ⟨ih1, ih2⟩ := ih
    rw [leave_snoc]
    unfold lvStep
    by_cases hp : 0 < t.X x k
    · rw [if_pos hp]
      cases hb : leave t b k l with
      | none =>
        refine ⟨fun h => (by cases h), fun r h => ?_⟩
        have hx : x = r := Option.some.inj h
        subst hx
        refine ⟨by simp, hp, fun i hi hpi => ?_⟩
        rcases List.mem_append.1 hi with hi | hi
        · exact absurd hpi (ih1 hb i hi)
        · obtain rfl : i = x := by simpa using hi
          exact ⟨Rat.le_refl, fun _ => Nat.le_refl _⟩
      | some j =>
        obtain ⟨g1, g2, g3⟩ := ih2 j hb
        simp only
        by_cases hc : quo t b k x < quo t b k j ∨ quo t b k x = quo t b k j ∧ t.bs x < t.bs j
        · rw [if_pos hc]
          refine ⟨fun h => (by cases h), fun r h => ?_⟩
          have hx : x = r := Option.some.inj h
          subst hx
          refine ⟨by simp, hp, fun i hi hpi => ?_⟩
          rcases List.mem_append.1 hi with hi | hi
          · obtain ⟨q1, q2⟩ := g3 i hi hpi
            rcases hc with hc | ⟨hc1, hc2⟩
            · exact ⟨by grind, fun e => by grind⟩
            · exact ⟨by grind, fun e => by have := q2 (by grind); omega⟩
          · obtain rfl : i = x := by simpa using hi
            exact ⟨Rat.le_refl, fun _ => Nat.le_refl _⟩
        · rw [if_neg hc]
          refine ⟨fun h => (by cases h), fun r h => ?_⟩
          have hx : j = r := Option.some.inj h
          subst hx
          refine ⟨by simp [g1], g2, fun i hi hpi => ?_⟩
          rcases List.mem_append.1 hi with hi | hi
          · exact g3 i hi hpi
          · obtain rfl : i = x := by simpa using hi
            have h1 : ¬ quo t b k i < quo t b k j := fun h => hc (.inl h)
            refine ⟨by grind, fun e => ?_⟩
            have h2 : ¬ t.bs i < t.bs j := fun h => hc (.inr ⟨e, h⟩)
            omega
    · rw [if_neg hp]
      refine ⟨fun h i hi => ?_, fun r h => ?_⟩
      · rcases List.mem_append.1 hi with hi | hi
        · exact ih1 h i hi
        · obtain rfl : i = x := by simpa using hi
          exact hp
      · obtain ⟨g1, g2, g3⟩ := ih2 r h
        refine ⟨by simp [g1], g2, fun i hi hpi => ?_⟩
        rcases List.mem_append.1 hi with hi | hi
        · exact g3 i hi hpi
        · obtain rfl : i = x := by simpa using hi
          exact absurd hpi hp
theorem quo_cross {a b c d : Rat} (hb : 0 < b) (hd : 0 < d) : (a / b < c / d ↔ a * d < c * b) ∧ (a / b = c / d ↔ a * d = c * b) := by
  have h1 : a / b * b = a := by grind
  have h2 : c / d * d = c := by grind
  generalize a / b = x at *
  generalize c / d = y at *
  subst h1 h2
  have h3 := Rat.mul_pos hb hd
  constructor
  · constructor
    · intro h
      have := Rat.mul_pos (show 0 < y - x by grind) h3
      grind
    · intro h
      rcases rle_lt y x with g | g
      · have := Rat.mul_nonneg (show 0 ≤ x - y by grind) (show 0 ≤ b * d by grind)
        grind
      · exact g
  · constructor
    · intro h; rw [h]; grind
    · intro h
      have : (x - y) * (b * d) = 0 := by grind
      rcases Rat.mul_eq_zero.1 this with g | g
      · grind
      · grind
/-- A rule: the first column that may enter, and the row that leaves for it. -/
noncomputable def nx (N b : Nat) (rows : List Nat) (ok : Tab → Nat → Prop) (t : Tab) : Option (Nat × Nat) :=
  match fstP (ok t) N with
  | none => none
  | some k => match leave t b k rows with
    | none => none
    | some r => some (r, k)
theorem nx_some {N b : Nat} {rows : List Nat} {ok : Tab → Nat → Prop} {t : Tab} {r k : Nat} : nx N b rows ok t = some (r, k) ↔ fstP (ok t) N = some k ∧ leave t b k rows = some r := by
  unfold nx
  cases h1 : fstP (ok t) N with
  | none => simp
  | some k' =>
    simp only
    cases h2 : leave t b k' rows with
    | none =>
      constructor
      · intro h; cases h
      · rintro ⟨h, h'⟩
        obtain rfl : k' = k := Option.some.inj h
        rw [h2] at h'; cases h'
    | some r' =>
      simp only [Option.some.injEq, Prod.mk.injEq]
      constructor
      · rintro ⟨rfl, rfl⟩; exact ⟨rfl, h2⟩
      · rintro ⟨rfl, h'⟩; rw [h2] at h'; exact ⟨Option.some.inj h', rfl⟩
theorem nx_none {N b : Nat} {rows : List Nat} {ok : Tab → Nat → Prop} {t : Tab} (h : nx N b rows ok t = none) : fstP (ok t) N = none ∨ ∃ k, fstP (ok t) N = some k ∧ leave t b k rows = none := by
  unfold nx at h
  cases h1 : fstP (ok t) N with
  | none => exact .inl rfl
  | some k =>
    rw [h1] at h
    simp only at h
    cases h2 : leave t b k rows with
    | none => exact .inr ⟨k, rfl, h2⟩
    | some r => rw [h2] at h; cases h
/-- What holds of the tableaux of a run: n columns of the program, rows are those that count. -/
structure Inv (n m b N K : Nat) (E : Nat → Nat → Rat) (rows : List Nat) (t : Tab) : Prop where
  z : TZ m N K E t
  nn : ∀ i, i < m → 0 ≤ t.X i b
  sub : ∀ i, i ∈ rows → i < m
  dead : ∀ i, i < m → i ∉ rows → n ≤ t.bs i ∧ t.X i b = 0 ∧ ∀ c, c < n → t.X i c = 0
  lt : ∀ i, i < m → t.bs i < b
/-- A rule whose steps are by Bland's. -/
structure Rule (n m b Q N' N : Nat) (w : Nat → Nat → Rat) (F : Nat → Prop) (rows : List Nat) (ok : Tab → Nat → Prop) : Prop where
  ok : ∀ t c, c < N' → (ok t c ↔ F c ∧ lpos Q fun q => rc m (w q) t c)
  hF : ∀ c, F c → c < N'
  le : N' ≤ N
  lb : N' ≤ b
  few : (∀ c, F c → c < n) ∨ ∀ i, i < m → i ∈ rows
theorem Rule.step {n m b Q N' N K : Nat} {E : Nat → Nat → Rat} {w : Nat → Nat → Rat} {F : Nat → Prop} {rows : List Nat} {ok : Tab → Nat → Prop} (R : Rule n m b Q N' N w F rows ok) {t : Tab} {r k : Nat} (h : Inv n m b N K E rows t)
    (hk : fstP (ok t) N' = some k) (hr : leave t b k rows = some r) : Step m b Q w F t r k ∧ Inv n m b N K E rows (piv t r k) ∧ k < N' ∧ r ∈ rows ∧ r < m ∧ t.X r k ≠ 0 := by
  obtain ⟨k1, k2, k3⟩ := fstP_some.1 hk
  obtain ⟨r1, r2, r3⟩ := (leave_spec t b k rows).2 r hr
  obtain ⟨f1, f2⟩ := (R.ok t k k1).1 k2
  have hrm := h.sub r r1
  have hin : ∀ i, i < m → 0 < t.X i k → i ∈ rows := fun i hi hp => by
    rcases Classical.em (i ∈ rows) with g | g
    · exact g
    · rcases R.few with hf | hf
      · have := (h.dead i hi g).2.2 k (hf k f1)
        rw [this] at hp; exact absurd hp (by decide)
      · exact hf i hi
  have hst : Step m b Q w F t r k := ⟨f1, f2, fun j hj hjk hp => k3 j hjk ((R.ok t j (by omega)).2 ⟨hj, hp⟩), hrm, r2, fun i hi hp => by
    have h1 := (r3 i (hin i hi hp) hp).1
    have h2 := quo_cross (a := t.X i b) (b := t.X i k) (c := t.X r b) (d := t.X r k) hp r2
    unfold quo at h1
    rcases rle_lt (t.X r b * t.X i k) (t.X i b * t.X r k) with g | g
    · exact g
    · have := h2.1.2 g; grind, fun i hi hp e => by
    have h1 := (r3 i (hin i hi hp) hp).2
    have h2 := quo_cross (a := t.X i b) (b := t.X i k) (c := t.X r b) (d := t.X r k) hp r2
    exact h1 (h2.2.2 e)⟩
  have hne : t.X r k ≠ 0 := by grind
  refine ⟨hst, ⟨h.z.piv hrm (by have := R.le; omega) hne, hst.rhs h.nn, h.sub, fun i hi hno => ?_, fun i hi => ?_⟩, k1, r1, hrm, hne⟩
  · have hir : i ≠ r := fun e => hno (e ▸ r1)
    obtain ⟨d1, d2, d3⟩ := h.dead i hi hno
    have hkn : k < n := by
      rcases R.few with hf | hf
      · exact hf k f1
      · exact absurd (hf i hi) hno
    rw [piv_bs_i _ _ hir]
    refine ⟨d1, ?_, fun c hc => ?_⟩
    · rw [piv_i _ _ _ hir, d2, d3 k hkn]; grind
    · rw [piv_i _ _ _ hir, d3 c hc, d3 k hkn]; grind
  · by_cases e : i = r
    · subst e; rw [piv_bs_r]; have := R.lb; omega
    · rw [piv_bs_i _ _ e]; exact h.lt i hi
/-- The basis stays among the first columns. -/
theorem Rule.low {n m b Q N' N K : Nat} {E : Nat → Nat → Rat} {w : Nat → Nat → Rat} {F : Nat → Prop} {rows : List Nat} {ok : Tab → Nat → Prop} (R : Rule n m b Q N' N w F rows ok) (hF : ∀ c, F c → c < n) {t : Tab} {e : Nat} (hI : ∀ e', e' ≤ e → Inv n m b N K E rows (orb (nx N' b rows ok) t e')) (hl : ∀ i, i ∈ rows → t.bs i < n) :
    ∀ e', e' ≤ e → ∀ i, i ∈ rows → (orb (nx N' b rows ok) t e').bs i < n
  | 0, _ => hl
  | e' + 1, he => by
    have ih := Rule.low R hF hI hl e' (by omega)
    rw [orb]
    cases hs : nx N' b rows ok (orb (nx N' b rows ok) t e') with
    | none => exact ih
    | some p =>
      obtain ⟨g1, g2⟩ := nx_some.1 hs
      have hst := (R.step (hI e' (by omega)) g1 g2).1
      intro i hi
      by_cases ei : i = p.1
      · simp only; rw [ei, piv_bs_r]; exact hF _ hst.hF
      · simp only; rw [piv_bs_i _ _ ei]; exact ih i hi
/-- It ends. -/
theorem Rule.ends {n m b Q N' N K : Nat} {E : Nat → Nat → Rat} {w : Nat → Nat → Rat} {F : Nat → Prop} {rows : List Nat} {ok : Tab → Nat → Prop} (R : Rule n m b Q N' N w F rows ok) {t : Tab} (h : Inv n m b N K E rows t) :
    ∃ e, nx N' b rows ok (orb (nx N' b rows ok) t e) = none ∧ (∀ e', e' < e → (nx N' b rows ok (orb (nx N' b rows ok) t e')).isSome = true) ∧ ∀ e', e' ≤ e → Inv n m b N K E rows (orb (nx N' b rows ok) t e') := by
  have hinv : ∀ e, Inv n m b N K E rows (orb (nx N' b rows ok) t e) := by
    intro e
    induction e with
    | zero => exact h
    | succ e ih =>
      rw [orb]
      cases hs : nx N' b rows ok (orb (nx N' b rows ok) t e) with
      | none => exact ih
      | some p =>
        obtain ⟨g1, g2⟩ := nx_some.1 hs
        exact (R.step ih g1 g2).2.1
  rcases Classical.em (∃ e, nx N' b rows ok (orb (nx N' b rows ok) t e) = none) with ⟨e, he⟩ | hno
  · have least : ∀ e, nx N' b rows ok (orb (nx N' b rows ok) t e) = none → ∃ e, nx N' b rows ok (orb (nx N' b rows ok) t e) = none ∧ ∀ e', e' < e → (nx N' b rows ok (orb (nx N' b rows ok) t e')).isSome = true := by
      intro e
      induction e using Nat.strongRecOn with
      | ind e ih =>
        intro h
        rcases Classical.em (∃ e', e' < e ∧ nx N' b rows ok (orb (nx N' b rows ok) t e') = none) with ⟨e', h1, h2⟩ | h2
        · exact ih e' h1 h2
        · refine ⟨e, h, fun e' he' => ?_⟩
          cases hh : nx N' b rows ok (orb (nx N' b rows ok) t e') with
          | none => exact absurd ⟨e', he', hh⟩ h2
          | some p => rfl
    obtain ⟨e, h1, h2⟩ := least e he
    exact ⟨e, h1, h2, fun e' _ => hinv e'⟩
  · exfalso
    have hsome : ∀ e, ∃ p, nx N' b rows ok (orb (nx N' b rows ok) t e) = some p := fun e => by
      cases hh : nx N' b rows ok (orb (nx N' b rows ok) t e) with
      | none => exact absurd ⟨e, hh⟩ hno
      | some p => exact ⟨p, rfl⟩
    obtain ⟨a, c, h1, h2, h3⟩ := pigeon (allL N m) (fun e => (List.range m).map (orb (nx N' b rows ok) t e).bs) fun e _ => allL_mem N _ m (hinv e).z.bs
    have heq : ∀ i, i < m → (orb (nx N' b rows ok) t a).bs i = (orb (nx N' b rows ok) t c).bs i := fun i hi => by
      have := congrArg (fun l => l[i]?) h3
      simpa [hi] using this
    let p : Nat → Nat × Nat := fun e => (nx N' b rows ok (orb (nx N' b rows ok) t e)).getD (0, 0)
    have hp : ∀ e, nx N' b rows ok (orb (nx N' b rows ok) t e) = some ((p e).1, (p e).2) := fun e => by obtain ⟨q, hq⟩ := hsome e; simp [p, hq]
    refine bland (m := m) (b := b) (Q := Q) (L := c - a) (E := E) (w := w) (F := F) (t := fun e => orb (nx N' b rows ok) t (a + e)) (r := fun e => (p (a + e)).1) (k := fun e => (p (a + e)).2) (fun e _ => (hinv _).z.ti) (fun e _ => (hinv _).nn)
      (fun e _ => ?_) (fun e _ => ?_) (by omega) (fun i hi => ?_)
    · obtain ⟨g1, g2⟩ := nx_some.1 (hp (a + e))
      exact (R.step (hinv _) g1 g2).1
    · show orb (nx N' b rows ok) t (a + e + 1) = _
      rw [orb, hp]
    · simp only [Nat.add_zero]
      rw [show a + (c - a) = c by omega]
      exact heq i hi
end Go.Proofs.YticmgmemnpcbbaaGreat.Lp

namespace Go.Proofs.YticmgmemnpcbbaaGreat.Lp
set_option linter.unusedSimpArgs false
set_option linter.unusedVariables false
open Classical

/-- The rows of a program with columns for what is missing, and right sides that are not below 0. -/
structure Init (n m K : Nat) (E : Nat → Nat → Rat) : Prop where
  ints : Ints m (n + m + 1) K E
  art : ∀ i j, i < m → j < m → E i (n + j) = if i = j then 1 else 0
  nn : ∀ i, i < m → 0 ≤ E i (n + m)
def tab0 (n : Nat) (E : Nat → Nat → Rat) : Tab := ⟨E, fun i => n + i⟩
theorem Init.inv {n m K : Nat} {E : Nat → Nat → Rat} (h : Init n m K E) : Inv n m (n + m) (n + m + 1) K E (List.range m) (tab0 n E) := by
  refine ⟨⟨⟨fun i hi => ⟨fun l => if l = i then 1 else 0, fun c => ?_⟩, fun l hl c => ?_, fun i j hi hj => ?_⟩, h.ints, fun i hi => ?_, ?_⟩, h.nn, fun i hi => by simpa using hi, fun i hi hn => absurd (by simpa using hi) hn, fun i hi => by show n + i < _; omega⟩
  · rw [S_single hi]
    · simp [tab0]
    · intro j _ hne; show (if j = i then (1 : Rat) else 0) * E j c = 0; rw [if_neg hne]; grind
  · show E l c = S m fun i => E i c * E l (n + i)
    rw [S_single hl, h.art l l hl hl, if_pos rfl]
    · grind
    · intro j hj hne; rw [h.art l j hl hj, if_neg (Ne.symm hne)]; grind
  · exact h.art i j hi hj
  · show n + i < _
    omega
  · show det m (fun j i => E i (n + j)) ≠ 0
    rw [det_id m _ fun j i hj hi => by rw [h.art i j hi hj]; by_cases e : j = i
                                       · rw [if_pos e, if_pos e.symm]
                                       · rw [if_neg e, if_neg (Ne.symm e)]]
    decide
theorem lpos1 {v : Nat → Rat} : lpos 1 v ↔ 0 < v 0 := by
  constructor
  · rintro ⟨q, h1, h2, _⟩
    obtain rfl : q = 0 := by omega
    exact h2
  · exact fun h => ⟨0, by omega, h, fun j hj => by omega⟩
/-- A rule with one objective. -/
def okW (m : Nat) (w : Nat → Rat) (F : Nat → Prop) (t : Tab) (c : Nat) : Prop := F c ∧ 0 < rc m w t c
theorem ruleW {n m b N' N : Nat} {w : Nat → Rat} {F : Nat → Prop} {rows : List Nat} (hF : ∀ c, F c → c < N') (hN : N' ≤ N) (hB : N' ≤ b) (hf : (∀ c, F c → c < n) ∨ ∀ i, i < m → i ∈ rows) : Rule n m b 1 N' N (fun _ => w) F rows (okW m w F) :=
  ⟨fun t c _ => by unfold okW; rw [lpos1], hF, hN, hB, hf⟩
/-! ### The first phase -/
theorem phase1_leaves {n m N K : Nat} {E : Nat → Nat → Rat} {t : Tab} (h : Inv n m (n + m) N K E (List.range m) t) {k : Nat} (hk : 0 < rc m (wart n m) t k) : leave t (n + m) k (List.range m) ≠ none := by
  intro hl
  have h1 := (leave_spec t (n + m) k (List.range m)).1 hl
  have h2 : 0 ≤ S m fun i => t.X i k * wart n m (t.bs i) := S_nonneg fun i hi => by
    have := h1 i (by simpa using hi)
    unfold wart; split <;> grind
  have h3 : wart n m k ≤ 0 := by unfold wart; split <;> decide
  unfold rc at hk
  grind
/-- The end of the first phase. -/
structure End1 (n m N K : Nat) (E : Nat → Nat → Rat) (t : Tab) : Prop where
  inv : Inv n m (n + m) N K E (List.range m) t
  up : ∀ c, c < n → rc m (wart n m) t c ≤ 0
theorem End1.sum {n m N K : Nat} {E : Nat → Nat → Rat} {t : Tab} (h : End1 n m N K E t) : 0 ≤ rc m (wart n m) t (n + m) := by
  rw [rc_wart_b rfl]
  exact S_nonneg fun i hi => by
    split
    · exact h.inv.nn i hi
    · exact Rat.le_refl
theorem End1.no {n m N K : Nat} {E : Nat → Nat → Rat} {t : Tab} (h : End1 n m N K E t) (hp : rc m (wart n m) t (n + m) ≠ 0) (x : Nat → Rat) : ¬ Feas n m E (n + m) x :=
  phase1_no rfl h.inv.z.ti h.inv.nn h.up (by have := h.sum; grind) x
theorem End1.zero {n m N K : Nat} {E : Nat → Nat → Rat} {t : Tab} (h : End1 n m N K E t) (hp : rc m (wart n m) t (n + m) = 0) : ∀ i, i < m → ¬ t.bs i < n → t.X i (n + m) = 0 := art_zero rfl h.inv.nn hp h.inv.lt
theorem End1.feas {n m N K : Nat} {E : Nat → Nat → Rat} {t : Tab} (h : End1 n m N K E t) (hp : rc m (wart n m) t (n + m) = 0) : Feas n m E (n + m) (xb m (n + m) t) := xb_feas h.inv.z.ti h.inv.nn (h.zero hp)
/-- The run of the first phase. -/
theorem phase1_run {n m N' K : Nat} {E : Nat → Nat → Rat} {F : Nat → Prop} (h : Init n m K E) (hF : ∀ c, F c → c < N') (hN : N' ≤ n + m) (hFn : ∀ c, c < n → c < N' ∧ F c) :
    ∃ e, fstP (okW m (wart n m) F (orb (nx N' (n + m) (List.range m) (okW m (wart n m) F)) (tab0 n E) e)) N' = none ∧
      (∀ e', e' < e → (nx N' (n + m) (List.range m) (okW m (wart n m) F) (orb (nx N' (n + m) (List.range m) (okW m (wart n m) F)) (tab0 n E) e')).isSome = true) ∧
      (∀ e', e' ≤ e → Inv n m (n + m) (n + m + 1) K E (List.range m) (orb (nx N' (n + m) (List.range m) (okW m (wart n m) F)) (tab0 n E) e')) ∧ End1 n m (n + m + 1) K E (orb (nx N' (n + m) (List.range m) (okW m (wart n m) F)) (tab0 n E) e) := by
  have R : Rule n m (n + m) 1 N' (n + m + 1) (fun _ => wart n m) F (List.range m) (okW m (wart n m) F) := ruleW hF (by omega) hN (.inr fun i hi => by simpa using hi)
  obtain ⟨e, h1, h2, h3⟩ := R.ends h.inv
  have hI := h3 e (Nat.le_refl _)
  have hf : fstP (okW m (wart n m) F (orb (nx N' (n + m) (List.range m) (okW m (wart n m) F)) (tab0 n E) e)) N' = none := by
    rcases nx_none h1 with g | ⟨k, g1, g2⟩
    · exact g
    · exact absurd g2 (phase1_leaves hI (fstP_some.1 g1).2.1.2)
  refine ⟨e, hf, h2, h3, hI, fun c hc => ?_⟩
  have := fstP_none.1 hf c (hFn c hc).1
  unfold okW at this
  rcases rle_lt (rc m (wart n m) (orb (nx N' (n + m) (List.range m) (okW m (wart n m) F)) (tab0 n E) e) c) 0 with g | g
  · exact g
  · exact absurd ⟨(hFn c hc).2, g⟩ this
/-! ### Artificial columns leave -/
noncomputable def kick (n : Nat) (t : Tab) (i : Nat) : Tab := if t.bs i < n then t else match fstP (fun k => t.X i k ≠ 0) n with
  | some k => piv t i k
  | none => t
noncomputable def kicks (n : Nat) (t : Tab) : Nat → Tab
  | 0 => t
  | i + 1 => kick n (kicks n t i) i
structure Kick (n m N K : Nat) (E : Nat → Nat → Rat) (i : Nat) (t : Tab) : Prop where
  z : TZ m N K E t
  nn : ∀ i, i < m → 0 ≤ t.X i (n + m)
  zero : ∀ j, j < m → ¬ t.bs j < n → t.X j (n + m) = 0
  done : ∀ j, j < i → ¬ t.bs j < n → ∀ c, c < n → t.X j c = 0
  lt : ∀ j, j < m → t.bs j < n + m
theorem Kick.next {n m N K : Nat} {E : Nat → Nat → Rat} {i : Nat} {t : Tab} (h : Kick n m N K E i t) (hi : i < m) (hN : n ≤ N) : Kick n m N K E (i + 1) (kick n t i) := by
  unfold kick
  by_cases hb : t.bs i < n
  · rw [if_pos hb]
    refine ⟨h.z, h.nn, h.zero, fun j hj hn => ?_, h.lt⟩
    by_cases e : j = i
    · subst e; exact absurd hb hn
    · exact h.done j (by omega) hn
  · rw [if_neg hb]
    have hz := h.zero i hi hb
    cases hk : fstP (fun k => t.X i k ≠ 0) n with
    | none =>
      refine ⟨h.z, h.nn, h.zero, fun j hj hn c hc => ?_, h.lt⟩
      by_cases e : j = i
      · subst e
        have := fstP_none.1 hk c hc
        exact Classical.not_not.1 this
      · exact h.done j (by omega) hn c hc
    | some k =>
      obtain ⟨k1, k2, _⟩ := fstP_some.1 hk
      have hrhs : ∀ j, j < m → (piv t i k).X j (n + m) = t.X j (n + m) := fun j hj => by
        by_cases e : j = i
        · subst e; rw [piv_r, hz]; grind
        · rw [piv_i _ _ _ e, hz]; grind
      refine ⟨h.z.piv hi (by omega) k2, fun j hj => by rw [hrhs j hj]; exact h.nn j hj, fun j hj hn => ?_, fun j hj hn c hc => ?_, fun j hj => ?_⟩
      · rw [hrhs j hj]
        by_cases e : j = i
        · subst e; exact hz
        · rw [piv_bs_i _ _ e] at hn; exact h.zero j hj hn
      · by_cases e : j = i
        · subst e; rw [piv_bs_r] at hn; exact absurd k1 hn
        · rw [piv_bs_i _ _ e] at hn
          rw [piv_i _ _ _ e, h.done j (by omega) hn c hc, h.done j (by omega) hn k k1]; grind
      · by_cases e : j = i
        · subst e; rw [piv_bs_r]; omega
        · rw [piv_bs_i _ _ e]; exact h.lt j hj
theorem kicks_kick {n m N K : Nat} {E : Nat → Nat → Rat} {t : Tab} (h : Kick n m N K E 0 t) (hN : n ≤ N) : ∀ i, i ≤ m → Kick n m N K E i (kicks n t i)
  | 0, _ => h
  | i + 1, hi => (kicks_kick h hN i (by omega)).next (by omega) hN
theorem End1.kick {n m N K : Nat} {E : Nat → Nat → Rat} {t : Tab} (h : End1 n m N K E t) (hp : rc m (wart n m) t (n + m) = 0) : Kick n m N K E 0 t := ⟨h.inv.z, h.inv.nn, h.zero hp, (fun j hj => by omega), h.inv.lt⟩
/-- The rows that count, up to one. -/
def liveTo (n : Nat) (t : Tab) (i : Nat) : List Nat := (List.range i).filter fun i => t.bs i < n
theorem live_mem {n : Nat} {t : Tab} {i j : Nat} : j ∈ liveTo n t i ↔ j < i ∧ t.bs j < n := by unfold liveTo; simp
theorem Kick.inv {n m N K : Nat} {E : Nat → Nat → Rat} {t : Tab} (h : Kick n m N K E m t) : Inv n m (n + m) N K E (liveTo n t m) t :=
  ⟨h.z, h.nn, fun i hi => (live_mem.1 hi).1, fun i hi hn => by
    have hb : ¬ t.bs i < n := fun hb => hn (live_mem.2 ⟨hi, hb⟩)
    exact ⟨by omega, h.zero i hi hb, h.done i hi hb⟩, h.lt⟩
/-! ### The second phase, all objectives at once -/
def okL (m n : Nat) (C : Nat → Rat) (t : Tab) (c : Nat) : Prop := lpos (n + 1) fun q => rc m (wl C q) t c
theorem ruleL {n m b N : Nat} {C : Nat → Rat} {rows : List Nat} (hN : n ≤ N) (hB : n ≤ b) : Rule n m b (n + 1) n N (wl C) (fun c => c < n) rows (okL m n C) :=
  ⟨fun t c hc => by unfold okL; exact ⟨fun h => ⟨hc, h⟩, fun h => h.2⟩, fun c h => h, hN, hB, .inl fun c h => h⟩
theorem Inv.zero {n m b N K : Nat} {E : Nat → Nat → Rat} {rows : List Nat} {t : Tab} (h : Inv n m b N K E rows t) (hl : ∀ i, i ∈ rows → t.bs i < n) : ∀ i, i < m → ¬ t.bs i < n → t.X i b = 0 := fun i hi hb => (h.dead i hi fun hm => hb (hl i hm)).2.1
theorem leave_none_le {n m b N K : Nat} {E : Nat → Nat → Rat} {rows : List Nat} {t : Tab} (h : Inv n m b N K E rows t) {k : Nat} (hk : k < n) (hl : leave t b k rows = none) : ∀ i, i < m → t.X i k ≤ 0 := fun i hi => by
  rcases Classical.em (i ∈ rows) with g | g
  · have := (leave_spec t b k rows).1 hl i g; grind
  · rw [(h.dead i hi g).2.2 k hk]; exact Rat.le_refl
/-- To make one number less there is always a row that leaves. -/
theorem less_leaves {n m b N K : Nat} {E : Nat → Nat → Rat} {rows : List Nat} {t : Tab} (h : Inv n m b N K E rows t) {k q : Nat} (C : Nat → Rat) (hk : k < n) (hp : 0 < rc m (wl C (q + 1)) t k) : leave t b k rows ≠ none := by
  intro hl
  have h1 := leave_none_le h hk hl
  have h2 : 0 ≤ S m fun i => t.X i k * wl C (q + 1) (t.bs i) := S_nonneg fun i hi => by
    have := h1 i hi
    unfold wl; simp only; split <;> grind
  have h3 : wl C (q + 1) k ≤ 0 := by unfold wl; simp only; split <;> decide
  unfold rc at hp
  grind
/-! ### The second phase, one objective after the other -/
structure Sel (n m b : Nat) (E : Nat → Nat → Rat) (C : Nat → Rat) (q : Nat) (F : Nat → Prop) : Prop where
  best : ∀ x y, Feas n m E b x → Feas n m E b y → Only n F x → ¬ lpos q fun q => dot n (wl C q) y - dot n (wl C q) x
  same : ∀ x y, Feas n m E b x → Feas n m E b y → Only n F x → (Only n F y ↔ lzero q fun q => dot n (wl C q) y - dot n (wl C q) x)
theorem Sel.start {n m b : Nat} {E : Nat → Nat → Rat} {C : Nat → Rat} {F : Nat → Prop} (hF : ∀ c, c < n → F c) : Sel n m b E C 0 F :=
  ⟨fun x y _ _ _ ⟨q, hq, _⟩ => by omega, fun x y _ _ _ => ⟨fun _ q hq => by omega, fun _ c hc hn => absurd (hF c hc) hn⟩⟩
theorem Sel.next {n m b : Nat} {E : Nat → Nat → Rat} {C : Nat → Rat} {q : Nat} {F F' : Nat → Prop} {t : Tab} (h : Sel n m b E C q F) (hr : Round n m b E (wl C q) F F' t) : Sel n m b E C (q + 1) F' := by
  have hsub : ∀ x, Only n F' x → Only n F x := fun x ho c hc hn => ho c hc fun hF' => hn ((hr.keep c hc).1 hF').1
  refine ⟨fun x y hx hy ho hp => ?_, fun x y hx hy ho => ?_⟩
  · obtain ⟨p, p1, p2, p3⟩ := hp
    have hox := hsub x ho
    by_cases e : p = q
    · subst e
      have hyo := (h.same x y hx hy hox).2 fun j hj => p3 j hj
      have h1 := (round_le hr hx hox).2.2 ho
      have h2 := (round_le hr hy hyo).1
      simp only at p2
      grind
    · exact h.best x y hx hy hox ⟨p, by omega, p2, p3⟩
  · have hox := hsub x ho
    have h1 := (round_le hr hx hox).2.2 ho
    constructor
    · intro hoy j hj
      have hoy' := hsub y hoy
      by_cases e : j = q
      · subst e
        have h2 := (round_le hr hy hoy').2.2 hoy
        simp only; grind
      · exact (h.same x y hx hy hox).1 hoy' j (by omega)
    · intro hz
      have hyo := (h.same x y hx hy hox).2 fun j hj => hz j (by omega)
      have := hz q (by omega)
      simp only at this
      exact (round_le hr hy hyo).2.1 (by grind)
theorem Sel.done {n m b : Nat} {E : Nat → Nat → Rat} {C x : Nat → Rat} {F : Nat → Prop} (h : Sel n m b E C (n + 1) F) (hx : Feas n m E b x) (ho : Only n F x) : Best n m E b C x := ⟨hx, fun y hy => h.best x y hx hy ho⟩
/-- The columns that are free behind a round. -/
def Fn (m : Nat) (w : Nat → Rat) (F : Nat → Prop) (t : Tab) (c : Nat) : Prop := F c ∧ rc m w t c = 0
/-- What is known between the rounds. -/
structure Mid (n m K : Nat) (E : Nat → Nat → Rat) (rows : List Nat) (F : Nat → Prop) (t : Tab) : Prop where
  inv : Inv n m (n + m) (n + m + 1) K E rows t
  low : ∀ i, i ∈ rows → t.bs i < n
  bas : ∀ i, i ∈ rows → F (t.bs i)
  lt : ∀ c, F c → c < n
theorem Mid.step {n m K : Nat} {E : Nat → Nat → Rat} {rows : List Nat} {F : Nat → Prop} {t : Tab} {w : Nat → Rat} (h : Mid n m K E rows F t) {r k : Nat} (hs : nx (n + m) (n + m) rows (okW m w F) t = some (r, k)) : Mid n m K E rows F (piv t r k) := by
  obtain ⟨g1, g2⟩ := nx_some.1 hs
  have R : Rule n m (n + m) 1 (n + m) (n + m + 1) (fun _ => w) F rows (okW m w F) := ruleW (fun c hc => by have := h.lt c hc; omega) (by omega) (Nat.le_refl _) (.inl h.lt)
  have h1 := (R.step h.inv g1 g2).2.1
  have hF := (fstP_some.1 g1).2.1.1
  refine ⟨h1, fun i hi => ?_, fun i hi => ?_, h.lt⟩
  · by_cases e : i = r
    · rw [e, piv_bs_r]; exact h.lt k hF
    · rw [piv_bs_i _ _ e]; exact h.low i hi
  · by_cases e : i = r
    · rw [e, piv_bs_r]; exact hF
    · rw [piv_bs_i _ _ e]; exact h.bas i hi
theorem Mid.ends {n m K : Nat} {E : Nat → Nat → Rat} {rows : List Nat} {F : Nat → Prop} {t : Tab} (w : Nat → Rat) (h : Mid n m K E rows F t) :
    ∃ e, nx (n + m) (n + m) rows (okW m w F) (orb (nx (n + m) (n + m) rows (okW m w F)) t e) = none ∧
      (∀ e', e' < e → (nx (n + m) (n + m) rows (okW m w F) (orb (nx (n + m) (n + m) rows (okW m w F)) t e')).isSome = true) ∧
      ∀ e', e' ≤ e → Mid n m K E rows F (orb (nx (n + m) (n + m) rows (okW m w F)) t e') := by
  have R : Rule n m (n + m) 1 (n + m) (n + m + 1) (fun _ => w) F rows (okW m w F) := ruleW (fun c hc => by have := h.lt c hc; omega) (by omega) (Nat.le_refl _) (.inl h.lt)
  obtain ⟨e, h1, h2, h3⟩ := R.ends h.inv
  refine ⟨e, h1, h2, fun e' he' => ?_⟩
  induction e' with
  | zero => exact h
  | succ e' ih =>
    have hm := ih (by omega)
    rw [orb]
    cases hs : nx (n + m) (n + m) rows (okW m w F) (orb (nx (n + m) (n + m) rows (okW m w F)) t e') with
    | none => exact hm
    | some p => exact hm.step hs
theorem Mid.next {n m K : Nat} {E : Nat → Nat → Rat} {rows : List Nat} {F : Nat → Prop} {t : Tab} {w : Nat → Rat} (h : Mid n m K E rows F t) : Mid n m K E rows (Fn m w F t) t :=
  ⟨h.inv, h.low, fun i hi => ⟨h.bas i hi, rc_basic h.inv.z.ti _ (h.inv.sub i hi)⟩, fun c hc => h.lt c hc.1⟩
theorem Mid.feas {n m K : Nat} {E : Nat → Nat → Rat} {rows : List Nat} {F : Nat → Prop} {t : Tab} (h : Mid n m K E rows F t) : Feas n m E (n + m) (xb m (n + m) t) ∧ Only n F (xb m (n + m) t) := by
  refine ⟨xb_feas h.inv.z.ti h.inv.nn (h.inv.zero h.low), fun c hc hn => ?_⟩
  refine S_zero fun i hi => ?_
  split
  · rename_i e
    rcases Classical.em (i ∈ rows) with g | g
    · exact absurd (e ▸ h.bas i g) hn
    · exact (h.inv.dead i hi g).2.1
  · rfl
end Go.Proofs.YticmgmemnpcbbaaGreat.Lp

namespace Go.Proofs.YticmgmemnpcbbaaGreat.Lp
set_option linter.unusedSimpArgs false
set_option linter.unusedVariables false

/-- A quotient of two integers that are not large. -/
def sm (L : Nat) (q : Rat) : Prop := ∃ a v : Int, v ≠ 0 ∧ q * v = a ∧ a.natAbs ≤ L ∧ v.natAbs ≤ L
theorem sm_cross {q : Rat} {a v : Int} (h : q * v = a) : q.num * v = a * q.den := by
  have h1 : q * (q.den : Rat) = q.num := by
    have h2 := Rat.mkRat_self q
    rw [Rat.mkRat_eq_div] at h2
    have h3 : (q.den : Rat) ≠ 0 := fun h => q.den_nz (Rat.natCast_inj.1 h)
    grind
  have h2 : ((q.num * v : Int) : Rat) = ((a * q.den : Int) : Rat) := by
    rw [Rat.intCast_mul, Rat.intCast_mul, ← h, ← h1, Rat.intCast_natCast]
    grind
  exact Rat.intCast_inj.1 h2
theorem sm_parts {L : Nat} {q : Rat} (h : sm L q) : q.num.natAbs ≤ L ∧ q.den ≤ L := by
  obtain ⟨a, v, hv, he, ha, hvl⟩ := h
  have hc := congrArg Int.natAbs (sm_cross he)
  rw [Int.natAbs_mul, Int.natAbs_mul, Int.natAbs_natCast] at hc
  have hco := q.reduced
  have hv0 : 0 < v.natAbs := Int.natAbs_pos.2 hv
  have h1 : q.den ∣ v.natAbs := by
    refine Nat.Coprime.dvd_of_dvd_mul_left (Nat.Coprime.symm hco) ⟨a.natAbs, ?_⟩
    rw [hc, Nat.mul_comm]
  have h2 := Nat.le_of_dvd hv0 h1
  refine ⟨?_, by omega⟩
  by_cases h0 : a.natAbs = 0
  · rw [h0, Nat.zero_mul] at hc
    rcases Nat.mul_eq_zero.1 hc with g | g
    · omega
    · omega
  · have h3 : q.num.natAbs ∣ a.natAbs := Nat.Coprime.dvd_of_dvd_mul_right hco ⟨v.natAbs, hc.symm⟩
    have := Nat.le_of_dvd (by omega) h3
    omega
theorem sm_mono {L M : Nat} {q : Rat} (h : sm L q) (hl : L ≤ M) : sm M q := by
  obtain ⟨a, v, h1, h2, h3, h4⟩ := h
  exact ⟨a, v, h1, h2, by omega, by omega⟩
theorem sm_mul {L M : Nat} {p q : Rat} (hp : sm L p) (hq : sm M q) : sm (L * M) (p * q) := by
  obtain ⟨a, v, h1, h2, h3, h4⟩ := hp
  obtain ⟨b, w, g1, g2, g3, g4⟩ := hq
  refine ⟨a * b, v * w, by simp [h1, g1], by rw [Rat.intCast_mul, Rat.intCast_mul, ← h2, ← g2]; grind, ?_, ?_⟩
  · rw [Int.natAbs_mul]; exact Nat.mul_le_mul h3 g3
  · rw [Int.natAbs_mul]; exact Nat.mul_le_mul h4 g4
theorem sm_div {L M : Nat} {p q : Rat} (hp : sm L p) (hq : sm M q) (h0 : q ≠ 0) : sm (L * M) (p / q) := by
  obtain ⟨a, v, h1, h2, h3, h4⟩ := hp
  obtain ⟨b, w, g1, g2, g3, g4⟩ := hq
  have hv : (v : Rat) ≠ 0 := fun h => h1 (Rat.intCast_inj.1 h)
  have hw : (w : Rat) ≠ 0 := fun h => g1 (Rat.intCast_inj.1 h)
  have hb : b ≠ 0 := fun h => by
    rw [h] at g2
    rcases Rat.mul_eq_zero.1 g2 with e | e
    · exact h0 e
    · exact hw e
  refine ⟨a * w, v * b, by simp [h1, hb], by rw [Rat.intCast_mul, Rat.intCast_mul, ← h2, ← g2]; grind, ?_, ?_⟩
  · rw [Int.natAbs_mul]; exact Nat.mul_le_mul h3 g4
  · rw [Int.natAbs_mul, Nat.mul_comm L M, Nat.mul_comm]; exact Nat.mul_le_mul g3 h4
theorem abs_nat {z : Int} {q : Rat} {L : Nat} (h : q = z) (hq : -(L : Rat) ≤ q ∧ q ≤ L) : z.natAbs ≤ L := by
  rw [h] at hq
  have h1 : -(L : Int) ≤ z := by
    have := hq.1
    rw [← Rat.intCast_natCast, ← Rat.intCast_neg] at this
    exact Rat.intCast_le_intCast.1 this
  have h2 : z ≤ (L : Int) := by
    have := hq.2
    rw [← Rat.intCast_natCast] at this
    exact Rat.intCast_le_intCast.1 this
  omega
theorem TZ.sm {m N K : Nat} {E : Nat → Nat → Rat} {t : Tab} (h : TZ m N K E t) {i c : Nat} (hi : i < m) (hc : c < N) : Lp.sm (lid K m) (t.X i c) := by
  obtain ⟨⟨a, ha⟩, hal⟩ := h.entry hi hc
  obtain ⟨⟨v, hv⟩, hvl⟩ := h.vol_int
  have hne := h.vol
  refine ⟨a, v, fun e => hne (by rw [hv, e]; rfl), by rw [← hv, ha], abs_nat ha hal, abs_nat hv hvl⟩
/-- What a gain can be. -/
theorem TZ.rc {m N K W : Nat} {E : Nat → Nat → Rat} {t : Tab} (h : TZ m N K E t) {w : Nat → Rat} (hw : ∀ c, c < N → isInt (w c) ∧ -(W : Rat) ≤ w c ∧ w c ≤ W) {c : Nat} (hc : c < N) (hW : 1 ≤ W) : Lp.sm ((m + 1) * (W * lid K m)) (Lp.rc m w t c) := by
  obtain ⟨hvi, hvl⟩ := h.vol_int
  obtain ⟨v, hv⟩ := hvi
  have hne := h.vol
  have e : Lp.rc m w t c * Lp.vol m E t = w c * Lp.vol m E t - S m fun i => w (t.bs i) * (t.X i c * Lp.vol m E t) := by
    unfold Lp.rc
    rw [show (S m fun i => w (t.bs i) * (t.X i c * Lp.vol m E t)) = (S m fun i => t.X i c * w (t.bs i)) * Lp.vol m E t by rw [← S_mul_r]; exact S_congr fun i _ => by grind]
    grind
  have hint : isInt (Lp.rc m w t c * Lp.vol m E t) := by
    rw [e]
    exact isInt_sub (isInt_mul (hw c hc).1 h.vol_int.1) (isInt_S fun i hi => isInt_mul (hw _ (h.bs i hi)).1 (h.entry hi hc).1)
  have b1 := mul_abs (hw c hc).2 hvl
  have b2 := S_abs (n := m) (f := fun i => w (t.bs i) * (t.X i c * Lp.vol m E t)) (B := (W : Rat) * lid K m) fun i hi => mul_abs (hw _ (h.bs i hi)).2 (h.entry hi hc).2
  have hB : (((m + 1) * (W * lid K m) : Nat) : Rat) = (m : Rat) * ((W : Rat) * lid K m) + (W : Rat) * lid K m := by
    rw [Rat.natCast_mul, Rat.natCast_mul, Rat.natCast_add]
    grind
  obtain ⟨a, ha⟩ := hint
  refine ⟨a, v, fun e0 => hne (by rw [hv, e0]; rfl), by rw [← hv, ha], abs_nat ha ?_, ?_⟩
  · rw [hB, e]
    grind
  · have h1 := abs_nat hv hvl
    have : lid K m ≤ (m + 1) * (W * lid K m) := by
      calc lid K m = 1 * (1 * lid K m) := by omega
        _ ≤ (m + 1) * (W * lid K m) := Nat.mul_le_mul (by omega) (Nat.mul_le_mul hW (Nat.le_refl _))
    omega
theorem lid_mono {K : Nat} (hK : 1 ≤ K) : ∀ {m k : Nat}, m ≤ k → lid K m ≤ lid K k
  | m, 0, h => by rw [show m = 0 by omega]; exact Nat.le_refl _
  | m, k + 1, h => by
    by_cases e : m = k + 1
    · rw [e]; exact Nat.le_refl _
    · have ih := lid_mono hK (m := m) (k := k) (by omega)
      have : 1 * (1 * lid K k) ≤ (k + 1) * (K * lid K k) := Nat.mul_le_mul (by omega) (Nat.mul_le_mul hK (Nat.le_refl _))
      rw [lid]; omega
/-- A bound for all programs that come up: 17 rows, numbers up to 1000. -/
def top : Nat := lid 1000 17
theorem top_le : top ≤ 10 ^ 66 := by decide +kernel
theorem lid_top {m : Nat} (h : m ≤ 17) : lid 1000 m ≤ 10 ^ 66 := Nat.le_trans (lid_mono (by omega) h) top_le
end Go.Proofs.YticmgmemnpcbbaaGreat.Lp

namespace Go.Proofs.YticmgmemnpcbbaaGreat.Vm
open Go Go.RowKit Go.Proofs
set_option linter.unusedSimpArgs false
set_option linter.unusedVariables false

theorem exactly_ro (x y q : Int) (h : x = q * y) (hy : 0 < y) (hx : (lim x.natAbs).length ≤ 300000) (hyl : (lim y.natAbs).length ≤ 300000) : RO Tryz.prog 282 [.agg (biC x), .agg (biC y)] (.agg (biC q)) := by
  have hq : sg (decide (x < 0) != decide (y < 0)) (x.natAbs / y.natAbs) = q := by
    have e1 : x.natAbs = q.natAbs * y.natAbs := by rw [h, Int.natAbs_mul]
    have e2 : x.natAbs / y.natAbs = q.natAbs := by rw [e1]; exact Nat.mul_div_cancel _ (by omega)
    have e3 : decide (y < 0) = false := decide_eq_false (by omega)
    have e4 : decide (x < 0) = decide (q < 0) := decide_eq_decide.2 (by
      rw [h]
      constructor
      · intro hh
        rcases Int.lt_or_le q 0 with g | g
        · exact g
        · have := Int.mul_nonneg g (Int.le_of_lt hy); omega
      · intro hh; exact Int.mul_neg_of_neg_of_pos hh hy)
    rw [e2, e3, e4, Bool.bne_false]
    exact sg_self q
  refine ro_of2 Tryz.func282 rfl rfl (by rw [Tryz.ntmps282]; simp) fun bl => ?_
  rw [Tryz.ntmps282, Tryz.results282]
  refine AW_runA ?_
  rw [show biC x = [.bool (decide (x < 0)), .sl (iv (lim x.natAbs))] from rfl, show biC y = [.bool (decide (y < 0)), .sl (iv (lim y.natAbs))] from rfl]
  simp
  intro g hg0 hg g2 hg2 h2g hb2 g3 hg3 h32 h3g hb3
  refine AW_runA ?_
  simp [h2g, Ne.symm h2g, h32, Ne.symm h32, h3g, Ne.symm h3g]
  refine callP_ro (over_ro _ _ (by omega) hx hyl) ?_
  simp [h2g, Ne.symm h2g, h32, Ne.symm h32, h3g, Ne.symm h3g]
  refine AW_runA ?_
  simp [h2g, Ne.symm h2g, h32, Ne.symm h32, h3g, Ne.symm h3g]
  refine callP_ro (signed_ro _ _) ?_
  simp [h2g, Ne.symm h2g, h32, Ne.symm h32, h3g, Ne.symm h3g]
  rw [hq]
  refine AW_run ?_
  simp [h2g, Ne.symm h2g, h32, Ne.symm h32, h3g, Ne.symm h3g]
  exact retRO [.agg (biC q)] 1 (by simp [biC, h2g, Ne.symm h2g, h32, Ne.symm h32, h3g, Ne.symm h3g]) retAgg (by simp [hg, hb2, hb3])
end Go.Proofs.YticmgmemnpcbbaaGreat.Vm

namespace Go.Proofs.YticmgmemnpcbbaaGreat.Vm
open Go Go.RowKit Go.Proofs
set_option linter.unusedSimpArgs false
set_option linter.unusedVariables false

@[simp] theorem splice_bb (x y : Int) : splice (biC x) 0 (biC y) = biC y := by simp [splice, biC]
@[simp] theorem biC_take (x : Int) : (biC x).take 2 = biC x := rfl
/-- A row of whole numbers. -/
def zv (n : Nat) (f : Nat → Int) : List (List V) := (List.range n).map fun c => biC (f c)
@[simp] theorem zv_length (n : Nat) (f : Nat → Int) : (zv n f).length = n := by simp [zv]
@[simp] theorem zv_getE (n : Nat) (f : Nat → Int) (c : Nat) (h : c < (zv n f).length) : (zv n f)[c] = biC (f c) := by simp [zv]
theorem zv_cl (n : Nat) (f : Nat → Int) : (zv n f).all (fun e => e.all V.cl) = true := by simp [zv, biC_cl]
def zzv (r n : Nat) (Z : Nat → Nat → Int) : List (List V) := (List.range r).map fun i => [.sl (zv n (Z i))]
@[simp] theorem zzv_length (r n : Nat) (Z : Nat → Nat → Int) : (zzv r n Z).length = r := by simp [zzv]
@[simp] theorem zzv_getE (r n : Nat) (Z : Nat → Nat → Int) (i : Nat) (h : i < (zzv r n Z).length) : (zzv r n Z)[i] = [.sl (zv n (Z i))] := by simp [zzv]
theorem zzv_cl (r n : Nat) (Z : Nat → Nat → Int) : (zzv r n Z).all (fun e => e.all V.cl) = true := by simp [zzv, V.cl]
/-- Numbers of the rows, as a list. -/
def lb (r : Nat) (bs : Nat → Nat) : List Int := (List.range r).map fun i => (bs i : Int)
@[simp] theorem lb_length (r : Nat) (bs : Nat → Nat) : (lb r bs).length = r := by simp [lb]
@[simp] theorem lb_getE (r : Nat) (bs : Nat → Nat) (i : Nat) (h : i < (lb r bs).length) : (lb r bs)[i] = (bs i : Int) := by simp [lb]
def lv (n : Nat) (f : Nat → Bool) : List (List V) := (List.range n).map fun c => [.bool (f c)]
@[simp] theorem lv_length (n : Nat) (f : Nat → Bool) : (lv n f).length = n := by simp [lv]
@[simp] theorem lv_getE (n : Nat) (f : Nat → Bool) (c : Nat) (h : c < (lv n f).length) : (lv n f)[c] = [.bool (f c)] := by simp [lv]
theorem lv_cl (n : Nat) (f : Nat → Bool) : (lv n f).all (fun e => e.all V.cl) = true := by simp [lv, V.cl]
/-- A tableau, frozen. -/
def tabC (r n : Nat) (Z : Nat → Nat → Int) (d : Int) (bs : Nat → Nat) (fr : Nat → Bool) : List V :=
  [.sl (zzv r (n + 1) Z), .bool (decide (d < 0)), .sl (iv (lim d.natAbs)), .sl (iv (lb r bs)), .int .i64 n, .sl (lv n fr)]
/-- A list of the first numbers of a sequence. -/
def lz (n : Nat) (f : Nat → Int) : List Int := (List.range n).map f
@[simp] theorem lz_length (n : Nat) (f : Nat → Int) : (lz n f).length = n := by simp [lz]
@[simp] theorem lz_getE (n : Nat) (f : Nat → Int) (c : Nat) (h : c < (lz n f).length) : (lz n f)[c] = f c := by simp [lz]
/-- Two bounds. -/
@[irreducible] def midB : Nat := 10 ^ 66
@[irreducible] def bigB : Nat := 10 ^ 200
theorem bigB_lt : bigB < LB ^ 24 := by unfold bigB; decide +kernel
theorem midB_mul : midB * midB ≤ bigB := by unfold bigB midB; decide +kernel
theorem midB_sum : 41 * (midB * 1000) ≤ bigB := by unfold bigB midB; decide +kernel
theorem midB_big : midB ≤ bigB := by unfold bigB midB; decide +kernel
theorem midB_1000 : 1000 ≤ midB := by unfold midB; decide +kernel
/-- Numbers that are not large. -/
def little (x : Int) : Prop := x.natAbs ≤ bigB
theorem little_len {x : Int} (h : little x) : (lim x.natAbs).length ≤ 24 := lim_length_le.2 (Nat.lt_of_le_of_lt h bigB_lt)
structure ZB (r n : Nat) (Z : Nat → Nat → Int) (d : Int) : Prop where
  z : ∀ i c, i < r → c ≤ n → (Z i c).natAbs ≤ midB
  dl : d.natAbs ≤ midB
  d0 : 0 < d
  rl : r ≤ 40
  nl : n ≤ 100
/-- A gain, times what is divided by. -/
def gTo (Z : Nat → Nat → Int) (d : Int) (bs : Nat → Nat) (O : Nat → Int) (k : Nat) : Nat → Int
  | 0 => d * O k
  | i + 1 => if O (bs i) ≠ 0 ∧ Z i k ≠ 0 then gTo Z d bs O k i - Z i k * O (bs i) else gTo Z d bs O k i
theorem gTo_le {r n : Nat} {Z : Nat → Nat → Int} {d : Int} {bs : Nat → Nat} {O : Nat → Int} {k : Nat} (h : ZB r n Z d) (hO : ∀ c, (O c).natAbs ≤ 1000) (hk : k ≤ n) : ∀ i, i ≤ r → (gTo Z d bs O k i).natAbs ≤ (i + 1) * (midB * 1000)
  | 0, _ => by
    have h1 : (gTo Z d bs O k 0).natAbs = d.natAbs * (O k).natAbs := Int.natAbs_mul _ _
    have h2 : d.natAbs * (O k).natAbs ≤ midB * 1000 := Nat.mul_le_mul h.dl (hO k)
    have h3 : (0 + 1) * (midB * 1000) = midB * 1000 := by rw [Nat.zero_add, Nat.one_mul]
    rw [h3, h1]
    exact h2
  | i + 1, hi => by
    have ih := gTo_le h hO hk (bs := bs) i (by omega)
    have h1 : (Z i k * O (bs i)).natAbs ≤ midB * 1000 := by rw [Int.natAbs_mul]; exact Nat.mul_le_mul (h.z i k (by omega) hk) (hO _)
    have e : (i + 1 + 1) * (midB * 1000) = (i + 1) * (midB * 1000) + midB * 1000 := by rw [Nat.add_mul (i + 1) 1, Nat.one_mul]
    rw [e, gTo]
    split
    · exact Nat.le_trans (Int.natAbs_sub_le _ _) (Nat.add_le_add ih h1)
    · exact Nat.le_trans ih (Nat.le_add_right _ _)
theorem gTo_little {r n : Nat} {Z : Nat → Nat → Int} {d : Int} {bs : Nat → Nat} {O : Nat → Int} {k : Nat} (h : ZB r n Z d) (hO : ∀ c, (O c).natAbs ≤ 1000) (hk : k ≤ n) (i : Nat) (hi : i ≤ r) : little (gTo Z d bs O k i) := by
  have h1 := gTo_le h hO hk (bs := bs) i hi
  have h2 : (i + 1) * (midB * 1000) ≤ 41 * (midB * 1000) := Nat.mul_le_mul_right _ (by have := h.rl; omega)
  exact Nat.le_trans h1 (Nat.le_trans h2 midB_sum)
theorem mul_little {a b : Int} (ha : a.natAbs ≤ midB) (hb : b.natAbs ≤ midB) : little (a * b) := by
  unfold little
  rw [Int.natAbs_mul]
  exact Nat.le_trans (Nat.mul_le_mul ha hb) midB_mul
theorem mid_little {a : Int} (ha : a.natAbs ≤ midB) : little a := Nat.le_trans ha midB_big
theorem k_little {a : Int} (ha : a.natAbs ≤ 1000) : little a := mid_little (Nat.le_trans ha midB_1000)
theorem gain_ro (r n : Nat) (Z : Nat → Nat → Int) (d : Int) (bs : Nat → Nat) (fr : Nat → Bool) (O : Nat → Int) (k : Nat) (h : ZB r n Z d) (hO : ∀ c, (O c).natAbs ≤ 1000) (hk : k < n) (hb : ∀ i, i < r → bs i < n) :
    RO Tryz.prog 256 [.ptr (tabC r n Z d bs fr), .sl (iv (lz n O)), .int .i64 k] (.int .i64 (gTo Z d bs O k r).sign) := by
  have hr := h.rl
  have hn := h.nl
  have hint : ∀ c, RO Tryz.prog 160 [.int .i64 (O c)] (.agg (biC (O c))) := fun c => integer_ro _ (by have := hO c; omega)
  have hOl : ∀ c, (lim (O c).natAbs).length ≤ 400000 := fun c => Nat.le_trans (little_len (k_little (hO c))) (by omega)
  have hdl : (lim d.natAbs).length ≤ 400000 := Nat.le_trans (little_len (mid_little h.dl)) (by omega)
  have hgl : ∀ i, i ≤ r → (lim (gTo Z d bs O k i).natAbs).length ≤ 24 := fun i hi => little_len (gTo_little h hO (by omega) i hi)
  have hT := timesZ_ro d (O k) hdl (hOl k)
  rw [show biC d = [.bool (decide (d < 0)), .sl (iv (lim d.natAbs))] from rfl] at hT
  refine ro_of2 Tryz.func256 rfl rfl (by rw [Tryz.ntmps256]; simp) fun bl => ?_
  rw [Tryz.ntmps256, Tryz.results256]
  refine AW_run ?_
  simp
  refine AW_mixedB mixedO bl (Sub.refl _) [0, 1, 2, 3, 4, 5, 6, 7, 8, 9] 2 (by kernel_rfl) ?_
  simp [tabC, hk]
  refine hcQ_ro (hint k) ?_
  simp
  refine hcQ_ro hT ?_
  simp
  refine DAny_one (i := 10) (by kernel_rfl) rfl rfl ?_
  simp
  intro g7 hg7 hb7
  refine ⟨by simp [hb7], DAny_one (i := 11) (by kernel_rfl) rfl rfl ?_⟩
  simp
  refine ⟨by simp [hb7], DAny_done (by kernel_rfl) ?_⟩
  simp
  refine AW_run ?_
  simp
  refine AW_for (fun i : Nat => [(0, .ptr (tabC r n Z d bs fr)), (1, .sl (iv (lz n O))), (2, .int .i64 k), (7, .loc g7 2 0 0), (23, .sl (iv (lb r bs))), (24, .int .i64 r), (25, .int .i64 i)]) (fun i => upd bl g7 (some ⟨2, [biC (gTo Z d bs O k i)]⟩)) (fun i => i ≤ r) (fun i => r - i) _ 0 (Nat.zero_le _) ⟨rfl, by simp [tabC], by rw [gTo]; exact sub_eq rfl⟩ ?_
  intro i hi
  have wi : IntKind.i64.wrap ((i : Int) + 1) = (i : Int) + 1 := i64_in (by omega) (by omega)
  refine AW_runA ?_
  simp
  refine AW_runA ?_
  simp
  refine ⟨fun hlt => ?_, fun hlt => ?_⟩
  · have hbi := hb i hlt
    have hS := sign_ro (Z i k)
    refine AW_seq (AW_block ?_)
    refine AW_runA ?_
    simp [hlt]
    refine AW_runA ?_
    simp
    refine AW_way0 [(0, .ptr (tabC r n Z d bs fr)), (1, .sl (iv (lz n O))), (2, .int .i64 k), (7, .loc g7 2 0 0), (8, .int .i64 i), (9, .int .i64 (bs i)), (23, .sl (iv (lb r bs))), (24, .int .i64 r), (25, .int .i64 i)] _ (upd bl g7 (some ⟨2, [biC (gTo Z d bs O k i)]⟩)) 48 (.bool (decide (O (bs i) ≠ 0 ∧ Z i k ≠ 0))) ⟨rfl, by simp, Sub.refl _⟩ rfl ?_ ?_
    · by_cases h0 : O (bs i) = 0
      · simp [hbi, h0]
      · simp [hbi, tabC, hlt, show k < n + 1 by omega, h0]
        refine callP_ro hS ?_
        simp [Int.sign_eq_zero_iff_zero]
        by_cases h1 : Z i k = 0 <;> simp [h1]
    have hTi := timesZ_ro (Z i k) (O (bs i)) (Nat.le_trans (little_len (mid_little (h.z i k hlt (by omega)))) (by omega)) (hOl _)
    have hP : (lim (Z i k * O (bs i)).natAbs).length ≤ 24 := little_len (mul_little (h.z i k hlt (by omega)) (Nat.le_trans (hO _) midB_1000))
    have hM := minusZ_ro (gTo Z d bs O k i) (Z i k * O (bs i)) (Nat.le_trans (hgl i hi) (by omega)) (Nat.le_trans hP (by omega))
    simp
    refine AW_run ?_
    simp
    refine ⟨fun h0 h1 => ?_, fun hno => ?_⟩
    · refine AW_mixedT mixedO [0, 1, 2, 3, 4, 5, 6, 7, 8, 9, 10, 11, 12, 13, 14, 15, 16, 17] 1 18 (by kernel_rfl) ?_
      simp [hbi, tabC, hlt, show k < n + 1 by omega]
      refine hcQ_ro (hint _) ?_
      simp
      refine hcQ_ro hTi ?_
      simp
      refine hcQ_ro hM ?_
      simp
      refine DAny_last (i := 18) (by kernel_rfl) rfl rfl rfl ?_
      simp
      refine DAny_done (by kernel_rfl) ?_
      simp
      refine AW_run ?_
      simp [wi, loopQ_normal]
      exact ⟨i + 1, by omega, by omega, rfl, by simp [tabC], sub_eq (by rw [gTo, if_pos ⟨h0, h1⟩])⟩
    · refine AW_run ?_
      simp [wi, loopQ_normal]
      refine ⟨i + 1, by omega, by omega, rfl, by simp, sub_eq (by rw [gTo, if_neg]; simpa using hno)⟩
  · have hir : i = r := by omega
    subst hir
    simp
    refine callP_ro (sign_ro _) ?_
    simp
    exact retRO [.int .i64 (gTo Z d bs O k i).sign] 0 (by simp) (by simp [frz]) (by simp [hb7])
end Go.Proofs.YticmgmemnpcbbaaGreat.Vm

namespace Go.Proofs.YticmgmemnpcbbaaGreat.Vm
open Go Go.RowKit Go.Proofs
set_option linter.unusedSimpArgs false
set_option linter.unusedVariables false

/-- The row that leaves, among the first ones. -/
def lvZ (Z : Nat → Nat → Int) (n k : Nat) (bs : Nat → Nat) : Nat → Option Nat
  | 0 => none
  | i + 1 => if Z i k ≤ 0 then lvZ Z n k bs i else match lvZ Z n k bs i with
    | none => some i
    | some j => if Z i n * Z j k < Z j n * Z i k ∨ Z i n * Z j k = Z j n * Z i k ∧ bs i < bs j then some i else some j
theorem lvZ_lt {Z : Nat → Nat → Int} {n k : Nat} {bs : Nat → Nat} : ∀ {i j : Nat}, lvZ Z n k bs i = some j → j < i
  | 0, _, h => by cases h
  | i + 1, j, h => by
    rw [lvZ] at h
    split at h
    · have := lvZ_lt h; omega
    · cases hb : lvZ Z n k bs i with
      | none => rw [hb] at h; cases h; omega
      | some j' =>
        rw [hb] at h
        simp only at h
        split at h
        · cases h; omega
        · cases h; have := lvZ_lt hb; omega
def oI : Option Nat → Int
  | none => -1
  | some j => j
theorem leaving_ro (r n : Nat) (Z : Nat → Nat → Int) (d : Int) (bs : Nat → Nat) (fr : Nat → Bool) (k : Nat) (h : ZB r n Z d) (hk : k < n) :
    RO Tryz.prog 257 [.ptr (tabC r n Z d bs fr), .int .i64 k] (.int .i64 (oI (lvZ Z n k bs r))) := by
  have hr := h.rl
  have hn := h.nl
  have hl : ∀ i c, i < r → c ≤ n → (lim (Z i c).natAbs).length ≤ 400000 := fun i c hi hc => Nat.le_trans (little_len (mid_little (h.z i c hi hc))) (by omega)
  have hT : ∀ i c j c', i < r → c ≤ n → j < r → c' ≤ n → RO Tryz.prog 231 [.agg (biC (Z i c)), .agg (biC (Z j c'))] (.agg (biC (Z i c * Z j c'))) := fun i c j c' h1 h2 h3 h4 => timesZ_ro _ _ (hl i c h1 h2) (hl j c' h3 h4)
  have hP : ∀ i c j c', i < r → c ≤ n → j < r → c' ≤ n → (lim (Z i c * Z j c').natAbs).length ≤ 1048576 := fun i c j c' h1 h2 h3 h4 => Nat.le_trans (little_len (mul_little (h.z i c h1 h2) (h.z j c' h3 h4))) (by omega)
  refine ro_of2 Tryz.func257 rfl rfl (by rw [Tryz.ntmps257]; simp) fun bl => ?_
  rw [Tryz.ntmps257, Tryz.results257]
  refine AW_runA ?_
  simp
  refine AW_runA ?_
  simp
  refine AW_runA ?_
  simp [tabC]
  refine AW_for (fun i : Nat => [(0, .ptr (tabC r n Z d bs fr)), (1, .int .i64 k), (5, .int .i64 (oI (lvZ Z n k bs i))), (12, .sl (zzv r (n + 1) Z)), (13, .int .i64 r), (14, .int .i64 i)]) (fun i => bl) (fun i => i ≤ r) (fun i => r - i) _ 0 (Nat.zero_le _) ⟨rfl, by simp [tabC, lvZ, oI], Sub.refl _⟩ ?_
  intro i hi
  have wi : IntKind.i64.wrap ((i : Int) + 1) = (i : Int) + 1 := i64_in (by omega) (by omega)
  refine AW_runA ?_
  simp
  refine AW_runA ?_
  simp
  refine ⟨fun hlt => ?_, fun hlt => ?_⟩
  · refine AW_seq (AW_block ?_)
    refine AW_runA ?_
    simp [hlt]
    refine AW_runA ?_
    simp [show k < n + 1 by omega]
    refine callP_ro (sign_ro _) ?_
    simp
    refine ⟨fun hle => ?_, fun hgt => ?_⟩
    · refine AW_run ?_
      simp [wi, loopQ_normal]
      have e : lvZ Z n k bs (i + 1) = lvZ Z n k bs i := by rw [lvZ, if_pos hle]
      exact ⟨i + 1, by omega, by omega, rfl, by simp [e], Sub.refl _⟩
    · have hng : ¬ Z i k ≤ 0 := by omega
      cases hb : lvZ Z n k bs i with
      | none =>
        have e : lvZ Z n k bs (i + 1) = some i := by rw [lvZ, if_neg hng, hb]
        refine AW_run ?_
        simp [oI]
        refine AW_run ?_
        simp [wi, loopQ_normal]
        exact ⟨i + 1, by omega, by omega, rfl, by simp [e, oI], Sub.refl _⟩
      | some j =>
        have hj := lvZ_lt hb
        have e : lvZ Z n k bs (i + 1) = if Z i n * Z j k < Z j n * Z i k ∨ Z i n * Z j k = Z j n * Z i k ∧ bs i < bs j then some i else some j := by rw [lvZ, if_neg hng, hb]
        have hneg : ¬ (j : Int) < 0 := by omega
        have hC := compareZ_ro (Z i n * Z j k) (Z j n * Z i k) (hP i n j k hlt (by omega) (by omega) (by omega)) (hP j n i k (by omega) (by omega) hlt (by omega))
        refine AW_runA ?_
        simp [oI, hneg]
        refine AW_runA ?_
        simp
        refine AW_quiet mixedO (by kernel_rfl) ?_
        simp [tabC, hlt, show j < r by omega, show k < n + 1 by omega]
        refine hcQ_ro (hT i n j k hlt (by omega) (by omega) (by omega)) ?_
        simp [tabC, hlt, show j < r by omega, show k < n + 1 by omega]
        refine hcQ_ro (hT j n i k (by omega) (by omega) hlt (by omega)) ?_
        simp
        refine hcQ_ro hC ?_
        simp
        refine AW_runA ?_
        simp
        generalize Z i n * Z j k = A at *
        generalize Z j n * Z i k = B at *
        have hjr : j < r := by omega
        refine AW_qway mixedO (by kernel_rfl) [(0, .ptr (tabC r n Z d bs fr)), (1, .int .i64 k), (5, .int .i64 j), (6, .int .i64 i), (8, .int .i64 (cmpZ A B)), (12, .sl (zzv r (n + 1) Z)), (13, .int .i64 r), (14, .int .i64 i)] _ bl 87 (.bool (decide (A < B ∨ A = B ∧ bs i < bs j))) ⟨rfl, by simp [tabC], Sub.refl _⟩ rfl ?_ ?_
        · rcases Int.lt_trichotomy A B with g | g | g
          · have ec : cmpZ A B = -1 := by unfold cmpZ; rw [if_pos g]
            simp [ec, g]
          · have ec : cmpZ A B = 0 := by unfold cmpZ; rw [if_neg (by omega), if_pos g]
            have g2 : ¬ A < B := by omega
            subst g
            simp [ec, tabC, hlt, hjr]
          · have ec : cmpZ A B = 1 := by unfold cmpZ; rw [if_neg (by omega), if_neg (by omega)]
            have g2 : ¬ A < B := by omega
            have g3 : ¬ A = B := by omega
            simp [ec, g2, g3]
        refine AW_run ?_
        simp
        refine ⟨fun hc => ?_, fun hc hc2 => ?_⟩
        · rw [if_pos hc] at e
          refine AW_run ?_
          simp [wi, loopQ_normal]
          exact ⟨i + 1, by omega, by omega, rfl, by simp [e, oI, tabC], Sub.refl _⟩
        · rw [if_neg (fun h => h.elim (fun g => by omega) (fun g => by have := hc2 g.1; omega))] at e
          refine AW_run ?_
          simp [wi, loopQ_normal]
          exact ⟨i + 1, by omega, by omega, rfl, by simp [e, oI, tabC], Sub.refl _⟩
  · have hir : i = r := by omega
    subst hir
    refine AW_run ?_
    simp
    exact retRO [.int .i64 (oI (lvZ Z n k bs i))] 0 (by simp) (by simp [frz]) (Sub.refl _)
end Go.Proofs.YticmgmemnpcbbaaGreat.Vm

namespace Go.Proofs.YticmgmemnpcbbaaGreat.Vm
open Go Go.Proofs
set_option linter.unusedSimpArgs false
set_option linter.unusedVariables false

structure MidC where
  ids : List Int
  d : Option Rat
  b : Int → Option Blk
structure LoopC where
  j : Nat
  b : Int → Option Blk
end Go.Proofs.YticmgmemnpcbbaaGreat.Vm

namespace Go.Proofs.YticmgmemnpcbbaaGreat.Vm
open Go Go.Proofs
set_option linter.unusedSimpArgs false
set_option linter.unusedVariables false

theorem mapM_idx {α β : Type} {f : α → Option β} : ∀ (xs : List α) (ys : List β), xs.length = ys.length → (∀ (i : Nat) x y, xs[i]? = some x → ys[i]? = some y → f x = some y) → xs.mapM f = some ys
  | [], [], _, _ => rfl
  | [], _ :: _, h, _ => by simp at h
  | _ :: _, [], h, _ => by simp at h
  | x :: xs, y :: ys, h, hf => by
    have h1 := hf 0 x y rfl rfl
    have h2 := mapM_idx xs ys (by simpa using h) (fun i a b ha hb => hf (i + 1) a b (by simpa using ha) (by simpa using hb))
    simp [List.mapM_cons, h1, h2]
end Go.Proofs.YticmgmemnpcbbaaGreat.Vm

namespace Go.Proofs.YticmgmemnpcbbaaGreat.Vm
open Go Go.RowKit Go.Proofs
set_option linter.unusedSimpArgs false
set_option linter.unusedVariables false

theorem zv_congr {n : Nat} {f g : Nat → Int} (h : ∀ c, c < n → f c = g c) : zv n f = zv n g := List.map_congr_left fun c hc => by rw [h c (by simpa using hc)]
/-- Rows in blocks of the call's own. -/
structure ZG (b : Int → Option Blk) (gR : Int) (ids : List Int) (r n : Nat) (Z : Nat → Nat → Int) : Prop where
  len : ids.length = r
  top : b gR = some ⟨1, ids.map fun g => [.lsl g 2 0 n]⟩
  row : ∀ (i : Nat) (g : Int), ids[i]? = some g → b g = some ⟨2, zv n (Z i)⟩
  pos : ∀ g, g ∈ ids → 0 ≤ g
  inj : ∀ (i j : Nat) (g : Int), ids[i]? = some g → ids[j]? = some g → i = j
  no0 : gR ∉ ids
theorem ZG.congr {b : Int → Option Blk} {gR : Int} {ids : List Int} {r n : Nat} {Z Z' : Nat → Nat → Int} (h : ZG b gR ids r n Z) (hZ : ∀ i c, i < r → c < n → Z i c = Z' i c) : ZG b gR ids r n Z' :=
  ⟨h.len, h.top, fun i g hi => by
    rw [h.row i g hi, zv_congr fun c hc => hZ i c (by rw [← h.len]; exact (List.getElem?_eq_some_iff.1 hi).1) hc], h.pos, h.inj, h.no0⟩
theorem ZG.put {b : Int → Option Blk} {gR g : Int} {ids : List Int} {r n i : Nat} {Z Z' : Nat → Nat → Int} (h : ZG b gR ids r n Z) (hi : ids[i]? = some g) (hZ : ∀ a c, a ≠ i → c < n → Z a c = Z' a c) : ZG (upd b g (some ⟨2, zv n (Z' i)⟩)) gR ids r n Z' := by
  have hm := List.mem_of_getElem? hi
  refine ⟨h.len, ?_, fun k g' hk => ?_, h.pos, h.inj, h.no0⟩
  · rw [upd_ne _ _ _ _ (fun e => h.no0 (by rw [e]; exact hm))]; exact h.top
  · by_cases e : k = i
    · subst e
      rw [hi] at hk; cases hk
      rw [upd_same]
    · have hne : g' ≠ g := fun e2 => e (h.inj k i g (by rw [hk, e2]) hi)
      rw [upd_ne _ _ _ _ hne, h.row k g' hk, zv_congr fun c hc => hZ k c e hc]
theorem ZG.keep {b b' : Int → Option Blk} {gR : Int} {ids : List Int} {r n : Nat} {Z : Nat → Nat → Int} (h : ZG b gR ids r n Z) (hk : ∀ x y, x = gR ∨ x ∈ ids → b x = some y → b' x = some y) : ZG b' gR ids r n Z :=
  ⟨h.len, hk _ _ (.inl rfl) h.top, fun i g hi => hk _ _ (.inr (List.mem_of_getElem? hi)) (h.row i g hi), h.pos, h.inj, h.no0⟩
theorem ZG.at {b : Int → Option Blk} {gR : Int} {ids : List Int} {r n : Nat} {Z : Nat → Nat → Int} (h : ZG b gR ids r n Z) (i : Nat) (hi : i < r) : ∃ g, ids[i]? = some g ∧ g ∈ ids ∧ 0 ≤ g ∧ b g = some ⟨2, zv n (Z i)⟩ := by
  have hl := h.len
  have e : ids[i]? = some (ids[i]'(by omega)) := List.getElem?_eq_getElem _
  exact ⟨_, e, List.mem_of_getElem? e, h.pos _ (List.mem_of_getElem? e), h.row i _ e⟩
/-- The blocks of a tableau: the struct, its rows, its basis, what is free. -/
structure TG where
  T : Int
  R : Int
  B : Int
  F : Int
  ids : List Int
/-- The numbers of a tableau. -/
structure TN where
  r : Nat
  n : Nat
  Z : Nat → Nat → Int
  d : Int
  bs : Nat → Nat
  fr : Nat → Bool
def TN.c (t : TN) : List V := tabC t.r t.n t.Z t.d t.bs t.fr
structure TT (b : Int → Option Blk) (g : TG) (t : TN) : Prop where
  grid : ZG b g.R g.ids t.r (t.n + 1) t.Z
  hd : b g.T = some ⟨6, [[.lsl g.R 1 0 t.r, .bool (decide (t.d < 0)), .sl (iv (lim t.d.natAbs)), .lsl g.B 1 0 t.r, .int .i64 t.n, .lsl g.F 1 0 t.n]]⟩
  ba : b g.B = some ⟨1, iv (lb t.r t.bs)⟩
  fre : b g.F = some ⟨1, lv t.n t.fr⟩
  pT : 0 ≤ g.T
  pR : g.R < 0 → t.r = 0
  pB : g.B < 0 → t.r = 0
  pF : 0 ≤ g.F
  nd : (g.T :: g.R :: g.B :: g.F :: g.ids).Nodup
def TG.all (g : TG) : List Int := g.T :: g.R :: g.B :: g.F :: g.ids
theorem TT.keep {b b' : Int → Option Blk} {g : TG} {t : TN} (h : TT b g t) (hk : ∀ x y, x ∈ g.all → b x = some y → b' x = some y) : TT b' g t :=
  ⟨h.grid.keep fun x y hx hy => hk x y (by unfold TG.all; rcases hx with rfl | hx <;> simp [*]) hy, hk _ _ (by simp [TG.all]) h.hd, hk _ _ (by simp [TG.all]) h.ba, hk _ _ (by simp [TG.all]) h.fre, h.pT, h.pR, h.pB, h.pF, h.nd⟩
/-- The basis, frozen. -/
theorem TT.frzB {b : Int → Option Blk} {g : TG} {t : TN} (h : TT b g t) (m : Nat) : frz b (m + 1) (.lsl g.B 1 0 t.r) = some (.sl (iv (lb t.r t.bs))) := by
  rcases Int.lt_or_le g.B 0 with hneg | hB
  · have hr := h.pB hneg
    rw [hr]
    have e : lb 0 t.bs = [] := rfl
    rw [e]
    simp [Vm.frz, hneg, iv]
  have h1 := frz_lsl (n := m) hB h.ba
  rw [mapMM_cl (iv_cl _)] at h1
  rw [show (iv (lb t.r t.bs)).length = t.r by simp] at h1
  rw [h1]; rfl
/-- Frozen. -/
theorem TT.frz {b : Int → Option Blk} {g : TG} {t : TN} (h : TT b g t) (m : Nat) : frz b (m + 4) (.loc g.T 6 0 0) = some (.ptr t.c) := by
  have hi : ∀ m (k : Int), Vm.frz b m (.int .i64 k) = some (.int .i64 k) := fun m k => by cases m <;> simp [Vm.frz]
  have hb : ∀ m (k : Bool), Vm.frz b m (.bool k) = some (.bool k) := fun m k => by cases m <;> simp [Vm.frz]
  have hs : ∀ m (l : List Int), Vm.frz b (m + 1) (.sl (iv l)) = some (.sl (iv l)) := fun m l => by simp [Vm.frz, V.cl]
  have h1 : Vm.frz b (m + 3) (.lsl g.R 1 0 t.r) = some (.sl (zzv t.r (t.n + 1) t.Z)) := by
    rcases Int.lt_or_le g.R 0 with hneg | hR
    · have hr := h.pR hneg
      rw [hr]
      have e : zzv 0 (t.n + 1) t.Z = [] := rfl
      rw [e]
      simp [Vm.frz, hneg]
    have h1 := frz_lsl (n := m + 2) hR h.grid.top
    rw [List.length_map, h.grid.len] at h1
    rw [h1]
    have h2 : (g.ids.map fun g => [V.lsl g 2 0 (t.n + 1)]).mapM (fun e : List V => e.mapM (Vm.frz b (m + 2))) = some (zzv t.r (t.n + 1) t.Z) := by
      refine mapM_idx _ _ (by simp [h.grid.len]) fun i x y hx hy => ?_
      rw [List.getElem?_map] at hx
      cases hi : g.ids[i]? with
      | none => rw [hi] at hx; cases hx
      | some gi =>
        rw [hi] at hx; cases hx
        have hlt : i < t.r := by rw [← h.grid.len]; exact (List.getElem?_eq_some_iff.1 hi).1
        rw [List.getElem?_eq_getElem (by simpa using hlt), zzv_getE] at hy
        cases hy
        have h3 := frz_lsl (bl := b) (n := m + 1) (sz := 2) (els := zv (t.n + 1) (t.Z i)) (h.grid.pos gi (List.mem_of_getElem? hi)) (h.grid.row i gi hi)
        rw [mapMM_cl (zv_cl _ _)] at h3
        simp only [List.mapM_cons, List.mapM_nil]
        rw [show (zv (t.n + 1) (t.Z i)).length = t.n + 1 by simp] at h3
        rw [h3]; rfl
    rw [h2]; rfl
  have h2 : Vm.frz b (m + 3) (.lsl g.B 1 0 t.r) = some (.sl (iv (lb t.r t.bs))) := by
    rcases Int.lt_or_le g.B 0 with hneg | hB
    · have hr := h.pB hneg
      rw [hr]
      have e : lb 0 t.bs = [] := rfl
      rw [e]
      simp [Vm.frz, hneg, iv]
    have h1 := frz_lsl (n := m + 2) hB h.ba
    rw [mapMM_cl (iv_cl _)] at h1
    rw [show (iv (lb t.r t.bs)).length = t.r by simp] at h1
    rw [h1]; rfl
  have h3 : Vm.frz b (m + 3) (.lsl g.F 1 0 t.n) = some (.sl (lv t.n t.fr)) := by
    have h1 := frz_lsl (n := m + 2) h.pF h.fre
    rw [mapMM_cl (lv_cl _ _)] at h1
    rw [show (lv t.n t.fr).length = t.n by simp] at h1
    rw [h1]; rfl
  rw [frz_loc0 h.hd]
  simp only [List.mapM_cons, List.mapM_nil, h1, h2, h3, hi, hb, hs]
  rfl
end Go.Proofs.YticmgmemnpcbbaaGreat.Vm
