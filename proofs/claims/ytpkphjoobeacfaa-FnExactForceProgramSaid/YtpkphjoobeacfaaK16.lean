/- Marks: every cell of data of the call's own gets a number of its own; whether they stand. -/
import Derived.Test.YtpkphjoobeacfaaK18
namespace Go.Proofs.Ytpkphjoobeacfaa.Vm
open Go Go.Proofs
set_option linter.unusedSimpArgs false
set_option linter.unusedVariables false

/-- Rows written over from the beginning. -/
def over (ys xs : List (List V)) (i : Nat) : List (List V) := ys.take i ++ xs.drop i
@[simp] theorem over_zero (ys xs : List (List V)) : over ys xs 0 = xs := by simp [over]
theorem over_length (ys xs : List (List V)) (i : Nat) (hl : ys.length = xs.length) : (over ys xs i).length = xs.length := by simp [over]; omega
theorem over_all (ys xs : List (List V)) (i : Nat) (hl : ys.length = xs.length) (hi : xs.length ≤ i) : over ys xs i = ys := by
  simp [over, List.take_of_length_le (show ys.length ≤ i by omega), List.drop_of_length_le hi]
theorem over_get (ys xs : List (List V)) (i : Nat) (hl : ys.length = xs.length) (hi : i < xs.length) : (over ys xs i)[i]? = some xs[i] := by
  unfold over
  rw [List.getElem?_append_right (by simp; omega), List.length_take, Nat.min_eq_left (by omega), Nat.sub_self, List.getElem?_drop]
  simp [hi]
theorem over_getE (ys xs : List (List V)) (i : Nat) (hl : ys.length = xs.length) (hi : i < xs.length) : (over ys xs i)[i]'(by rw [over_length ys xs i hl]; exact hi) = xs[i] := by
  have := over_get ys xs i hl hi
  rw [List.getElem?_eq_getElem (by rw [over_length ys xs i hl]; exact hi)] at this
  exact Option.some.inj this
theorem over_set (ys xs : List (List V)) (i : Nat) (hl : ys.length = xs.length) (hi : i < ys.length) (x : List V) (hx : x = ys[i]) : (over ys xs i).set i x = over ys xs (i + 1) := by
  subst hx
  apply List.ext_getElem?
  intro j
  have hz : ∀ k, k ≤ ys.length → ∀ j, (over ys xs k)[j]? = if j < k then ys[j]? else xs[j]? := by
    intro k hk j
    unfold over
    by_cases hj : j < k
    · rw [if_pos hj, List.getElem?_append_left (by simp; omega), List.getElem?_take_of_lt hj]
    · rw [if_neg hj, List.getElem?_append_right (by simp; omega), List.length_take, Nat.min_eq_left hk, List.getElem?_drop]
      congr 1; omega
  rw [List.getElem?_set, hz i (by omega), hz (i + 1) (by omega), over_length _ _ _ hl]
  by_cases hij : i = j
  · subst hij; simp [hi]; omega
  · rw [if_neg hij]
    by_cases h1 : j < i
    · simp [h1, show j < i + 1 by omega]
    · simp [h1, show ¬ j < i + 1 by omega]

def marks (k : Int) (n : Nat) : List Int := (List.range n).map fun (i : Nat) => k + i
@[simp] theorem marks_length (k : Int) (n : Nat) : (marks k n).length = n := by simp [marks]
@[simp] theorem marks_getE (k : Int) (n i : Nat) (h : i < (marks k n).length) : (marks k n)[i] = k + i := by simp [marks]
theorem marks_at (k : Int) (n i : Nat) (h : i < n) : (iv (marks k n))[i]'(by simpa using h) = [.int .i64 (k + i)] := by simp [marks]

theorem markIntS_cp {bl : Int → Option Blk} {K : V → (Int → Option Blk) → Prop} (xs : List Int) (k : Int) (v : V) (gs : List Int) (h : OwnD bl (fl 1 (iv xs)) v gs) (hk : -1 ≤ k ∧ k + xs.length ≤ 4611686018427387904)
    (hK : ∀ bl', OwnD bl' (fl 1 (iv (marks k xs.length))) v gs → (∀ g, g ∉ gs → bl' g = bl g) → K (.int .i64 (k + xs.length)) bl') : CallP Try.prog 62 [v, .int .i64 k] bl K := by
  refine callP_of Try.func62 rfl rfl (by rw [Try.ntmps62]; simp) ?_
  rw [Try.ntmps62, Try.results62]
  refine AW_run ?_
  rcases own_iv.1 h with ⟨rfl, rfl, rfl⟩ | ⟨g, rfl, rfl, hb, hg0⟩
  · simp
    refine AW_for (fun _ : Unit => [(0, .nils), (1, .int .i64 k), (5, .int .i64 0)]) (fun _ => bl) (fun _ => True) (fun _ => 0) _ () trivial ⟨rfl, by simp, Sub.refl _⟩ ?_
    intro _ _
    refine AW_run ?_
    simp
    rw [retK_ret]
    refine ⟨[.int .i64 k], by simp, ?_⟩
    have := hK bl (own_iv.2 (.inl ⟨rfl, rfl, rfl⟩)) (fun _ _ => rfl)
    simpa using this
  · simp
    refine AW_for (fun i : Nat => [(0, .lsl g 1 0 xs.length), (1, .int .i64 (k + i)), (5, .int .i64 i)]) (fun i => upd bl g (some ⟨1, over (iv (marks k xs.length)) (iv xs) i⟩)) (fun i => i ≤ xs.length) (fun i => xs.length - i) _ 0 (Nat.zero_le _) ⟨rfl, by simp, sub_eq ?_⟩ ?_
    · funext x
      simp only [upd_apply]
      split
      · rename_i hx; subst hx; simp [hb]
      · rfl
    intro i hi
    refine AW_run ?_
    simp
    refine ⟨fun h1 => ?_, fun h1 => ?_⟩
    · have h2 : i < (iv xs).length := by simpa using h1
      have hge : 0 ≤ g := by
        rcases Int.lt_or_le g 0 with hlt | hge
        · have := hg0 hlt; subst this; simp at h1
        · exact hge
      have hgi := over_get (iv (marks k xs.length)) (iv xs) i (by simp) h2
      simp (disch := omega) [h1, hgi, i64_in, loopQ_normal]
      refine ⟨i + 1, by omega, by omega, rfl, by simp; omega, sub_eq ?_⟩
      rw [over_set _ _ _ (by simp) (by simpa using h1) _ (by simp [marks])]
    · have hi' : i = xs.length := by omega
      subst hi'
      rw [retK_ret]
      refine ⟨[.int .i64 (k + xs.length)], by simp, ?_⟩
      refine hK _ (own_iv.2 (.inr ⟨g, by simp, rfl, ?_, fun h => by have := hg0 h; subst this; rfl⟩)) (fun g' hg' => ?_)
      · simp; rw [over_all _ _ _ (by simp) (by simp)]
      · simp at hg'; simp [hg']

theorem heldIntS_ro (n : Nat) (k : Int) (hk : -1 ≤ k ∧ k + n ≤ 4611686018427387904) : RO Try.prog 65 [.sl (iv (marks k n)), .int .i64 k] (.int .i64 (k + n)) := by
  refine ro_of2 Try.func65 rfl rfl (by rw [Try.ntmps65]; simp) fun bl => ?_
  rw [Try.ntmps65, Try.results65]
  refine AW_run ?_
  simp
  refine AW_for (fun i : Nat => [(0, .sl (iv (marks k n))), (1, .int .i64 (k + i)), (5, .int .i64 i)]) (fun _ => bl) (fun i => i ≤ n) (fun i => n - i) _ 0 (Nat.zero_le _) ⟨rfl, by simp, Sub.refl _⟩ ?_
  intro i hi
  refine AW_run ?_
  simp
  refine ⟨fun h1 => ?_, fun h1 => ?_⟩
  · have h2 : i < (iv (marks k n)).length := by simpa using h1
    simp (disch := omega) [h1, i64_in, loopQ_normal]
    refine ⟨i + 1, by omega, by omega, rfl, by simp; omega, Sub.refl _⟩
  · have hi' : i = n := by omega
    subst hi'
    exact retRO0 (by simp) rfl rfl

end Go.Proofs.Ytpkphjoobeacfaa.Vm
