/- Lists of lists of numbers: sizes, comparisons, marks, arguments. -/
import Derived.Test.YtpkphjoobeacfaaK32
import Derived.Test.YtpkphjoobeacfaaK9
namespace Go.Proofs.Ytpkphjoobeacfaa.Vm
open Go Go.Proofs
set_option linter.unusedSimpArgs false
set_option linter.unusedVariables false

theorem toIntSS_ro (ws : List (List Int)) (hw : ws.length ≤ 1048576) (hws : ∀ w, w ∈ ws → w.length ≤ 1048576) : RO Try.prog 71 [.sl (ivv ws)] (.sl (ivv ws)) := by
  have := ro_of_nw 2 (toIntSS_nw ws hw hws) (dII_dep ws)
  rwa [dII_fz] at this

def szW : List (List Int) → Int → Int
  | [], left => left
  | w :: ws, left => if less left w.length < 0 then -1 else szW ws (less left w.length)
def szII (ws : List (List Int)) (left : Int) : Int := if less left ws.length < 0 then -1 else szW ws (less left ws.length)

theorem szIntSS_ro (a : List (List Int)) (left : Int) (hl : -1 ≤ left ∧ left ≤ 1048576) (ha : a.length ≤ 140737488351232) (hn : ∀ j, j ∈ a → j.length ≤ 140737488351232) : RO Try.prog 69 [.sl (ivv a), .int .i64 left] (.int .i64 (szII a left)) := by
  refine ro_of2 Try.func69 rfl rfl (by rw [Try.ntmps69]; simp) fun bl => ?_
  rw [Try.ntmps69, Try.results69]
  refine AW_run ?_
  simp
  simp (disch := omega) [i64_in]
  refine ⟨fun h => ?_, fun h => ?_⟩
  · exact retRO [_] 0 rfl (by simp [frz, szII, less]; omega) (Sub.refl _)
  refine AW_for (fun p : Nat × Int => [(0, .sl (ivv a)), (1, .int .i64 p.2), (5, .int .i64 p.1)]) (fun _ => bl) (fun p => p.1 ≤ a.length ∧ 0 ≤ p.2 ∧ p.2 ≤ 1048576 ∧ szII a left = szW (a.drop p.1) p.2) (fun p => a.length - p.1) _ (0, left - a.length) ⟨Nat.zero_le _, by simp; omega, by simp; omega, ?_⟩ ⟨rfl, by simp, Sub.refl _⟩ ?_
  · have h0 : ¬ (left - (a.length : Int) < 0) := by omega
    simp only [szII, less, if_neg h0, List.drop_zero]
  intro ⟨i, l⟩ ⟨hi, hl0, hl1, hs⟩
  simp at hi hl0 hl1 hs
  refine AW_run ?_
  simp
  refine ⟨fun h1 => ?_, fun h1 => ?_⟩
  · simp [h1]
    refine callP_ro (szIntS_ro a[i] l (by omega) (hn _ (List.getElem_mem _))) ?_
    simp
    rw [List.drop_eq_getElem_cons h1, szW] at hs
    have := less_le (left := l) (n := a[i].length) (by omega)
    refine ⟨fun h2 => ?_, fun h2 => ?_⟩
    · exact retRO [_] 0 rfl (by simp [frz, hs, h2]) (Sub.refl _)
    · simp (disch := omega) [i64_in, loopQ_normal]
      rw [if_neg (by omega)] at hs
      exact ⟨i + 1, less l a[i].length, ⟨by omega, by omega, by omega, hs⟩, by omega, rfl, by simp, Sub.refl _⟩
  · rw [List.drop_eq_nil_of_le h1, szW] at hs
    exact retRO [_] 0 rfl (by simp [frz, hs]) (Sub.refl _)

theorem szW_le : ∀ (ws : List (List Int)) (left : Int), -1 ≤ left ∧ left ≤ 1048576 → 0 ≤ szW ws left → (∀ w, w ∈ ws → (w.length : Int) ≤ left) ∧ (ws.flatten.length : Int) ≤ left
  | [], left, h, h0 => ⟨fun w hw => (by cases hw), by simp [szW] at h0; simpa using h0⟩
  | w :: ws, left, h, h0 => by
    unfold szW at h0
    split at h0
    · omega
    · rename_i hn
      have h1 := less_le (left := left) (n := w.length) h
      have h2 : less left w.length = left - w.length := by unfold less at *; split <;> split at * <;> omega
      obtain ⟨h3, h4⟩ := szW_le ws _ h1 h0
      refine ⟨fun v hv => ?_, ?_⟩
      · rcases List.mem_cons.1 hv with rfl | hv
        · omega
        · have := h3 v hv; omega
      · simp only [List.flatten_cons, List.length_append]; omega
theorem szII_le {ws : List (List Int)} {left : Int} (h : -1 ≤ left ∧ left ≤ 1048576) (h0 : 0 ≤ szII ws left) : (ws.length : Int) ≤ left ∧ (∀ w, w ∈ ws → (w.length : Int) ≤ left) ∧ (ws.flatten.length : Int) ≤ left := by
  unfold szII at h0
  split at h0
  · omega
  · rename_i hn
    have h1 := less_le (left := left) (n := ws.length) h
    have h2 : less left ws.length = left - ws.length := by unfold less at *; split <;> split at * <;> omega
    obtain ⟨h3, h4⟩ := szW_le ws _ h1 h0
    exact ⟨by omega, fun w hw => by have := h3 w hw; omega, by omega⟩

theorem eqIntSS_ro (a b : List (List Int)) (ha : a.length ≤ 140737488351232) (haw : ∀ w, w ∈ a → w.length ≤ 140737488351232) : RO Try.prog 72 [.sl (ivv a), .sl (ivv b)] (.bool (decide (a = b))) := by
  refine ro_of2 Try.func72 rfl rfl (by rw [Try.ntmps72]; simp) fun bl => ?_
  rw [Try.ntmps72, Try.results72]
  refine AW_run ?_
  simp
  refine ⟨fun h => ?_, fun h => ?_⟩
  · exact retRO0 (by simp; rintro rfl; exact h rfl) rfl rfl
  refine AW_for (fun i : Nat => [(0, .sl (ivv a)), (1, .sl (ivv b)), (5, .int .i64 i)]) (fun _ => bl) (fun i => i ≤ a.length ∧ ∀ j (h1 : j < a.length) (h2 : j < b.length), j < i → a[j] = b[j]) (fun i => a.length - i) _ 0 ⟨Nat.zero_le _, fun j _ _ h0 => by omega⟩ ⟨rfl, by simp, Sub.refl _⟩ ?_
  intro i ⟨hi, hc⟩
  refine AW_run ?_
  simp
  refine ⟨fun h1 => ?_, fun h1 => ?_⟩
  · refine AW_quiet mixedO (by kernel_rfl) ?_
    have h2 : i < b.length := by omega
    simp [h1, h2]
    refine hcQ_ro (eqIntS_ro a[i] b[i] (haw _ (List.getElem_mem h1))) ?_
    simp
    refine ⟨fun h3 => ?_, fun h3 => ?_⟩
    · exact retRO0 (by simp; rintro rfl; exact h3 rfl) rfl rfl
    · simp (disch := omega) [i64_in, loopQ_normal]
      refine ⟨i + 1, ⟨by omega, fun j hj1 hj2 hji => ?_⟩, by omega, rfl, by simp, Sub.refl _⟩
      rcases Nat.lt_or_ge j i with hlt | hge
      · exact hc j hj1 hj2 hlt
      · obtain rfl : j = i := by omega
        exact h3
  · refine retRO0 (by simp; exact List.ext_getElem (by omega) fun j hj1 hj2 => hc j hj1 hj2 (by omega)) rfl rfl

/-! ### Marks -/
def lenTo (ws : List (List Int)) (i : Nat) : Nat := (ws.take i).flatten.length
theorem lenTo_succ (ws : List (List Int)) (i : Nat) (h : i < ws.length) : lenTo ws (i + 1) = lenTo ws i + ws[i].length := by
  unfold lenTo
  rw [List.take_add_one, List.getElem?_eq_getElem h]
  simp only [Option.toList_some, List.flatten_append, List.flatten_cons, List.flatten_nil, List.append_nil, List.length_append]
theorem lenTo_le (ws : List (List Int)) (i : Nat) : lenTo ws i ≤ ws.flatten.length := by
  unfold lenTo
  conv => rhs; rw [← List.take_append_drop i ws]
  rw [List.flatten_append, List.length_append]
  omega
/-- What is known of data whose marks don't matter any more: only where it lies. -/
def Some2 (bl : Int → Option Blk) (n : Nat) (v : V) (gs : List Int) : Prop := ∃ rows els, rows.length = n ∧ ((rows = [] ∧ v = .nils ∧ gs = []) ∨ ∃ g gs', v = .lsl g 1 0 n ∧ gs = g :: gs' ∧ g ∉ gs' ∧ bl g = some ⟨1, els⟩ ∧ (g < 0 → els = []) ∧ OwnR bl 1 rows els gs')

structure St2 where
  i : Nat
  b : Int → Option Blk

theorem markIntSS_cp {bl : Int → Option Blk} {K : V → (Int → Option Blk) → Prop} (ws : List (List Int)) (k : Nat) (v : V) (gs : List Int) (h : OwnD bl (dII ws) v gs) (hk : k + ws.flatten.length ≤ 4611686018427387000) (hw : ws.length ≤ 1048576) (hws : ∀ w, w ∈ ws → w.length ≤ 1048576)
    (hK : ∀ bl', (∀ g, g ∉ gs → ∀ b, bl g = some b → bl' g = some b) → K (.int .i64 (k + ws.flatten.length : Nat)) bl') : CallP Try.prog 73 [v, .int .i64 k] bl K := by
  refine callP_of Try.func73 rfl rfl (by rw [Try.ntmps73]; simp) ?_
  rw [Try.ntmps73, Try.results73]
  refine AW_run ?_
  unfold dII at h
  rw [OwnD] at h
  rcases h with ⟨h1, rfl, rfl⟩ | ⟨g, els, gs', rfl, rfl, hg, hb, hneg, ho⟩
  · have : ws = [] := by simpa using h1
    subst this
    simp
    refine AW_for (fun _ : Unit => [(0, .nils), (1, .int .i64 k), (5, .int .i64 0)]) (fun _ => bl) (fun _ => True) (fun _ => 0) _ () trivial ⟨rfl, by simp, Sub.refl _⟩ ?_
    intro _ _
    refine AW_run ?_
    simp
    rw [retK_ret]
    refine ⟨[.int .i64 k], by simp, ?_⟩
    have := hK bl (fun _ _ _ h => h)
    simpa using this
  · have hlen := OwnR.length ho
    simp at hlen
    simp
    refine AW_for (fun p : St2 => [(0, .lsl g 1 0 ws.length), (1, .int .i64 (k + lenTo ws p.i : Nat)), (5, .int .i64 p.i)]) (fun p => p.b)
      (fun p => p.i ≤ ws.length ∧ p.b g = some ⟨1, els⟩ ∧ (∃ rows : List (List D), rows.length = ws.length ∧ (∀ (j : Nat) (h : j < ws.length), p.i ≤ j → rows[j]? = some [fl 1 (iv ws[j])]) ∧ OwnR p.b 1 rows els gs') ∧ (∀ x, x ∉ g :: gs' → ∀ y, bl x = some y → p.b x = some y))
      (fun p => ws.length - p.i) 19 ⟨0, bl⟩ ⟨Nat.zero_le _, hb, ⟨_, by simp, fun j h _ => by simp [h], ho⟩, fun x _ y h => h⟩ ⟨rfl, by simp [lenTo], Sub.refl _⟩ ?_
    rintro ⟨i, b⟩ ⟨hi, hbg, ⟨rows, hrl, hrows, hor⟩, hfr⟩
    simp only at hi hbg hrows hor hfr
    refine AW_run ?_
    simp
    have hle := lenTo_le ws i
    refine ⟨fun h1 => ?_, fun h1 => ?_⟩
    · have hge : 0 ≤ g := by
        rcases Int.lt_or_le g 0 with hlt | hge
        · have := hneg hlt; subst this; simp at hlen; omega
        · exact hge
      obtain ⟨e, gi, a1, a2, a3, a4, a5, a6⟩ := hor.at i (by omega)
      have hri : rows[i]'(by omega) = [fl 1 (iv ws[i])] := by
        have := hrows i h1 (Nat.le_refl _)
        rw [List.getElem?_eq_getElem (by omega)] at this
        exact Option.some.inj this
      rw [hri] at a2
      obtain ⟨u, rfl⟩ : ∃ u, e = [u] := by
        match e, a3 with
        | [u], _ => exact ⟨u, rfl⟩
      have o1 := own_single.1 a2
      have hs := lenTo_succ ws i h1
      have hle2 := lenTo_le ws (i + 1)
      simp [h1, hbg, a1]
      refine markIntS_cp ws[i] (k + lenTo ws i : Nat) u gi o1 (by omega) fun b' o2 k2 => ?_
      have hgi : g ∉ gi := fun hh => hg (a5 g hh)
      simp (disch := omega) [i64_in, loopQ_normal]
      refine ⟨⟨i + 1, b'⟩, ⟨by simp; omega, by simp only; rw [k2 g hgi]; exact hbg, ⟨rows.set i [fl 1 (iv (marks (k + lenTo ws i : Nat) ws[i].length))], by simpa using hrl, fun j hj hij => ?_, ?_⟩, fun x hx hx2 y hy => ?_⟩, by simp; omega, rfl, by simp [hs]; omega, Sub.refl _⟩
      · rw [List.getElem?_set_ne (by simp only at hij; omega)]
        exact hrows j hj (by simp only at hij; omega)
      · have := a6 b' [fl 1 (iv (marks (k + lenTo ws i : Nat) ws[i].length))] [u] (own_single.2 o2) rfl a4 fun x hx hn y hy => by rw [k2 x hn]; exact hy
        have he : els.set i [u] = els := by
          apply List.ext_getElem?
          intro j
          rw [List.getElem?_set]
          split
          · rename_i hj; subst hj; rw [if_pos (by omega)]; exact a1.symm
          · rfl
        rw [he] at this
        exact this
      · simp only
        rw [k2 x (fun h => hx2 (a5 x h))]
        exact hfr x (by simp [hx, hx2]) y hy
    · have : i = ws.length := by omega
      subst this
      rw [retK_ret]
      refine ⟨[.int .i64 (k + ws.flatten.length : Nat)], by simp [lenTo], ?_⟩
      exact hK _ hfr

/-! ### Arguments -/
theorem bytes_ints : 1 ≤ Try.prog.bytesOf 31 := by
  have : Try.prog.bytesOf 31 = 24 := by kernel_rfl
  omega
structure FitW (ws : List (List Int)) : Prop where
  n : ws.length ≤ 140737488351232
  w : ∀ w, w ∈ ws → w.length ≤ 140737488351232
theorem ivv_of_co {cs : List V} (h : CO Try.prog 55 cs) : ∃ ws : List (List Int), cs = [.sl (ivv ws)] ∧ FitW ws := by
  obtain ⟨xs, rfl, hx, hl⟩ := co_slice Try.underlying55 h
  have : ∃ ws : List (List Int), xs = ivv ws ∧ ∀ w, w ∈ ws → w.length ≤ 140737488351232 := by
    clear hl h
    induction xs with
    | nil => exact ⟨[], rfl, fun n hn => by cases hn⟩
    | cons x xs ih =>
      obtain ⟨ws, rfl, hws⟩ := ih fun y hy => hx y (List.mem_cons_of_mem _ hy)
      obtain ⟨w, rfl, hw, _⟩ := iv_of_co (hx x List.mem_cons_self)
      refine ⟨w :: ws, rfl, fun m hm => ?_⟩
      rcases List.mem_cons.1 hm with rfl | hm
      · omega
      · exact hws m hm
  obtain ⟨ws, rfl, hws⟩ := this
  have := len_of hl bytes_ints
  exact ⟨ws, rfl, by simpa using this, hws⟩

end Go.Proofs.Ytpkphjoobeacfaa.Vm
