/- FnColumns: for every code the law of the columns (the equilibrium matrix applied to densities, and the pull on every free joint) returns true; no condition. -/


import Derived.Test.YtmbcofnnibpbeaaGreatQCFnColumns8

namespace Go.Proofs.YtmbcofnnibpbeaaGreat.Vm
open Go Go.Proofs
set_option linter.unusedSimpArgs false
set_option linter.unusedVariables false

theorem iv_set27 (l : List Int) (k : Nat) (v : Int) : (iv l).set k [.int .i64 v] = iv (l.set k v) := by
  unfold iv; rw [List.map_set]
theorem all_set2 {p : Int → Bool} {l : List Int} {a b : Nat} {v w : Int} (h : l.all p = true) (ha : a < l.length) (hb : b < l.length) (hab : a ≠ b) : ((l.set a v).set b w).all p = (p v && p w) := by
  rw [Bool.eq_iff_iff, Bool.and_eq_true, List.all_eq_true]
  constructor
  · intro h1
    refine ⟨h1 v ?_, h1 w ?_⟩
    · refine List.mem_iff_getElem.2 ⟨a, by simpa using ha, ?_⟩
      rw [List.getElem_set_ne (Ne.symm hab), List.getElem_set_self]
    · exact List.mem_iff_getElem.2 ⟨b, by simpa using hb, List.getElem_set_self _⟩
  · rintro ⟨h1, h2⟩ x hx
    rcases List.mem_or_eq_of_mem_set hx with hx | rfl
    · rcases List.mem_or_eq_of_mem_set hx with hx | rfl
      · exact List.all_eq_true.1 h x hx
      · exact h1
    · exact h2

def putOk (s : Str) (l : List Int) (j x y : Int) : Bool := lOk s l && (decide (0 ≤ j) && decide (j < s.js.length)) && (decide (-200 ≤ x) && decide (x ≤ 200)) && (decide (-200 ≤ y) && decide (y ≤ 200)) &&
  forceOk (lat l (2 * j.toNat) + x) && forceOk (lat l (2 * j.toNat + 1) + y)
def put1 (l : List Int) (j x : Int) : List Int := l.set (2 * j.toNat) (lat l (2 * j.toNat) + x)
def put2 (l : List Int) (j x y : Int) : List Int := (put1 l j x).set (2 * j.toNat + 1) (lat l (2 * j.toNat + 1) + y)
def putL (s : Str) (l : List Int) (j x y : Int) : List Int := if putOk s l j x y = true then put2 l j x y else []
def dOpt (ns : List Int) (b : Bool) : D := .t [fl 1 (iv ns), .c (.bool b)]
theorem own_opt {bl : Int → Option Blk} {ns : List Int} {b : Bool} {v : V} {gs : List Int} : OwnD bl (dOpt ns b) v gs ↔ ∃ u, v = .tup [u, .bool b] ∧ OwnD bl (fl 1 (iv ns)) u gs := by
  unfold dOpt
  rw [OwnD]
  constructor
  · rintro ⟨vs, rfl, h⟩
    obtain ⟨u, w, g1, g2, rfl, rfl, _, h1, h2⟩ := own_pair.1 h
    rw [OwnD] at h2
    obtain ⟨rfl, _, rfl⟩ := h2
    exact ⟨u, rfl, by simpa using h1⟩
  · rintro ⟨u, rfl, h⟩
    exact ⟨_, rfl, own_pair.2 ⟨u, _, gs, [], rfl, by simp, by simp, h, by rw [OwnD]; exact ⟨rfl, rfl, rfl⟩⟩⟩
theorem dOpt_fz (ns : List Int) (b : Bool) : (dOpt ns b).fz = .tup [.sl (iv ns), .bool b] := by simp [dOpt, D.fz, D.fzL]
theorem dOpt_dep (ns : List Int) (b : Bool) : (dOpt ns b).dep 2 := by
  unfold dOpt; rw [D.dep]; refine ⟨by omega, ?_⟩; simp [D.depL, fl_dep, D.dep]
theorem dOpt_sc (ns : List Int) (b : Bool) : (dOpt ns b).sc = true := by
  simp [dOpt, D.sc, D.scL, fl_sc (iv_ow _), V.ow]

end Go.Proofs.YtmbcofnnibpbeaaGreat.Vm

namespace Go.Proofs.YtmbcofnnibpbeaaGreat.Vm
open Go Go.Proofs
set_option linter.unusedSimpArgs false
set_option linter.unusedVariables false

end Go.Proofs.YtmbcofnnibpbeaaGreat.Vm

namespace Go.Proofs.YtmbcofnnibpbeaaGreat.Vm
open Go Go.Proofs
set_option linter.unusedSimpArgs false
set_option linter.unusedVariables false

theorem putL_le (s : Str) (l : List Int) (j x y : Int) (hl : l.length ≤ 1048576) : (putL s l j x y).length ≤ 1048576 := by
  unfold putL; split
  · simp [put2, put1]; exact hl
  · simp

end Go.Proofs.YtmbcofnnibpbeaaGreat.Vm

namespace Go.Proofs.YtmbcofnnibpbeaaGreat.Vm
open Go Go.Proofs
set_option linter.unusedSimpArgs false
set_option linter.unusedVariables false

def szW : List (List Int) → Int → Int
  | [], left => left
  | w :: ws, left => if less left w.length < 0 then -1 else szW ws (less left w.length)
def szII (ws : List (List Int)) (left : Int) : Int := if less left ws.length < 0 then -1 else szW ws (less left ws.length)

theorem szW_le : ∀ (ws : List (List Int)) (left : Int), -1 ≤ left ∧ left ≤ 1048576 → 0 ≤ szW ws left → (∀ w, w ∈ ws → (w.length : Int) ≤ left) ∧ (ws.flatten.length : Int) ≤ left
  | [], left, h, h0 => ⟨fun w hw => (by cases hw), by simp [szW] at h0; simpa using h0⟩
  | w :: ws, left, h, h0 => by
    unfold szW at h0
    split at h0
    · omega
    · rename_i hn
      have h1 := less_le (left := left) (n := w.length) h
      have h2 : less left w.length = left - w.length := by unfold less at *; split <;> split at * <;> omega
      obtain ⟨h3, h4⟩ := szW_le ws _ h1 h0
      refine ⟨fun v hv => ?_, ?_⟩
      · rcases List.mem_cons.1 hv with rfl | hv
        · omega
        · have := h3 v hv; omega
      · simp only [List.flatten_cons, List.length_append]; omega
theorem szII_le {ws : List (List Int)} {left : Int} (h : -1 ≤ left ∧ left ≤ 1048576) (h0 : 0 ≤ szII ws left) : (ws.length : Int) ≤ left ∧ (∀ w, w ∈ ws → (w.length : Int) ≤ left) ∧ (ws.flatten.length : Int) ≤ left := by
  unfold szII at h0
  split at h0
  · omega
  · rename_i hn
    have h1 := less_le (left := left) (n := ws.length) h
    have h2 : less left ws.length = left - ws.length := by unfold less at *; split <;> split at * <;> omega
    obtain ⟨h3, h4⟩ := szW_le ws _ h1 h0
    exact ⟨by omega, fun w hw => by have := h3 w hw; omega, by omega⟩

/-! ### Marks -/
def lenTo (ws : List (List Int)) (i : Nat) : Nat := (ws.take i).flatten.length
theorem lenTo_succ (ws : List (List Int)) (i : Nat) (h : i < ws.length) : lenTo ws (i + 1) = lenTo ws i + ws[i].length := by
  unfold lenTo
  rw [List.take_add_one, List.getElem?_eq_getElem h]
  simp only [Option.toList_some, List.flatten_append, List.flatten_cons, List.flatten_nil, List.append_nil, List.length_append]
theorem lenTo_le (ws : List (List Int)) (i : Nat) : lenTo ws i ≤ ws.flatten.length := by
  unfold lenTo
  conv => rhs; rw [← List.take_append_drop i ws]
  rw [List.flatten_append, List.length_append]
  omega
/-- What is known of data whose marks don't matter any more: only where it lies. -/
def Some2 (bl : Int → Option Blk) (n : Nat) (v : V) (gs : List Int) : Prop := ∃ rows els, rows.length = n ∧ ((rows = [] ∧ v = .nils ∧ gs = []) ∨ ∃ g gs', v = .lsl g 1 0 n ∧ gs = g :: gs' ∧ g ∉ gs' ∧ bl g = some ⟨1, els⟩ ∧ (g < 0 → els = []) ∧ OwnR bl 1 rows els gs')

structure St2 where
  i : Nat
  b : Int → Option Blk

/-! ### Arguments -/
theorem bytes_ints : 1 ≤ Tryz.prog.bytesOf 27 := by
  have : Tryz.prog.bytesOf 27 = 24 := by kernel_rfl
  omega
structure FitW (ws : List (List Int)) : Prop where
  n : ws.length ≤ 140737488351232
  w : ∀ w, w ∈ ws → w.length ≤ 140737488351232
theorem ivv_of_co {cs : List V} (h : CO Tryz.prog 133 cs) : ∃ ws : List (List Int), cs = [.sl (ivv ws)] ∧ FitW ws := by
  obtain ⟨xs, rfl, hx, hl⟩ := co_slice Tryz.underlying133 h
  have : ∃ ws : List (List Int), xs = ivv ws ∧ ∀ w, w ∈ ws → w.length ≤ 140737488351232 := by
    clear hl h
    induction xs with
    | nil => exact ⟨[], rfl, fun n hn => by cases hn⟩
    | cons x xs ih =>
      obtain ⟨ws, rfl, hws⟩ := ih fun y hy => hx y (List.mem_cons_of_mem _ hy)
      obtain ⟨w, rfl, hw, _⟩ := iv_of_co (hx x List.mem_cons_self)
      refine ⟨w :: ws, rfl, fun m hm => ?_⟩
      rcases List.mem_cons.1 hm with rfl | hm
      · omega
      · exact hws m hm
  obtain ⟨ws, rfl, hws⟩ := this
  have := len_of hl bytes_ints
  exact ⟨ws, rfl, by simpa using this, hws⟩

end Go.Proofs.YtmbcofnnibpbeaaGreat.Vm

namespace Go.Proofs.YtmbcofnnibpbeaaGreat.Vm
open Go Go.Proofs
set_option linter.unusedSimpArgs false
set_option linter.unusedVariables false

theorem callP_one {P : Program} {f : FuncId} {xs : List V} {bl : Int → Option Blk} {V0 : Int → V} {B : Blk}
    (h : CallP P f xs bl fun v bl' => ∃ g : Int, 0 ≤ g ∧ bl g = none ∧ v = V0 g ∧ bl' g = some B ∧ Sub bl bl') : CallP P f xs bl fun v bl' => ∃ g : Int, 0 ≤ g ∧ bl g = none ∧ v = V0 g ∧ bl' = upd bl g (some B) :=
  ⟨h.1, fun w0 M F w vs hm hr => (h.2 w0 M F w vs hm hr).mono fun e w' ⟨v, x, bl', F', h1, h2, h3, h4, h5, h6, g, h7, h8, h9, h10, h11⟩ => by
    refine ⟨v, x, upd bl g (some B), F', h1, h2, h3, h4, h5.sub fun y b hb => ?_, h6, g, h7, h8, h9, rfl⟩
    rw [upd_apply] at hb
    split at hb
    · rename_i e; rw [e, h10, hb]
    · exact h11 y b hb⟩

theorem impl_NoLoad_one (s : Str) (hs : s.sz) (h : sOk s = true) (bl : Int → Option Blk) : CallP Tryz.prog 33 [.agg s.c] bl fun v bl' => ∃ g : Int, 0 ≤ g ∧ bl g = none ∧ v = .lsl g 1 0 (2 * s.js.length) ∧ bl' = upd bl g (some ⟨1, iv (List.replicate (2 * s.js.length) 0)⟩) := by
  have hj := hs.js
  refine callP_one (V0 := fun g => .lsl g 1 0 (2 * s.js.length)) ?_
  refine callP_of Tryz.func33 rfl rfl (by rw [Tryz.ntmps33]; simp) ?_
  rw [Tryz.ntmps33, Tryz.results33]
  refine AW_run ?_
  simp [Str.c]
  intro g hg0 hg
  refine callP_ro (impl_StructureOk_ro s hs.js hs.ms hs.nm) ?_
  simp [h]
  have h6 := (sOk_of h).nj
  simp (disch := omega) [i64_in]
  refine ⟨2 * s.js.length, by simp, by simp, by omega, by unfold maxLen; omega, fun g1 hg1 hb1 => ?_⟩
  simp at hb1
  obtain ⟨h1g, hb1⟩ := hb1
  simp
  rw [retK_ret]
  refine ⟨[.lsl g1 1 0 (2 * s.js.length)], by simp, g1, hg1, hb1, rfl, by simp [iv], by simp [hb1, hg]⟩

/-! ### Mixtures -/
def mixC (ws : List (List Int)) (wt : List Int) (i : Nat) : Nat → Int
  | 0 => 0
  | c + 1 => mixC ws wt i c + lat wt c * lat (ws.getD c []) i
def mixL (m : Nat) (ws : List (List Int)) (wt : List Int) (c : Nat) : List Int := (List.range m).map fun i => mixC ws wt i c
@[simp] theorem mixL_length (m : Nat) (ws : List (List Int)) (wt : List Int) (c : Nat) : (mixL m ws wt c).length = m := by simp [mixL]
@[simp] theorem mixL_getE (m : Nat) (ws : List (List Int)) (wt : List Int) (c i : Nat) (h : i < (mixL m ws wt c).length) : (mixL m ws wt c)[i] = mixC ws wt i c := by simp [mixL]
theorem mixL_zero (m : Nat) (ws : List (List Int)) (wt : List Int) : mixL m ws wt 0 = List.replicate m 0 := by
  apply List.ext_getElem <;> simp [mixL, mixC]
def cOk (s : Str) (ws : List (List Int)) (wt : List Int) (c : Nat) : Bool := fitsL s.js (ws.getD c []) && (decide (0 ≤ lat wt c) && decide (lat wt c ≤ 100))
def mixOk (s : Str) (ws : List (List Int)) (wt : List Int) : Bool := decide (ws.length = wt.length) && decide (ws.length ≤ 10) && sOk s && decide (∀ c, c < ws.length → cOk s ws wt c = true) && fitsL s.js (mixL (2 * s.js.length) ws wt ws.length)
def mixR (s : Str) (ws : List (List Int)) (wt : List Int) : List Int := if mixOk s ws wt = true then mixL (2 * s.js.length) ws wt ws.length else []
theorem cOk_of {s : Str} {ws : List (List Int)} {wt : List Int} {c : Nat} (h : cOk s ws wt c = true) : (ws.getD c []).length = 2 * s.js.length ∧ (∀ i, i < 2 * s.js.length → -100 ≤ lat (ws.getD c []) i ∧ lat (ws.getD c []) i ≤ 100) ∧ 0 ≤ lat wt c ∧ lat wt c ≤ 100 := by
  unfold cOk at h
  simp only [Bool.and_eq_true, decide_eq_true_eq] at h
  obtain ⟨h1, h2⟩ := fitsL_of h.1
  exact ⟨h1, fun i hi => h2 i (by omega), h.2⟩
theorem mix_step {s : Str} {ws : List (List Int)} {wt : List Int} {c i : Nat} (h : cOk s ws wt c = true) (hi : i < 2 * s.js.length) : -10000 ≤ lat wt c * lat (ws.getD c []) i ∧ lat wt c * lat (ws.getD c []) i ≤ 10000 := by
  obtain ⟨_, h2, h3⟩ := cOk_of h
  have := mul_le (a := lat wt c) (p := 100) (by omega) (h2 i hi)
  omega
theorem mixC_le {s : Str} {ws : List (List Int)} {wt : List Int} {i : Nat} (hi : i < 2 * s.js.length) : ∀ c, (∀ d, d < c → cOk s ws wt d = true) → -(10000 * c : Int) ≤ mixC ws wt i c ∧ mixC ws wt i c ≤ 10000 * c
  | 0, _ => by simp [mixC]
  | c + 1, h => by
    have h1 := mixC_le hi c fun d hd => h d (by omega)
    have h2 := mix_step (h c (by omega)) hi
    simp only [mixC]
    omega

end Go.Proofs.YtmbcofnnibpbeaaGreat.Vm

namespace Go.Proofs.YtmbcofnnibpbeaaGreat.Vm
open Go Go.Proofs
set_option linter.unusedSimpArgs false
set_option linter.unusedVariables false

theorem mixR_le (s : Str) (ws : List (List Int)) (wt : List Int) : (mixR s ws wt).length ≤ 12 := by
  unfold mixR
  split
  · rename_i h
    unfold mixOk at h
    simp only [Bool.and_eq_true] at h
    have := (sOk_of h.1.1.2).nj
    simp; omega
  · simp

end Go.Proofs.YtmbcofnnibpbeaaGreat.Vm

namespace Go.Proofs.YtmbcofnnibpbeaaGreat.Vm
open Go Go.Proofs
set_option linter.unusedSimpArgs false
set_option linter.unusedVariables false

theorem mix2 (N : Nat) (l m : List Int) (a b : Int) (i : Nat) (h : i < N) : lat (mixL N [l, m] [a, b] 2) i = a * lat l i + b * lat m i := by
  have h2 : i < (mixL N [l, m] [a, b] 2).length := by simpa using h
  rw [show lat (mixL N [l, m] [a, b] 2) i = (mixL N [l, m] [a, b] 2).getD i 0 from rfl, getD_at _ _ _ h2, mixL_getE]
  simp [mixC, lat]
theorem sumX_mix (N : Nat) (l m : List Int) (a b : Int) : ∀ n, 2 * n ≤ N → sumX (mixL N [l, m] [a, b] 2) n = a * sumX l n + b * sumX m n
  | 0, _ => by simp [sumX]
  | n + 1, h => by rw [sumX, sumX, sumX, sumX_mix N l m a b n (by omega), mix2 N l m a b _ (by omega)]; grind
theorem sumY_mix (N : Nat) (l m : List Int) (a b : Int) : ∀ n, 2 * n ≤ N → sumY (mixL N [l, m] [a, b] 2) n = a * sumY l n + b * sumY m n
  | 0, _ => by simp [sumY]
  | n + 1, h => by rw [sumY, sumY, sumY, sumY_mix N l m a b n (by omega), mix2 N l m a b _ (by omega)]; grind
theorem mom_mix (s : Str) (x y : Int) (N : Nat) (l m : List Int) (a b : Int) : ∀ n, 2 * n ≤ N → momTo s (mixL N [l, m] [a, b] 2) x y n = a * momTo s l x y n + b * momTo s m x y n
  | 0, _ => by simp [momTo]
  | n + 1, h => by
    rw [momTo, momTo, momTo, mom_mix s x y N l m a b n (by omega), mix2 N l m a b _ (by omega), mix2 N l m a b _ (by omega)]
    generalize momTo s l x y n = p
    generalize momTo s m x y n = q
    grind
theorem lat_in {l : List Int} {B : Int} (hB : 0 ≤ B) (h : ∀ x, x ∈ l → -B ≤ x ∧ x ≤ B) (i : Nat) : -B ≤ lat l i ∧ lat l i ≤ B := by
  rcases Nat.lt_or_ge i l.length with h1 | h1
  · rw [show lat l i = l.getD i 0 from rfl, getD_at _ _ _ h1]; exact h _ (List.getElem_mem h1)
  · rw [show lat l i = l.getD i 0 from rfl, List.getD_eq_getElem?_getD, List.getElem?_eq_none h1]; simp; omega
theorem mul3 {a x : Int} (ha : 0 ≤ a ∧ a ≤ 3) (hx : -8 ≤ x ∧ x ≤ 8) : -24 ≤ a * x ∧ a * x ≤ 24 := by
  rcases (show a = 0 ∨ a = 1 ∨ a = 2 ∨ a = 3 by omega) with rfl | rfl | rfl | rfl <;> omega
theorem mixOk2 {s : Str} {l m : List Int} {a b : Int} (hl : lOk s l = true) (hm : lOk s m = true) (bl : ∀ x, x ∈ l → -8 ≤ x ∧ x ≤ 8) (bm : ∀ x, x ∈ m → -8 ≤ x ∧ x ≤ 8) (ha : 0 ≤ a ∧ a ≤ 3) (hb : 0 ≤ b ∧ b ≤ 3) : mixOk s [l, m] [a, b] = true := by
  have hl' := hl
  have hm' := hm
  unfold lOk at hl hm
  rw [Bool.and_eq_true] at hl hm
  unfold mixOk
  simp only [Bool.and_eq_true, decide_eq_true_eq]
  refine ⟨⟨⟨⟨rfl, by simp⟩, hl.1⟩, fun c hc => ?_⟩, ?_⟩
  · have : c = 0 ∨ c = 1 := by simp at hc; omega
    rcases this with rfl | rfl
    · unfold cOk; simp [lat]; exact ⟨hl.2, by omega⟩
    · unfold cOk; simp [lat]; exact ⟨hm.2, by omega⟩
  · unfold fitsL
    rw [Bool.and_eq_true]
    refine ⟨by simp, List.all_eq_true.2 fun x hx => ?_⟩
    obtain ⟨i, hi, rfl⟩ := List.getElem_of_mem hx
    have hi' : i < (mixL (2 * s.js.length) [l, m] [a, b] 2).length := hi
    have h2 := mix2 (2 * s.js.length) l m a b i (by simpa using hi)
    rw [show lat _ i = (mixL (2 * s.js.length) [l, m] [a, b] 2).getD i 0 from rfl, getD_at _ _ _ hi'] at h2
    show forceOk ((mixL (2 * s.js.length) [l, m] [a, b] 2)[i]) = true
    rw [h2]
    have h3 := mul3 ha (lat_in (by omega) bl i)
    have h4 := mul3 hb (lat_in (by omega) bm i)
    simp [forceOk]; omega
theorem sumX_put {l : List Int} {j x y : Int} (hj : 0 ≤ j) (hlen : 2 * j.toNat + 1 < l.length) : ∀ n, sumX (put2 l j x y) n = sumX l n + if j.toNat < n then x else 0
  | 0 => by simp [sumX]
  | n + 1 => by
    rw [sumX, sumX, sumX_put hj hlen n]
    have : lat (put2 l j x y) (2 * n) = lat l (2 * n) + if n = j.toNat then x else 0 := by
      unfold put2 put1 lat
      rw [List.getD_eq_getElem?_getD, List.getElem?_set_ne (by omega)]
      by_cases e : n = j.toNat
      · rw [e, List.getElem?_set_self (by omega)]; simp
      · rw [List.getElem?_set_ne (by omega), if_neg e, List.getD_eq_getElem?_getD]; simp
    rw [this]
    by_cases e : n = j.toNat
    · simp [e]; omega
    · by_cases e2 : j.toNat < n
      · simp [e, e2]; rw [if_pos (by omega)]; omega
      · simp [e, e2]; rw [if_neg (by omega)]; omega
theorem sz_of {s : Str} (h : sOk s = true) : s.sz := by
  have hs := sOk_of h
  have h1 := hs.nj
  have h2 := hs.nm
  refine ⟨by omega, by omega, fun j hj => ?_⟩
  unfold sOk at h
  simp only [Bool.and_eq_true, decide_eq_true_eq] at h
  obtain ⟨i, hi, rfl⟩ := List.getElem_of_mem hj
  have := (h.1.2 i hi).1
  unfold J.ok isName at this
  simp only [Bool.and_eq_true, decide_eq_true_eq] at this
  omega
theorem bv_of_co {cs : List V} (h : CO Tryz.prog 22 cs) : ∃ ns : List Int, cs = [.sl (bv ns)] ∧ ns.length ≤ 140737488351232 ∧ ∀ n, n ∈ ns → 0 ≤ n ∧ n < 256 := by
  obtain ⟨xs, rfl, hx, hl⟩ := co_slice Tryz.underlying22 h
  rw [show Tryz.prog.bytesOf 5 = 1 by kernel_rfl] at hl
  have : ∃ ns : List Int, xs = bv ns ∧ ∀ n, n ∈ ns → 0 ≤ n ∧ n < 256 := by
    clear hl h
    induction xs with
    | nil => exact ⟨[], rfl, fun n hn => by cases hn⟩
    | cons x xs ih =>
      obtain ⟨ns, rfl, hns⟩ := ih fun y hy => hx y (List.mem_cons_of_mem _ hy)
      obtain ⟨n, rfl, hn⟩ := co_int Tryz.underlying5 (hx x List.mem_cons_self)
      refine ⟨n :: ns, rfl, fun m hm => ?_⟩
      rcases List.mem_cons.1 hm with rfl | hm
      · have := wf_u8 hn; omega
      · exact hns m hm
  obtain ⟨ns, rfl, hns⟩ := this
  exact ⟨ns, rfl, by simp at hl; omega, hns⟩
end Go.Proofs.YtmbcofnnibpbeaaGreat.Vm

namespace Go.Proofs.YtmbcofnnibpbeaaGreat.Vm
open Go Go.Proofs
set_option linter.unusedSimpArgs false
set_option linter.unusedVariables false

theorem mul600 {a x : Int} (B : Int) (hB : 0 ≤ B) (ha : 0 ≤ a ∧ a ≤ 3) (hx : -B ≤ x ∧ x ≤ B) : -(3 * B) ≤ a * x ∧ a * x ≤ 3 * B := by
  rcases (show a = 0 ∨ a = 1 ∨ a = 2 ∨ a = 3 by omega) with rfl | rfl | rfl | rfl <;> omega
/-- Reading operations, with guarded calls among them. -/
def HSeq (P : Program) (ops : Array Oper) (blK : Int → Option Blk) (last : List Nat) (K : St → Prop) : List (List Nat × Nat) → St → Prop
  | [] => HoistF P (ops.toList.map (·.dst)) blK (last.filterMap fun i => ops[i]?) K
  | (is, i) :: r => HoistF P (ops.toList.map (·.dst)) blK (is.filterMap fun i => ops[i]?) (HStep P ops blK i (HSeq P ops blK last K r))
def hIdx (last : List Nat) : List (List Nat × Nat) → List Nat
  | [] => last
  | (is, i) :: r => is ++ i :: hIdx last r
theorem HSeq_sound {P : Program} {ops : Array Oper} {blK : Int → Option Blk} {K : St → Prop} (last : List Nat) : ∀ (ps : List (List Nat × Nat)) (σ : St), (hIdx last ps).all (fun i => decide (i < ops.size)) = true → HSeq P ops blK last K ps σ → Hoist P ops blK (hIdx last ps) K σ
  | [], σ, ha, h => Hoist_is _ last σ (filter_some last ha) h
  | (is, i) :: r, σ, ha, h => by
    have hall := List.all_eq_true.1 ha
    have f1 : is.all (fun i => decide (i < ops.size)) = true := List.all_eq_true.2 fun x hx => hall x (List.mem_append_left _ hx)
    have f2 : (hIdx last r).all (fun i => decide (i < ops.size)) = true := List.all_eq_true.2 fun x hx => hall x (List.mem_append_right _ (List.mem_cons_of_mem _ hx))
    refine Hoist_append is (i :: hIdx last r) σ (Hoist_is _ is σ (filter_some is f1) ?_)
    refine HoistF_mono (fun σ' h' => ?_) _ _ h
    unfold HStep at h'
    unfold Hoist
    split at h'
    · rename_i o ho
      obtain ⟨v, h1, h2⟩ := h'
      rw [ho]
      exact ⟨v, h1, HSeq_sound last r _ f2 h2⟩
    · exact h'.elim
theorem AW_quietC {P : Program} {id : Nat} {ops : Array Oper} {K : Ex → St → Prop} {σ : St} (hm : P.follows .mixedOrders = true) (ps : List (List Nat × Nat)) (last : List Nat)
    (hB : (quietB ops && decide (hIdx last ps = List.range ops.size)) = true) (h : HSeq P ops σ.bl last (K .normal) ps σ) : AW P (.region id ops true) K σ := by
  rw [Bool.and_eq_true, decide_eq_true_eq] at hB
  obtain ⟨hB, he⟩ := hB
  simp only [quietB, Bool.and_eq_true, List.isEmpty_iff] at hB
  refine AW_draw_quiet hm hB.1 hB.2 ?_
  rw [← he]
  exact HSeq_sound last ps σ (by rw [he]; exact List.all_eq_true.2 fun x hx => by simpa using hx) h
end Go.Proofs.YtmbcofnnibpbeaaGreat.Vm

namespace Go.Proofs.YtmbcofnnibpbeaaGreat.Vm
open Go Go.Proofs
set_option linter.unusedSimpArgs false
set_option linter.unusedVariables false

theorem RatEqual_ro (a b : RT) (hm : a.m.length ≤ 140737488351232) (hd : a.d.length ≤ 140737488351232) : RO Tryz.prog 15 [.agg a.c, .agg b.c] (.bool (decide (a = b))) := by
  have e : decide (a = b) = (decide (a.neg = b.neg) && decide (a.m = b.m) && decide (a.d = b.d)) := by
    cases a; cases b; simp [Bool.and_assoc]
  rw [e]
  refine ro_of2 Tryz.func15 rfl rfl (by rw [Tryz.ntmps15]; simp) fun bl => ?_
  rw [Tryz.ntmps15, Tryz.results15]
  refine AW_runA ?_
  simp [RT.c]
  intro g1 hg1 hb1 g2 hg2 h21 hb2
  refine AW_frzAt 1 2 (.ptr a.c) (upd bl g2 (some ⟨3, [b.c]⟩)) (by intro z y hz; simp only [upd_apply, RT.c] at hz ⊢; grind) (by simp [frz, dropB, hb1, h21, Ne.symm h21, RT.c, V.cl]) ?_
  refine AW_frzAt 1 3 (.ptr b.c) bl (by simp [hb2]) (by simp [frz, dropB, hb2, RT.c, V.cl]) ?_
  refine AW_runA ?_
  simp
  refine AW_way0 [(2, .ptr a.c), (3, .ptr b.c)] _ bl 4 (.bool (decide (a.neg = b.neg) && decide (a.m = b.m) && decide (a.d = b.d))) ⟨rfl, by simp, Sub.refl _⟩ rfl ?_ ?_
  · simp [RT.c]
    refine ⟨fun h1 => ?_, fun h1 => by simp [h1]⟩
    refine callP_ro (Equal_ints_ro a.m b.m hm) ?_
    simp [h1]
    refine ⟨fun h2 => ?_, fun h2 => by simp [h2]⟩
    refine callP_ro (Equal_ints_ro a.d b.d hd) ?_
    simp [h2]
  simp
  refine AW_run ?_
  simp
  exact retRO [.bool _] 0 (by simp; rfl) (by simp [frz]) (Sub.refl _)
theorem ApplyMatrix_ro (m : MX) (r c : Nat) (h1 : m.r = r) (h2 : m.c = c) (hr : r ≤ 24) (hc : c ≤ 24) (hl : m.cells.length = r * c) (ha : allOk m.cells = true) (hq : fitQ m.cells 1048576) (v : List RT) (hv : fitQ v 1048576) (hvo : allOk v = true) (hvl : v.length = c)
    (G : List (List (Option Rat))) (eG : (gridOf r c fun i k => (rdAll m.cells).getD (i * c + k) none) = G) :
    RO Tryz.prog 11 [.agg m.c3, .sl (rv v)] (.tup [.sl (rv (stQ (appl G (rdAll v)))), .bool (allSome (appl G (rdAll v)))]) := by
  have hO := open_ro m r c h1 h2 hr hc hl ha hq
  rw [eG] at hO
  have hGl : G.length = r := by rw [← eG]; simp
  have hL := loadVector_ro v hv
  have hvk : vecOk v = true := by unfold vecOk; rw [hvo]; simp; omega
  rw [hvk, if_pos rfl] at hL
  have hGr : ∀ w, w ∈ G → okL w ∧ w.length = c := by
    intro w hw
    rw [← eG] at hw
    obtain ⟨i, _, rfl⟩ := List.mem_map.1 hw
    refine ⟨fun x hx => ?_, by simp⟩
    obtain ⟨k, _, rfl⟩ := List.mem_map.1 hx
    show okQ ((rdAll m.cells).getD (i * c + k) none)
    rcases Nat.lt_or_ge (i * c + k) (rdAll m.cells).length with h | h
    · rw [getD_at _ _ _ h]; exact rdAll_ok _ _ (List.getElem_mem h)
    · rw [List.getD_eq_getElem?_getD, List.getElem?_eq_none (by omega)]
      intro q hq; cases hq
  have hA := applied_ro G c (rdAll v) (by omega) (rdAll_ok v) hGr (by simp; omega) (by omega)
  have hS := ro_of_nw 3 (stores_nw (appl G (rdAll v)) (fun x hx => by
    obtain ⟨w, _, rfl⟩ := List.mem_map.1 hx
    exact inTo_ok _ _ _) (by simp [appl]; omega)) (by simp [dV, D.dep, D.depL, dRs_dep])
  rw [show (dV (stQ (appl G (rdAll v))) (allSome (appl G (rdAll v)))).fz = .tup [.sl (rv (stQ (appl G (rdAll v)))), .bool (allSome (appl G (rdAll v)))] by simp [dV, D.fz, D.fzL, dRs_fz]] at hS
  rw [hGl] at hA
  generalize appl G (rdAll v) = z at *
  refine ro_of2 Tryz.func11 rfl rfl (by rw [Tryz.ntmps11]; simp) fun bl => ?_
  rw [Tryz.ntmps11, Tryz.results11]
  refine AW_runA ?_
  simp [MX.c3]
  intro g hg0 hg
  refine AW_frzAt 1 2 (.ptr m.c3) bl (by simp [hg]) (by simp [frz, dropB, hg, MX.c3, V.cl]) ?_
  refine AW_runA ?_
  simp [MX.c3]
  refine callP_ro hO ?_
  simp
  intro g6 hg6 hb6
  refine AW_frzAt 1 6 (.ptr [.int .i64 r, .int .i64 c, .sl (gv G)]) bl (by simp [hb6]) (by simp [frz, dropB, hb6, V.cl]) ?_
  refine AW_runA ?_
  simp
  refine callP_ro hL ?_
  simp
  refine AW_runA ?_
  simp
  refine AW_way0 [(6, .ptr [.int .i64 r, .int .i64 c, .sl (gv G)]), (7, .bool true), (8, .sl (fvs (rdAll v))), (9, .bool true)] _ bl 32 (.bool false) ⟨rfl, by simp, Sub.refl _⟩ rfl ?_ ?_
  · simp [hvl]
  simp
  refine AW_run ?_
  simp
  refine callP_ro hA ?_
  simp
  refine callP_ro hS ?_
  simp
  exact retRO [.sl (rv (stQ z)), .bool (allSome z)] 1 (by simp) (by simp [frz, V.cl]) (Sub.refl _)

theorem flat_getD {α : Type} (d : α) {n : Nat} : ∀ (rs : List (List α)), (∀ r, r ∈ rs → r.length = n) → ∀ (i k : Nat) (hi : i < rs.length), k < n → rs.flatten.getD (i * n + k) d = rs[i].getD k d
  | [], _, i, k, hi, _ => by simp at hi
  | r :: rs, h, 0, k, hi, hk => by
    have := h r (by simp)
    simp [List.getElem?_append, this, hk]
  | r :: rs, h, i + 1, k, hi, hk => by
    have h0 := h r (by simp)
    have ih := flat_getD d rs (fun x hx => h x (by simp [hx])) i k (by simpa using hi) hk
    have e : (i + 1) * n + k = r.length + (i * n + k) := by rw [h0, Nat.add_mul]; omega
    rw [e]
    simp only [List.flatten_cons, List.getElem_cons_succ] at ih ⊢
    rw [← ih, List.getD_eq_getElem?_getD, List.getD_eq_getElem?_getD, List.getElem?_append_right (by omega), show r.length + (i * n + k) - r.length = i * n + k by omega]
theorem eq_grid (s : Str) (hs : SOk s) : (gridOf (eqRows s).length s.ms.length fun i k => (rdAll (roInts (rowsF s))).getD (i * s.ms.length + k) none) = zGrid (eqRows s) := by
  obtain ⟨hsm, hlen⟩ := eqRows_small hs
  have e1 : rdAll (roInts (rowsF s)) = (zGrid (eqRows s)).flatten := by
    have : (zGrid (eqRows s)).flatten = (rowsF s).map fun (n : Int) => some (n : Rat) := by
      rw [← eqRows_flat]
      unfold zGrid zRow
      rw [List.map_flatten]
    rw [this]
    unfold rdAll roInts
    rw [List.map_map]
    apply List.map_congr_left
    intro n hn
    rw [← eqRows_flat] at hn
    obtain ⟨w, hw, hn⟩ := List.mem_flatten.1 hn
    have := hsm w hw n hn
    exact rd_ro (okQ_int (by omega))
  rw [e1]
  apply List.ext_getElem
  · simp [zGrid]
  · intro i h3 h4
    rw [gridOf_getE]
    have hz : (zGrid (eqRows s))[i].length = s.ms.length := by simp [zGrid, zRow, hlen]
    apply List.ext_getElem
    · simp [hz]
    · intro k h5 h6
      rw [rowOf_getE, flat_getD none (zGrid (eqRows s)) (fun r hr => by
        obtain ⟨w, hw, rfl⟩ := List.mem_map.1 hr
        simp [zRow, hlen w hw]) i k h4 (by simpa using h5), getD_at _ _ _ h6]

theorem rq6_rd {us : List Int} (h : ∀ u, u ∈ us → -60 ≤ u ∧ u ≤ 60) : rdAll (rq6 us) = us.map q6 := by
  unfold rdAll rq6
  rw [List.map_map]
  apply List.map_congr_left
  intro u hu
  have := h u hu
  exact rd_ro (q6_ok (by omega))
theorem rq6_ok {us : List Int} (h : ∀ u, u ∈ us → -60 ≤ u ∧ u ≤ 60) : allOk (rq6 us) = true := by
  unfold allOk rq6
  rw [List.all_map, List.all_eq_true]
  intro u hu
  have := h u hu
  show (rd (ro (q6 u))).isSome = true
  rw [rd_ro (q6_ok (by omega))]; rfl
theorem rq6_fit {us : List Int} (h : ∀ u, u ∈ us → -60 ≤ u ∧ u ≤ 60) (hl : us.length ≤ 1048576) : fitQ (rq6 us) 1048576 := by
  have h1 : okL (us.map q6) := by
    intro x hx
    obtain ⟨u, hu, rfl⟩ := List.mem_map.1 hx
    have := h u hu
    exact q6_ok (by omega)
  have h2 := (stQ_fit h1 (by simpa using hl)).1
  have e : stQ (us.map q6) = rq6 us := by
    unfold stQ
    rw [if_pos (by simp [allSome, q6])]
    simp [roAll, rq6]
  rwa [e] at h2
/-! ### The law -/
theorem eqRows_at (s : Str) : ∀ (l : List Int) (n : Nat) (h : n < l.length), (l.flatMap fun j => [rowX s j, rowY s j])[2 * n]? = some (rowX s l[n]) ∧ (l.flatMap fun j => [rowX s j, rowY s j])[2 * n + 1]? = some (rowY s l[n])
  | [], n, h => by simp at h
  | j :: l, 0, h => by simp
  | j :: l, n + 1, h => by
    have ih := eqRows_at s l n (by simpa using h)
    rw [show 2 * (n + 1) = 2 * n + 1 + 1 by omega]
    simpa using ih
theorem dot_lim {s : Str} (hs : SOk s) {us : List Int} (hub : ∀ u, u ∈ us → -60 ≤ u ∧ u ≤ 60) : ∀ k, -60 ≤ lN us k ∧ lN us k ≤ 60 := fun k => by
  rcases Nat.lt_or_ge k us.length with h | h
  · rw [lN_at h]; exact hub _ (List.getElem_mem h)
  · have : lN us k = 0 := by simp [lN, List.getD_eq_getElem?_getD, h]
    rw [this]; omega
theorem row_lim {s : Str} (hs : SOk s) {w : List Int} (hw : w ∈ eqRows s) : ∀ k, -100 ≤ lN w k ∧ lN w k ≤ 100 := fun k => by
  rcases Nat.lt_or_ge k w.length with h | h
  · rw [lN_at h]; exact (eqRows_small hs).1 w hw _ (List.getElem_mem h)
  · have : lN w k = 0 := by simp [lN, List.getD_eq_getElem?_getD, h]
    rw [this]; omega
def dots (s : Str) (us : List Int) : List Int := (eqRows s).map fun w => dotTo w us s.ms.length
theorem appl_dots {s : Str} (hs : SOk s) {us : List Int} (hul : us.length = s.ms.length) (hub : ∀ u, u ∈ us → -60 ≤ u ∧ u ≤ 60) : appl (zGrid (eqRows s)) (us.map q6) = (dots s us).map q6 := by
  obtain ⟨_, hlen⟩ := eqRows_small hs
  have hnm := hs.nm
  unfold appl zGrid dots
  rw [List.map_map, List.map_map]
  apply List.map_congr_left
  intro w hw
  have hl := hlen w hw
  show inTo (zRow w) (us.map q6) (zRow w).length = q6 (dotTo w us s.ms.length)
  rw [show (zRow w).length = s.ms.length by simp [zRow, hl]]
  exact inTo_dot (row_lim hs hw) (dot_lim hs hub) _ (by omega) (by omega) (by omega)
theorem stQ_q6 (l : List Int) : stQ (l.map q6) = rq6 l := by
  unfold stQ
  rw [if_pos (by simp [allSome, q6])]
  simp [roAll, rq6]
theorem allSome_q6 (l : List Int) : allSome (l.map q6) = true := by simp [allSome, q6]
theorem pqs_dots {s : Str} (hs : SOk s) (qs : sOk s = true) {us : List Int} (hul : us.length = s.ms.length) (hub : ∀ u, u ∈ us → -60 ≤ u ∧ u ≤ 60) (i : Nat) (hi : i < s.js.length) : pqs s (rq6 us) i = [dotTo (rowX s i) us s.ms.length, dotTo (rowY s i) us s.ms.length].map q6 := by
  have hp : pullOk s (rq6 us) i = true := by
    unfold pullOk fitsQ
    rw [qs, rq6_ok hub]
    simp [hul, hi]
  unfold pqs
  rw [if_pos hp, rq6_rd hub]
  have h1 := hs.nm
  have e1 : ∀ m, m ∈ s.ms → ¬ ((i : Int) = m.a ∨ (i : Int) = m.b) → eqX s i m = 0 := fun m _ h => by unfold eqX; rw [if_neg (fun e => h (.inl e)), if_neg (fun e => h (.inr e))]
  have e2 : ∀ m, m ∈ s.ms → ¬ ((i : Int) = m.a ∨ (i : Int) = m.b) → eqY s i m = 0 := fun m _ h => by unfold eqY; rw [if_neg (fun e => h (.inl e)), if_neg (fun e => h (.inr e))]
  unfold pX pY
  rw [pTo_dot (fun m hm => (eqX_le hs i hm).1) e1 (dot_lim hs hub) hul h1 _ (Nat.le_refl _), pTo_dot (fun m hm => (eqX_le hs i hm).2) e2 (dot_lim hs hub) hul h1 _ (Nat.le_refl _)]
  rfl
theorem law_Columns_ro (bs : List Int) (hn : bs.length ≤ 140737488351232) (hbs : ∀ x, x ∈ bs → 0 ≤ x ∧ x < 256) : RO Tryz.prog 3 [.sl (bv bs)] (.bool true) := by
  refine ro_of2 Tryz.func3 rfl rfl (by rw [Tryz.ntmps3]; simp) fun bl => ?_
  rw [Tryz.ntmps3, Tryz.results3]
  refine AW_runA ?_
  simp
  refine AW_runA ?_
  simp
  refine ⟨fun h => ?_, fun h => ?_⟩
  · exact retRO0 (by simp) rfl rfl
  refine AW_runA ?_
  simp
  refine MakeCase_cp bs (by omega) hbs fun s l b1 ql h3 hl8 hb1 => ?_
  have qs : sOk s = true := by unfold lOk at ql; rw [Bool.and_eq_true] at ql; exact ql.1
  have hs := sOk_of qs
  have hsz := sz_of qs
  have hnj := hs.nj
  have hnm := hs.nm
  simp [Str.c]
  intro g3 hg3 hb3
  have hg3' : bl g3 = none := fresh_of hb1 hb3
  refine AW_frzAt 1 3 (.ptr s.c) bl (hb1.upd hg3' _) (by simp [frz, dropB, hg3', Str.c, V.cl]) ?_
  refine AW_runA ?_
  simp [Str.c]
  refine MakeDensities_cp bs 40 s hs (by omega) hbs (by omega) fun us b2 hul hub hb2 => ?_
  simp
  refine AW_at [(2, .bool false), (3, .ptr s.c), (5, .sl (rv (rq6 us)))] 90 bl ⟨rfl, by simp [Str.c], hb2⟩ ?_
  clear hb1 hb2
  have hjn : ∀ j, j ∈ s.js → j.name.size ≤ 140737488351232 := hsz.nm
  have hE := impl_EquilibriumMatrix_ro s (by omega) (by omega) hjn
  have hrl := eqRows_length s
  have hfl := freesTo_le s.js s.js.length
  change (frees s.js).length ≤ s.js.length at hfl
  have eM : eqMx s = ⟨(eqRows s).length, s.ms.length, roInts (rowsF s)⟩ := by unfold eqMx; rw [if_pos qs]
  have hfit := (eqMx_fit s (by omega)).1
  rw [eM] at hfit hE
  have hall : allOk (roInts (rowsF s)) = true := by
    unfold allOk roInts
    rw [List.all_map, List.all_eq_true]
    intro n hn
    rw [← eqRows_flat] at hn
    obtain ⟨w, hw, hn⟩ := List.mem_flatten.1 hn
    have := (eqRows_small hs).1 w hw n hn
    show (rd (ro (some (n : Rat)))).isSome = true
    rw [rd_ro (okQ_int (by omega))]; rfl
  have hqf := rq6_fit hub (by omega)
  have hA := ApplyMatrix_ro ⟨(eqRows s).length, s.ms.length, roInts (rowsF s)⟩ (eqRows s).length s.ms.length rfl rfl (by omega) (by omega) (by simp [roInts, rowsF_len, hrl]) hall hfit (rq6 us) hqf (rq6_ok hub) (by simp [hul]) (zGrid (eqRows s)) (eq_grid s hs)
  rw [rq6_rd hub, appl_dots hs hul hub, stQ_q6, allSome_q6] at hA
  have hF := impl_FreeJoints_ro s hsz
  rw [show freeL s = frees s.js by unfold freeL; rw [if_pos qs]] at hF
  have hdl : (dots s us).length = 2 * (frees s.js).length := by unfold dots; rw [List.length_map, hrl]
  have w1 : IntKind.i64.wrap (2 * ((frees s.js).length : Int)) = 2 * ((frees s.js).length : Int) := i64_in (by omega) (by omega)
  refine AW_runA ?_
  simp [Str.c]
  refine callP_ro hE ?_
  simp
  refine callP_ro hA ?_
  simp
  refine AW_runA ?_
  simp [Str.c]
  refine callP_ro hF ?_
  simp
  refine AW_runA ?_
  simp
  refine AW_way0 [(2, .bool false), (3, .ptr s.c), (5, .sl (rv (rq6 us))), (6, .sl (rv (rq6 (dots s us)))), (7, .bool true), (8, .sl (iv (frees s.js)))] _ bl 42 (.bool false) ⟨rfl, by simp [Str.c], Sub.refl _⟩ rfl ?_ ?_
  · simp [hdl, w1]
  simp
  refine AW_run ?_
  simp
  refine AW_for (fun n : Nat => [(2, .bool false), (3, .ptr s.c), (5, .sl (rv (rq6 us))), (6, .sl (rv (rq6 (dots s us)))), (43, .sl (iv (frees s.js))), (44, .int .i64 (frees s.js).length), (45, .int .i64 n)]) (fun _ => bl) (fun n => n ≤ (frees s.js).length) (fun n => (frees s.js).length - n) _ 0 (Nat.zero_le _) ⟨rfl, by simp [Str.c], Sub.refl _⟩ ?_
  intro n hn2
  have wn : IntKind.i64.wrap ((n : Int) + 1) = (n : Int) + 1 := i64_in (by omega) (by omega)
  refine AW_runA ?_
  simp
  refine AW_runA ?_
  simp
  refine ⟨fun h => ?_, fun h => ?_⟩
  · obtain ⟨i, ei, hi⟩ := frees_get s.js n h
    have hP := impl_PullOn_ro s (rq6 us) i (by omega) (by omega) hsz.nm hqf
    rw [pqs_dots hs qs hul hub i hi, stQ_q6, allSome_q6] at hP
    obtain ⟨r1, r2⟩ := eqRows_at s (frees s.js) n h
    rw [ei] at r1 r2
    have d1 : (dots s us)[2 * n]? = some (dotTo (rowX s i) us s.ms.length) := by
      unfold dots; rw [List.getElem?_map]
      show (((frees s.js).flatMap fun j => [rowX s j, rowY s j])[2 * n]?).map _ = _
      rw [r1]; rfl
    have d2 : (dots s us)[2 * n + 1]? = some (dotTo (rowY s i) us s.ms.length) := by
      unfold dots; rw [List.getElem?_map]
      show (((frees s.js).flatMap fun j => [rowX s j, rowY s j])[2 * n + 1]?).map _ = _
      rw [r2]; rfl
    have f1 : (rv (rq6 (dots s us)))[2 * n]? = some (ro (q6 (dotTo (rowX s i) us s.ms.length))).c := by simp [rv, rq6, d1]
    have f2 : (rv (rq6 (dots s us)))[2 * n + 1]? = some (ro (q6 (dotTo (rowY s i) us s.ms.length))).c := by simp [rv, rq6, d2]
    have l1 : ∀ x : Int, x.natAbs ≤ 1000000000 → (ro (q6 x)).m.length ≤ 140737488351232 ∧ (ro (q6 x)).d.length ≤ 140737488351232 := fun x hx => by
      obtain ⟨a, b⟩ := r6_fits hx
      exact ⟨Nat.le_trans a (by omega), Nat.le_trans b (by omega)⟩
    have hbd : ∀ w, w ∈ eqRows s → (dotTo w us s.ms.length).natAbs ≤ 1000000000 := fun w hw => by
      have := dot_le (row_lim hs hw) (dot_lim hs hub) s.ms.length
      omega
    obtain ⟨a1, a2⟩ := l1 _ (hbd _ (List.mem_of_getElem? r1))
    obtain ⟨a3, a4⟩ := l1 _ (hbd _ (List.mem_of_getElem? r2))
    have q1 := RatEqual_ro _ (ro (q6 (dotTo (rowX s i) us s.ms.length))) a1 a2
    have q2 := RatEqual_ro _ (ro (q6 (dotTo (rowY s i) us s.ms.length))) a3 a4
    rw [decide_eq_true rfl] at q1 q2
    have w2 : IntKind.i64.wrap (2 * (n : Int)) = 2 * (n : Int) := i64_in (by omega) (by omega)
    have w3 : IntKind.i64.wrap (2 * (n : Int) + 1) = 2 * (n : Int) + 1 := i64_in (by omega) (by omega)
    have t2 : (2 * (n : Int)).toNat = 2 * n := by omega
    have t3 : (2 * (n : Int) + 1).toNat = 2 * n + 1 := by omega
    have er : rv (rq6 [dotTo (rowX s i) us s.ms.length, dotTo (rowY s i) us s.ms.length]) = [(ro (q6 (dotTo (rowX s i) us s.ms.length))).c, (ro (q6 (dotTo (rowY s i) us s.ms.length))).c] := rfl
    rw [er] at hP
    generalize ro (q6 (dotTo (rowX s i) us s.ms.length)) = rx at *
    generalize ro (q6 (dotTo (rowY s i) us s.ms.length)) = ry at *
    refine AW_runA ?_
    simp [h, ei, Str.c]
    refine callP_ro hP ?_
    simp
    refine AW_quietC mixedO [([0, 1, 2, 3, 4, 5, 6, 7, 8, 9, 10, 11, 12, 13, 14, 15], 16), ([17, 18, 19, 20, 21, 22, 23, 24, 25, 26, 27, 28], 29)] [30, 31] (by kernel_rfl) ?_
    simp only [HSeq]
    have x1 : rx.c.length = 3 := rfl
    have x2 : ry.c.length = 3 := rfl
    have x3 : List.take 3 rx.c = rx.c := rfl
    have x4 : List.take 3 ry.c = ry.c := rfl
    have p1 : (0 : Int) ≤ 2 * (n : Int) := by omega
    have p2 : (0 : Int) ≤ 2 * (n : Int) + 1 := by omega
    simp [w2, w3, t2, t3, f1, f2, x1, x2, x3, x4, p1, p2]
    refine HStep_call rfl rfl rfl rfl (by simp) rfl q1 ?_
    simp [w2, w3, t2, t3, f1, f2, x1, x2, x3, x4, p1, p2]
    refine HStep_call rfl rfl rfl rfl (by simp) rfl q2 ?_
    simp
    refine AW_run ?_
    simp [wn, loopQ_normal]
    exact ⟨n + 1, by omega, by omega, rfl, by simp [Str.c], Sub.refl _⟩
  · exact retRO [.bool true] 0 (by simp) (by simp [frz]) (Sub.refl _)
end Go.Proofs.YtmbcofnnibpbeaaGreat.Vm

namespace Go.Proofs.YtmbcofnnibpbeaaGreat.lawColumns
open Go Go.RowKit Go.ChangeShapes Go.WideShapes Vm
theorem body (xs : List V) (h : ArgsOk Tryz.prog Tryz.f3.params.toList xs) : RO Tryz.prog 3 xs (.bool true) := by
  rw [Tryz.params3] at h
  obtain ⟨c0, ys, rfl, h0, h⟩ := args_cons h
  obtain rfl := args_nil h
  obtain ⟨b0, rfl, y0, z0⟩ := bv_of_co h0
  rw [toV_slice Tryz.underlying22]
  exact law_Columns_ro b0 y0 z0
set_option maxRecDepth 100000 in
theorem lifted (os : Os) (started : os.Started) (H : Type) (enc : TypeId × Value → H) :
    ReturnsInHanded {} Tryz.checked os 3 .any (Rows.fnColumnsSpec.pre6 enc Tryz.prog Tryz.f3 Rows.fnColumnsRow.domain false) (Rows.fnColumnsSpec.post enc Tryz.prog Tryz.f3 false true false false) := by
  refine returnsInHanded_of_change_sized (C := Tryz.checked) own started (by kernel_rfl) Tryz.func3
    (ChangeSpec.witness6 (enc := enc) (C := Tryz.checked) false ⟨#[], #[.slice none 0 0], []⟩ 8 (by kernel_rfl) (by kernel_rfl) (by kernel_rfl) (by kernel_rfl)) ?_
  intro W base args ds gs before hval hW hcnd hsz _
  refine law_calls (tb := 4) rfl rfl Tryz.underlying4 laidOut (by kernel_rfl) (fun ds hds => ?_) body W base args ds gs before hval hW hsz
  rw [Tryz.params3] at hds
  first
    | (match ds, hds with | [a], _ => rfl)
    | (match ds, hds with | [a, b], _ => rfl)
    | (match ds, hds with | [a, b, c], _ => rfl)
    | (match ds, hds with | [a, b, c, d], _ => rfl)
    | (match ds, hds with | [a, b, c, d, e], _ => rfl)
    | (match ds, hds with | [a, b, c, d, e, f], _ => rfl)
theorem over : Rows.fnColumnsRow.holds Tryz.pinned (OpenSpec.ofChange Rows.fnColumnsSpec) :=
  OpenClaim.holds_of_wide 3 Tryz.f3 rfl rfl rfl rfl rfl rfl rfl ⟨rfl, rfl, rfl, rfl, rfl⟩ rfl rfl rfl rfl rfl (by kernel_rfl) Tryz.func3 (facts (by kernel_rfl))
    (of_decide_eq_true (by kernel_rfl)) (by unfold Func.isWrapper; first | (rw [if_pos (by decide +kernel)]; kernel_rfl) | (rw [if_neg (by decide +kernel)]; exact ⟨rfl, rfl⟩))
    (fun os started H enc _ => lifted os started H enc)
theorem proved : Rows.FnColumnsSaid := over
#print axioms proved
end Go.Proofs.YtmbcofnnibpbeaaGreat.lawColumns
