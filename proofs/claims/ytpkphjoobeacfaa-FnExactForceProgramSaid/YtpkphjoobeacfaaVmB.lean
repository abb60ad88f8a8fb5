/- Memory lemmas for the value-level logic: loads, stores and new blocks under the simulation. -/
import Derived.Test.YtpkphjoobeacfaaVmA
import Derived.Laws.Sem
import Derived.Laws.World
namespace Go.Proofs.Ytpkphjoobeacfaa.Vm
open Go Go.RowKit

theorem add_none (b o i : Nat) : (⟨b, o, none⟩ : Addr).add i = ⟨b, o + i, none⟩ := by
  unfold Addr.add; split
  · rename_i h; subst h; rfl
  · rfl

theorem heap_of_cell {w : World} {b o : Nat} {v : Value} (h : w.cell? ⟨b, o, none⟩ = some v) : ∃ c t f, w.heap[b]? = some (.cells c t f) ∧ c[o]? = some v := by
  unfold World.cell? at h
  split at h
  · rename_i c t f hb; exact ⟨c, t, f, hb, by simpa using h⟩
  · cases h

theorem cell_of_block {w : World} {b o : Nat} {c : Array Value} {t : TypeId} {f : Nat × Nat} (h : w.heap[b]? = some (.cells c t f)) : w.cell? ⟨b, o, none⟩ = c[o]? := by
  simp [World.cell?, h]

theorem run_load_cell {P : Program} {w : World} {b o : Nat} {v : Value} (h : w.cell? ⟨b, o, none⟩ = some v) : (load ⟨b, o, none⟩).run P w = .ok v w := by
  rw [run_load, h]

theorem run_loadCellsFrom {P : Program} {w : World} {b o : Nat} (u : Nat → Value) (n : Nat) : ∀ (i : Nat) (acc : Array Value), (∀ j, j < n → w.cell? ⟨b, o + (i + j), none⟩ = some (u (i + j))) →
    (loadCellsFrom ⟨b, o, none⟩ i n acc).run P w = .ok (acc ++ ((List.range n).map fun j => u (i + j)).toArray) w := by
  induction n with
  | zero => intro i acc _; simp [loadCellsFrom]
  | succ n ih =>
    intro i acc h
    have h0 := h 0 (by omega)
    simp only [loadCellsFrom, Sem.run_bind, add_none]
    rw [run_load_cell (by simpa using h0), Result.andThen_ok, ih (i + 1) _ (fun j hj => by have := h (j + 1) (by omega); simpa [Nat.add_assoc, Nat.add_comm 1 j] using this)]
    congr 1
    rw [List.range_succ_eq_map]
    simp [Function.comp_def, Nat.add_assoc, Nat.add_comm 1]

/-- Cells with other values from an offset on. -/
theorem run_storeCells {P : Program} {b t : Nat} {o : Nat} (vs : List Value) : ∀ (w : World) (i : Nat) (c : Array Value), w.heap[b]? = some (.cells c t (0, 0)) → o + i + vs.length ≤ c.size →
    (∀ v, v ∈ vs → v.oneCell' = true) →
    ∃ w' c', (storeCells ⟨b, o, none⟩ vs i).run P w = .ok () w' ∧ w'.os = w.os ∧ w'.tape = w.tape ∧ w'.output = w.output ∧ w'.heap.size = w.heap.size ∧ (∀ k, k ≠ b → w'.heap[k]? = w.heap[k]?) ∧
      w'.heap[b]? = some (.cells c' t (0, 0)) ∧ c'.size = c.size ∧ ∀ p, c'[p]? = if o + i ≤ p ∧ p < o + i + vs.length then vs[p - (o + i)]? else c[p]? := by
  induction vs with
  | nil =>
    intro w i c hb _ _
    refine ⟨w, c, rfl, rfl, rfl, rfl, rfl, fun _ _ => rfl, hb, rfl, fun p => ?_⟩
    rw [if_neg (by simp only [List.length_nil]; omega)]
  | cons v vs ih =>
    intro w i c hb hlen hone
    simp only [List.length_cons] at hlen
    have hcell : w.cell? ⟨b, o + i, none⟩ = some (c[o + i]'(by omega)) := by rw [cell_of_block hb]; exact Array.getElem?_eq_getElem (by omega)
    have hfz : w.frozen? ⟨b, o + i, none⟩ = false := by simp [World.frozen?, hb]
    have hset : (w.setCell ⟨b, o + i, none⟩ v).heap[b]? = some (.cells (c.setIfInBounds (o + i) v) t (0, 0)) := by
      simp [World.setCell, Array.getElem?_modify, hb]
    obtain ⟨w', c', hrun, h1, h2, h3, h4, h5, h6, h7, h8⟩ := ih (w.setCell ⟨b, o + i, none⟩ v) (i + 1) (c.setIfInBounds (o + i) v) hset (by simp; omega) (fun x hx => hone x (List.mem_cons_of_mem _ hx))
    refine ⟨w', c', ?_, h1, h2, h3, by rw [h4]; simp, fun k hk => by rw [h5 k hk]; simp [World.setCell, Array.getElem?_modify, Ne.symm hk], h6, by rw [h7]; simp, fun p => ?_⟩
    · simp only [storeCells, Sem.run_bind, add_none]
      rw [run_store P w _ v _ (hone v (List.mem_cons_self ..)), hcell, hfz]
      simpa using hrun
    · rw [h8 p]
      by_cases hp : p = o + i
      · subst hp
        rw [if_neg (by omega), if_pos (by simp), Array.getElem?_setIfInBounds_self_of_lt (by omega)]
        simp
      · by_cases hq : o + (i + 1) ≤ p ∧ p < o + (i + 1) + vs.length
        · rw [if_pos hq, if_pos (by simp; omega)]
          rw [show p - (o + i) = (p - (o + (i + 1))) + 1 from by omega, List.getElem?_cons_succ]
        · rw [if_neg hq, if_neg (by simp; omega), Array.getElem?_setIfInBounds_ne (by omega)]

theorem Shapes.of_same {w w' : World} (h : ∀ k, k < w.heap.size → w'.heap[k]? = w.heap[k]?) : Shapes w w' := fun b c t f hc =>
  ⟨c, f, by rw [h b (Array.getElem?_eq_some_iff.1 hc).1]; exact hc, rfl⟩

theorem BlkIn.mono {F F' : Nat → Prop} {w w' : World} {g : Int} {b : Blk} (hF : ∀ k, F k → F' k) (hg : 0 ≤ g → ¬ F' g.toNat) (hh : ∀ k, F k → w'.heap[k]? = w.heap[k]?) (hs : Shapes w w')
    (hgb : 0 ≤ g → w'.heap[g.toNat]? = w.heap[g.toNat]?) (h : BlkIn F w g b) : BlkIn F' w' g b := by
  unfold BlkIn at *
  split
  · rename_i h0; rw [if_pos h0] at h; exact h
  · rename_i h0
    rw [if_neg h0] at h
    obtain ⟨_, c, t, hc, hlen, hk⟩ := h
    refine ⟨hg (by omega), c, t, by rw [hgb (by omega)]; exact hc, hlen, fun k e he => ⟨(hk k e he).1, fun j x hx => ?_⟩⟩
    obtain ⟨h1, v, h2, h3⟩ := (hk k e he).2 j x hx
    exact ⟨h1, v, h2, h3.mono hF hh hs⟩

theorem BlkIn.at {F : Nat → Prop} {w : World} {g : Int} {b : Blk} (h : BlkIn F w g b) {k : Nat} (hk : k < b.els.length) : 0 ≤ g ∧ ¬ F g.toNat ∧ ∃ c t, w.heap[g.toNat]? = some (.cells c t (0, 0)) ∧ b.els.length * b.sz ≤ c.size ∧
    ∀ k e, b.els[k]? = some e → e.length = b.sz ∧ ∀ j x, e[j]? = some x → x.one = true ∧ ∃ v, c[k * b.sz + j]? = some v ∧ Rep F w x v := by
  unfold BlkIn at h
  split at h
  · rw [h] at hk; cases hk
  · exact ⟨by omega, h⟩

/-- Nothing but new blocks and a change of the blocks X of the call's own. -/
theorem Mem.step {w0 : World} {M F F' : Nat → Prop} {bl bl' : Int → Option Blk} {w w' : World} (h : Mem w0 M F bl w) (hos : w'.os = w.os) (htape : w'.tape = w.tape) (hout : w'.output = w.output)
    (hsize : w.heap.size ≤ w'.heap.size) (hsh : Shapes w w') (X : Nat → Prop) (hx : ∀ k, k < w.heap.size → ¬ X k → w'.heap[k]? = w.heap[k]?) (hX : ∀ k, X k → w0.heap.size ≤ k ∨ M k)
    (hF' : ∀ k, F' k → k < w'.heap.size) (hfin : ∃ n : Int, ∀ g, g < n → bl' g = none)
    (hbl : ∀ g b, bl' g = some b → (0 ≤ g → w0.heap.size ≤ g.toNat ∨ M g.toNat) ∧ BlkIn F' w' g b) : Mem w0 M F' bl' w' := by
  refine ⟨hos.trans h.os, htape.trans h.tape, hout.trans h.output, Nat.le_trans h.size hsize, fun k hk hM => ?_, h.shapes.trans hsh, hF', hfin, fun g b hb => (hbl g b hb).1, fun g b hb => (hbl g b hb).2⟩
  rw [hx k (Nat.lt_of_lt_of_le hk h.size) (fun hXk => by rcases hX k hXk with h1 | h1; omega; exact hM h1)]
  exact h.frame k hk hM

/-- The world grows at its end alone. -/
theorem Mem.grow {w0 : World} {M F F' : Nat → Prop} {bl : Int → Option Blk} {w w' : World} (h : Mem w0 M F bl w) (hos : w'.os = w.os) (htape : w'.tape = w.tape) (hout : w'.output = w.output)
    (hsize : w.heap.size ≤ w'.heap.size) (hsame : ∀ k, k < w.heap.size → w'.heap[k]? = w.heap[k]?) (hFF : ∀ k, F k → F' k) (hF' : ∀ k, F' k → k < w'.heap.size) (hnew : ∀ k, F' k → F k ∨ w.heap.size ≤ k) : Mem w0 M F' bl w' := by
  refine h.step hos htape hout hsize (.of_same hsame) (fun _ => False) (fun k hk _ => hsame k hk) (fun _ h => h.elim) hF' h.fin fun g b hb => ⟨h.own g b hb, ?_⟩
  have hB := h.blk g b hb
  refine hB.mono hFF (fun hg => ?_) (fun k hk => hsame k (h.fr k hk)) (.of_same hsame) (fun hg => ?_)
  · intro hF
    unfold BlkIn at hB
    rw [if_neg (by omega)] at hB
    obtain ⟨h1, c, t, h2, _⟩ := hB
    rcases hnew _ hF with h3 | h3
    · exact h1 h3
    · have := (Array.getElem?_eq_some_iff.1 h2).1; omega
  · unfold BlkIn at hB
    rw [if_neg (by omega)] at hB
    obtain ⟨h1, c, t, h2, _⟩ := hB
    exact hsame _ (Array.getElem?_eq_some_iff.1 h2).1

/-- A new block of the call's own. -/
theorem Mem.alloc {w0 : World} {M F : Nat → Prop} {bl : Int → Option Blk} {w : World} (h : Mem w0 M F bl w) (c : Array Value) (t : TypeId) (sz : Nat) (els : List (List V)) (hlen : els.length * sz ≤ c.size)
    (hk : ∀ k e, els[k]? = some e → e.length = sz ∧ ∀ j x, e[j]? = some x → x.one = true ∧ ∃ v, c[k * sz + j]? = some v ∧ Rep F w x v) :
    bl w.heap.size = none ∧ Mem w0 M F (upd bl (w.heap.size : Int) (some ⟨sz, els⟩)) (w.alloc (.cells c t)) := by
  have hsame : ∀ k, k < w.heap.size → (w.alloc (.cells c t)).heap[k]? = w.heap[k]? := fun k hk => Below.heap_alloc _ _ _ hk
  refine ⟨?_, ?_⟩
  · cases hb : bl w.heap.size with
    | none => rfl
    | some b =>
      have := h.blk _ b hb
      unfold BlkIn at this
      rw [if_neg (by omega)] at this
      obtain ⟨_, c, t, hc, _⟩ := this
      have := (Array.getElem?_eq_some_iff.1 hc).1
      simp at this
  · refine h.step rfl rfl rfl (by simp) (.of_same hsame) (fun _ => False) (fun k hk _ => hsame k hk) (fun _ h => h.elim) (fun k hk => by have := h.fr k hk; simp; omega) ?_ fun g b hb => ?_
    · obtain ⟨n, hn⟩ := h.fin
      refine ⟨min n 0, fun g hg => ?_⟩
      rw [upd_ne _ _ _ _ (by omega)]
      exact hn g (by omega)
    · by_cases hg : g = (w.heap.size : Int)
      · subst hg
        rw [upd_same] at hb
        cases hb
        refine ⟨fun _ => .inl (by simpa using h.size), ?_⟩
        unfold BlkIn
        rw [if_neg (by omega)]
        refine ⟨fun hF => by have := h.fr _ hF; simp at this, c, t, by show (w.heap.push _)[w.heap.size]? = _; simp, hlen, fun k e he => ⟨(hk k e he).1, fun j x hx => ?_⟩⟩
        obtain ⟨h1, v, h2, h3⟩ := (hk k e he).2 j x hx
        exact ⟨h1, v, h2, h3.mono (fun _ h => h) (fun k hk => hsame k (h.fr k hk)) (.of_same hsame)⟩
      · rw [upd_ne _ _ _ _ hg] at hb
        refine ⟨h.own g b hb, (h.blk g b hb).mono (fun _ h => h) (fun h0 hF => ?_) (fun k hk => hsame k (h.fr k hk)) (.of_same hsame) (fun h0 => ?_)⟩
        · have hB := h.blk g b hb
          unfold BlkIn at hB
          rw [if_neg (by omega)] at hB
          exact hB.1 hF
        · have hB := h.blk g b hb
          unfold BlkIn at hB
          rw [if_neg (by omega)] at hB
          obtain ⟨_, c, t, h2, _⟩ := hB
          exact hsame _ (Array.getElem?_eq_some_iff.1 h2).1

/-- A list with other cells from an offset on. -/
def splice : List V → Nat → List V → List V
  | l, _, [] => l
  | l, o, c :: cs => splice (l.set o c) (o + 1) cs
theorem splice_length (cs : List V) : ∀ (l : List V) (o : Nat), (splice l o cs).length = l.length := by
  induction cs with
  | nil => intro l o; rfl
  | cons c cs ih => intro l o; simp [splice, ih]
theorem splice_get (cs : List V) : ∀ (l : List V) (o : Nat), o + cs.length ≤ l.length → ∀ p, (splice l o cs)[p]? = if o ≤ p ∧ p < o + cs.length then cs[p - o]? else l[p]? := by
  induction cs with
  | nil => intro l o _ p; rw [if_neg (by simp only [List.length_nil]; omega)]; rfl
  | cons c cs ih =>
    intro l o h p
    simp only [List.length_cons] at h
    rw [splice, ih _ _ (by simp; omega) p]
    by_cases hp : p = o
    · subst hp
      rw [if_neg (by omega), if_pos (by simp), List.getElem?_set_self (by omega)]
      simp
    · by_cases hq : o + 1 ≤ p ∧ p < o + 1 + cs.length
      · rw [if_pos hq, if_pos (by simp; omega), show p - o = (p - (o + 1)) + 1 from by omega, List.getElem?_cons_succ]
      · rw [if_neg hq, if_neg (by simp; omega), List.getElem?_set_ne (by omega)]

theorem idx_ne {k k' sz j j' : Nat} (hj : j < sz) (hj' : j' < sz) (h : k ≠ k') : k * sz + j ≠ k' * sz + j' := by
  intro e
  rcases Nat.lt_or_gt_of_ne h with h1 | h1
  · have : (k + 1) * sz ≤ k' * sz := Nat.mul_le_mul_right _ h1
    rw [Nat.add_mul] at this; omega
  · have : (k' + 1) * sz ≤ k * sz := Nat.mul_le_mul_right _ h1
    rw [Nat.add_mul] at this; omega

theorem idx_lt {k n sz j : Nat} (hk : k < n) (hj : j < sz) : k * sz + j < n * sz := by
  have : (k + 1) * sz ≤ n * sz := Nat.mul_le_mul_right _ hk
  rw [Nat.add_mul] at this; omega

/-- A store into a block of the call's own. -/
theorem Mem.store {P : Program} {w0 : World} {M F : Nat → Prop} {bl : Int → Option Blk} {w : World} (h : Mem w0 M F bl w) {g : Int} {b : Blk} (hb : bl g = some b) {k j : Nat} {e cs : List V} (he : b.els[k]? = some e)
    (hj : j + cs.length ≤ b.sz) (hone : ∀ x, x ∈ cs → x.one = true) {vs : List Value} (hvl : vs.length = cs.length) (hvr : ∀ (i : Nat) (x : V), cs[i]? = some x → ∃ v, vs[i]? = some v ∧ Rep F w x v)
    (hvo : ∀ v, v ∈ vs → v.oneCell' = true) :
    ∃ w', (storeCells ⟨g.toNat, k * b.sz + j, none⟩ vs).run P w = .ok () w' ∧ Mem w0 M F (upd bl g (some ⟨b.sz, b.els.set k (splice e j cs)⟩)) w' ∧ (∀ k, F k → w'.heap[k]? = w.heap[k]?) ∧ Shapes w w' := by
  have hkl : k < b.els.length := (List.getElem?_eq_some_iff.1 he).1
  obtain ⟨hg0, hFg, c, t, hc, hlen, hcell⟩ := (h.blk g b hb).at hkl
  have hel := (hcell k e he).1
  have hkk : (k + 1) * b.sz ≤ b.els.length * b.sz := Nat.mul_le_mul_right _ hkl
  rw [Nat.add_mul] at hkk
  obtain ⟨w', c', hrun, h1, h2, h3, h4, h5, h6, h7, h8⟩ := run_storeCells (P := P) (b := g.toNat) (t := t) (o := k * b.sz + j) vs w 0 c hc (by omega) hvo
  have hsh : Shapes w w' := fun bb cc tt ff hcc => by
    by_cases hbb : bb = g.toNat
    · subst hbb
      rw [hc] at hcc
      cases hcc
      exact ⟨c', _, h6, h7⟩
    · exact ⟨cc, ff, by rw [h5 _ hbb]; exact hcc, rfl⟩
  have hFs : ∀ k, F k → w'.heap[k]? = w.heap[k]? := fun k hk => h5 k (fun e => hFg (e ▸ hk))
  have hrep : ∀ {x v}, Rep F w x v → Rep F w' x v := fun hr => hr.mono (fun _ h => h) hFs hsh
  refine ⟨w', hrun, ?_, hFs, hsh⟩
  refine h.step h1 h2 h3 (by omega) hsh (fun k => k = g.toNat) (fun k _ hk => h5 k hk) (fun k hk => hk ▸ h.own g b hb hg0) (fun k hk => by rw [h4]; exact h.fr k hk) ?_ fun g' b' hb' => ?_
  · obtain ⟨n, hn⟩ := h.fin
    refine ⟨min n 0, fun g' hg' => ?_⟩
    rw [upd_ne _ _ _ _ (by omega)]
    exact hn g' (by omega)
  · by_cases hgg : g' = g
    · subst hgg
      rw [upd_same] at hb'
      cases hb'
      refine ⟨h.own g' b hb, ?_⟩
      unfold BlkIn
      rw [if_neg (by omega)]
      refine ⟨hFg, c', t, h6, by simp; omega, fun k' e' he' => ?_⟩
      simp only at he' ⊢
      by_cases hkk' : k' = k
      · subst hkk'
        rw [List.getElem?_set_self hkl] at he'
        cases he'
        refine ⟨by rw [splice_length]; exact hel, fun j' x hx => ?_⟩
        rw [splice_get _ _ _ (by omega)] at hx
        have hj'lt : j' < b.sz := by
          by_cases hq : j ≤ j' ∧ j' < j + cs.length
          · omega
          · rw [if_neg hq] at hx; have := (List.getElem?_eq_some_iff.1 hx).1; omega
        rw [h8]
        by_cases hq : j ≤ j' ∧ j' < j + cs.length
        · rw [if_pos hq] at hx
          rw [if_pos (by omega)]
          obtain ⟨v, hv, hr⟩ := hvr _ x hx
          exact ⟨hone x (List.mem_of_getElem? hx), v, by rw [show k' * b.sz + j' - (k' * b.sz + j + 0) = j' - j from by omega]; exact hv, hrep hr⟩
        · rw [if_neg hq] at hx
          rw [if_neg (by omega)]
          obtain ⟨ho, v, hv, hr⟩ := (hcell k' e he).2 j' x hx
          exact ⟨ho, v, hv, hrep hr⟩
      · rw [List.getElem?_set_ne (Ne.symm hkk')] at he'
        obtain ⟨hl', hc'⟩ := hcell k' e' he'
        refine ⟨hl', fun j' x hx => ?_⟩
        obtain ⟨ho, v, hv, hr⟩ := hc' j' x hx
        refine ⟨ho, v, ?_, hrep hr⟩
        rw [h8, if_neg, hv]
        intro hq
        have hj' : j' < b.sz := by have := (List.getElem?_eq_some_iff.1 hx).1; omega
        exact idx_ne (j := j') (j' := k' * b.sz + j' - k * b.sz) hj' (by omega) hkk' (by omega)
    · rw [upd_ne _ _ _ _ hgg] at hb'
      refine ⟨h.own g' b' hb', (h.blk g' b' hb').mono (fun _ h => h) (fun h0 hF => ?_) hFs hsh (fun h0 => h5 _ (by omega))⟩
      have hB := h.blk g' b' hb'
      unfold BlkIn at hB
      rw [if_neg (by omega)] at hB
      exact hB.1 hF

theorem Rep.one {F : Nat → Prop} {w : World} {x : V} {v : Value} (h : Rep F w x v) (ho : x.one = true) : v.oneCell' = true := by
  cases h <;> first | rfl | (simp [V.one] at ho)

/-- The cells of a value, side by side. -/
theorem Rep.cells {F : Nat → Prop} {w : World} {x : V} {v : Value} (h : Rep F w x v) (ho : x.cells.all V.one = true) :
    v.cells.toList.length = x.cells.length ∧ (∀ (i : Nat) (y : V), x.cells[i]? = some y → ∃ u, v.cells.toList[i]? = some u ∧ Rep F w y u) ∧ ∀ u, u ∈ v.cells.toList → u.oneCell' = true := by
  have key : ∀ (vs : List Value), vs.length = x.cells.length → (∀ (i : Nat) (y : V), x.cells[i]? = some y → ∃ u, vs[i]? = some u ∧ Rep F w y u) → ∀ u, u ∈ vs → u.oneCell' = true := by
    intro vs hl hr u hu
    obtain ⟨i, hi⟩ := List.getElem?_of_mem hu
    have hlt := (List.getElem?_eq_some_iff.1 hi).1
    obtain ⟨u', h1, h2⟩ := hr i (x.cells[i]'(by omega)) (List.getElem?_eq_getElem (by omega))
    rw [hi] at h1; cases h1
    exact h2.one (List.all_eq_true.1 ho _ (List.getElem_mem _))
  have hx := h
  cases h
  case agg cs arr hlen hr =>
    have h2 : ∀ (i : Nat) (y : V), (V.agg cs).cells[i]? = some y → ∃ u, (Value.agg arr).cells.toList[i]? = some u ∧ Rep F w y u := by
      intro i y hy
      have hlt : i < arr.size := by have := (List.getElem?_eq_some_iff.1 hy).1; simp [V.cells] at this; omega
      refine ⟨arr[i], by simp [Value.cells, hlt], ?_⟩
      have := hr i y hy
      simpa [hlt] using this
    exact ⟨by simp [Value.cells, V.cells, hlen], h2, key _ (by simp [Value.cells, V.cells, hlen]) h2⟩
  all_goals
    first
    | (simp [V.cells, V.one] at ho; done)
    | (refine ⟨rfl, fun i y hy => ?_, key _ rfl fun i y hy => ?_⟩ <;>
       (have hi : i = 0 := by have := (List.getElem?_eq_some_iff.1 hy).1; simp [V.cells] at this; omega
        subst hi
        simp only [V.cells, List.getElem?_cons_zero, Option.some.injEq] at hy
        subst hy
        exact ⟨_, rfl, hx⟩))

end Go.Proofs.Ytpkphjoobeacfaa.Vm
