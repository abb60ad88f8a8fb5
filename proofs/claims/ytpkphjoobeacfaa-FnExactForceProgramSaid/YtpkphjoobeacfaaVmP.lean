/- Drawn regions whose last operations store while others are still to come. A middle that is stated. -/
import Derived.Test.YtpkphjoobeacfaaVmS
namespace Go.Proofs.Ytpkphjoobeacfaa.Vm
open Go Go.RowKit
set_option linter.unusedVariables false

section
variable {P : Program} {ops : Array Oper} {w0 : World} {M F : Nat → Prop} {a : Act} {w : World}

/-- i is one of the last, or one of the last is done. -/
def late (tl : Nat → Bool) (l : Array Bool) (i : Nat) : Bool := tl i || (List.range l.size).any fun k => tl k && l.getD k false
/-- DAny, where nothing is kept once one of the last operations is done. -/
def DL (P : Program) (ops : Array Oper) (blK : Int → Option Blk) (tl : Nat → Bool) (K : St → Prop) : Nat → Array Bool → St → Prop
  | 0, l, σ => Region.ready .any ops l = [] ∧ K σ
  | fuel + 1, l, σ => (Region.ready .any ops l = [] → K σ) ∧ ∀ i ∈ Region.ready .any ops l, D1 P ops i (fun σ' => (late tl l i = false → Sub blK σ'.bl) ∧ DL P ops blK tl K fuel (l.setIfInBounds i true) σ') σ

theorem DL_sound {blK : Int → Option Blk} {tl : Nat → Bool} {K : St → Prop} {Q : Exit → Act → World → Prop} {F0 : Nat → Prop} (hQ : ∀ σ F a w, (∀ b, F0 b → F b) → Sim w0 M F σ a w → K σ → Q .normal a w) :
    ∀ (fuel : Nat) (l : Array Bool) (σ : St) (F : Nat → Prop) (a : Act) (w : World), (∀ b, F0 b → F b) → DL P ops blK tl K fuel l σ → Sim w0 M F σ a w → wpAny P .any ops Q fuel l a w
  | 0, l, σ, F, a, w, hF, h, hs => ⟨h.1, hQ σ F a w hF hs h.2⟩
  | fuel + 1, l, σ, F, a, w, hF, h, hs => ⟨fun h0 => hQ σ F a w hF hs (h.1 h0), fun i hi => D1_sound (h.2 i hi) hs fun σ' F' a' w' hF' hs' hk => DL_sound hQ fuel _ σ' F' a' w' (fun b hb => hF' b (hF b hb)) hk.2 hs'⟩

theorem AW_drawL {id : Nat} {K : Ex → St → Prop} {σ : St} (hm : P.follows .mixedOrders = true) (blK : Int → Option Blk) {tl : Nat → Bool} (h : DL P ops blK tl (K .normal) ops.size (Array.replicate ops.size false) σ) : AW P (.region id ops true) K σ := by
  intro w0 M F a w hs
  refine wp_region_any hm (DL_sound (F0 := F) (w0 := w0) (M := M) (fun σ' F' a' w' hF' hs' hK => ⟨.normal, σ', F', rfl, hF', hs', hK⟩) _ _ σ F a _ (fun _ h => h) h ?_)
  have hsh : Shapes w { w with drawn := w.drawn + 1 } := fun b c t f hc => ⟨c, f, hc, rfl⟩
  refine ⟨⟨hs.mem.os, hs.mem.tape, hs.mem.output, hs.mem.size, hs.mem.frame, hs.mem.shapes, hs.mem.fr, hs.mem.fin, hs.mem.own, fun g b hb => ?_⟩, hs.size, fun t ht => ?_, hs.defers⟩
  · have hh : ∀ b, F b → ({ w with drawn := w.drawn + 1 } : World).heap[b]? = w.heap[b]? := fun _ _ => rfl
    have hg : 0 ≤ g → ({ w with drawn := w.drawn + 1 } : World).heap[g.toNat]? = w.heap[g.toNat]? := fun _ => rfl
    refine BlkIn.mono (fun _ h => h) (fun h0 hFg => ?_) hh hsh hg (hs.mem.blk g b hb)
    have := hs.mem.blk g b hb
    unfold BlkIn at this
    rw [if_neg (by omega)] at this
    exact this.1 hFg
  · have hh : ∀ b, F b → ({ w with drawn := w.drawn + 1 } : World).heap[b]? = w.heap[b]? := fun _ _ => rfl
    exact Rep.mono (fun _ h => h) hh hsh (hs.sl t ht)

theorem DL_first {blK : Int → Option Blk} {tl : Nat → Bool} {K : St → Prop} {i : Nat} {oi : Oper} {v : V} (hi : ops[i]? = some oi) (hti : tl i = false) (hT : ∀ j oj, tl j = true → ops[j]? = some oj → ∃ e ∈ oj.after, Region.binds .any e = true ∧ e.on = i) : ∀ (fuel : Nat) (l : Array Bool) (σ : St),
    (∀ j oj, ops[j]? = some oj → j ≠ i → l.getD j true = false → (∀ e ∈ oj.after, Region.binds .any e = true → e.on ≠ i) → oi.apart ops oj = true) → (∀ k, tl k = true → l.getD k false = false) →
    i ∈ Region.ready .any ops l → Sub blK σ.bl → DY P ops blK oi σ v → DL P ops blK tl K fuel (l.setIfInBounds i true) (σ.put oi.dst v) → DL P ops blK tl K (fuel + 1) l σ := by
  have hbl : ∀ (σ : St), (σ.put oi.dst v).bl = σ.bl := fun σ => by cases oi.dst <;> rfl
  intro fuel
  induction fuel with
  | zero =>
    intro l σ _ hN hr hs hy H
    refine ⟨fun h => (by rw [h] at hr; cases hr), fun j hj => ?_⟩
    by_cases hji : j = i
    · subst hji; exact hy.step hi hs ⟨fun _ => by rw [hbl]; exact hs, H⟩
    · have := ready_mono hj hji
      rw [H.1] at this
      cases this
  | succ fuel ih =>
    intro l σ hfree hN hr hs hy H
    refine ⟨fun h => (by rw [h] at hr; cases hr), fun j hj => ?_⟩
    by_cases hji : j = i
    · subst hji; exact hy.step hi hs ⟨fun _ => by rw [hbl]; exact hs, H⟩
    · have h1 := H.2 j (ready_mono hj hji)
      obtain ⟨hjun, oj, hoj, hall⟩ := mem_ready.1 hj
      have hnot : ∀ e ∈ oj.after, Region.binds .any e = true → e.on ≠ i := fun e he hb heq => by
        have h1 := hall e he hb
        have h0 := (mem_ready.1 hr).1
        rw [heq] at h1
        rcases Nat.lt_or_ge i l.size with h' | h'
        · simp [h'] at h0 h1; rw [h0] at h1; cases h1
        · simp [Array.getElem?_eq_none h'] at h1
      have h2 := DY.put hoj (hfree j oj hoj hji hjun hnot) hy h1
      have hfree' : ∀ k ok, ops[k]? = some ok → k ≠ i → (l.setIfInBounds j true).getD k true = false →
          (∀ e ∈ ok.after, Region.binds .any e = true → e.on ≠ i) → oi.apart ops ok = true := fun k ok hk hki hun hno => by
        refine hfree k ok hk hki ?_ hno
        by_cases hjk : j = k
        · subst hjk; exact hjun
        · rw [getD_set_ne true hjk] at hun; exact hun
      refine D1_mono h2 fun σ' ⟨h3, h4, h5⟩ => ?_
      have htj : tl j = false := by
        cases htl : tl j with
        | false => rfl
        | true =>
          obtain ⟨e, he, hb, hon⟩ := hT j oj htl hoj
          exact absurd hon (hnot e he hb)
      have hlate : late tl (l.setIfInBounds i true) j = false := by
        unfold late
        rw [htj, Bool.false_or, List.any_eq_false]
        intro k _ hk
        simp only [Bool.and_eq_true] at hk
        by_cases hki : i = k
        · subst hki; rw [hti] at hk; cases hk.1
        · rw [getD_set_ne false hki, hN k hk.1] at hk; cases hk.2
      have hN' : ∀ k, tl k = true → (l.setIfInBounds j true).getD k false = false := fun k hk => by
        by_cases hkj : j = k
        · subst hkj; rw [htj] at hk; cases hk
        · rw [getD_set_ne false hkj]; exact hN k hk
      have h4 := h4 hlate
      rw [hbl] at h4
      refine ⟨fun _ => h4, ih (l.setIfInBounds j true) σ' hfree' hN' (ready_mono hr (Ne.symm hji)) h4 h3 ?_⟩
      rw [Array.setIfInBounds_comm _ _ hji]
      exact h5

theorem DL_hoist {blK : Int → Option Blk} {tl : Nat → Bool} {K : St → Prop} (fuel : Nat) : ∀ (is : List Nat) (l : Array Bool) (σ : St), (∀ i, i ∈ is → tl i = false) → (∀ k, tl k = true → l.getD k false = false) → (∀ i, i ∈ is → ∀ j oj, tl j = true → ops[j]? = some oj → ∃ e ∈ oj.after, Region.binds .any e = true ∧ e.on = i) → hoistB ops is l = true → Sub blK σ.bl →
    Hoist P ops blK is (DL P ops blK tl K fuel (setAll is l)) σ → DL P ops blK tl K (fuel + is.length) l σ
  | [], l, σ, _, _, _, _, _, h => h
  | i :: is, l, σ, hI, hN, hT, hB, hs, h => by
    simp only [hoistB, Bool.and_eq_true] at hB
    obtain ⟨⟨hr, hf⟩, hB'⟩ := hB
    unfold Hoist at h
    split at h
    · rename_i o ho
      obtain ⟨v, hy, hK⟩ := h
      have : fuel + (i :: is).length = (fuel + is.length) + 1 := by simp; omega
      rw [this]
      refine DL_first ho (hI i List.mem_cons_self) (hT i List.mem_cons_self) _ _ _ (Region.free_spec ho hf) hN (by simpa using hr) hs hy (DL_hoist fuel is _ _ (fun i hi => hI i (List.mem_cons_of_mem _ hi)) (fun k hk => ?_) (fun i hi => hT i (List.mem_cons_of_mem _ hi)) hB' ?_ hK)
      · by_cases hki : i = k
        · subst hki; rw [hI i List.mem_cons_self] at hk; cases hk
        · rw [getD_set_ne false hki]; exact hN k hk
      cases o.dst <;> exact hs
    · exact h.elim

end

theorem AW_mixedL {P : Program} {id : Nat} {ops : Array Oper} {K : Ex → St → Prop} {σ : St} (hm : P.follows .mixedOrders = true) (blK : Int → Option Blk) (hs : Sub blK σ.bl) (is : List Nat) (fuel n : Nat) (hn : (ops.size == fuel + is.length && is.all (fun i => decide (i < ops.size)) && hoistB ops is (Array.replicate ops.size false) && tailB ops (fun j => decide (n ≤ j)) is && is.all (fun i => decide (i < n))) = true)
    (h : HoistF P (ops.toList.map (·.dst)) blK (is.filterMap fun i => ops[i]?) (DL P ops blK (fun j => decide (n ≤ j)) (K .normal) fuel (setAll is (Array.replicate ops.size false))) σ) : AW P (.region id ops true) K σ := by
  simp only [Bool.and_eq_true, beq_iff_eq] at hn
  refine AW_drawL hm blK (tl := fun j => decide (n ≤ j)) ?_
  have := DL_hoist (P := P) (ops := ops) (blK := blK) (tl := fun j => decide (n ≤ j)) (K := K .normal) fuel is (Array.replicate ops.size false) σ
    (fun i hi => by have := List.all_eq_true.1 hn.2 i hi; simp at this ⊢; exact this) (fun k _ => by
      rw [Array.getD_eq_getD_getElem?, Array.getElem?_replicate]; split <;> rfl) (tailB_spec hn.1.2) hn.1.1.2 hs (Hoist_is _ is σ (filter_some is hn.1.1.1.2) h)
  rw [← hn.1.1.1.1] at this
  exact this

section
variable {P : Program} {ops : Array Oper} {blK : Int → Option Blk} {tl : Nat → Bool} {K : St → Prop} {fuel : Nat} {l : Array Bool} {σ : St}
theorem DL_done (hr : Region.ready .any ops l = []) (h : K σ) : DL P ops blK tl K fuel l σ := by
  cases fuel with
  | zero => exact ⟨hr, h⟩
  | succ n => exact ⟨fun _ => h, fun i hi => by rw [hr] at hi; cases hi⟩
theorem DL_op {i : Nat} {o : Oper} {e : Bool} (ho : ops[i]? = some o) (hg : o.guard = none) (he : late tl l i = e) (h : T P o (fun σ' => (e = false → Sub blK σ'.bl) ∧ DL P ops blK tl K fuel (l.setIfInBounds i true) σ') σ) :
    D1 P ops i (fun σ' => (late tl l i = false → Sub blK σ'.bl) ∧ DL P ops blK tl K fuel (l.setIfInBounds i true) σ') σ := by
  subst he; unfold D1; rw [ho]; simp only [hg]; exact h
theorem DL_one {i : Nat} {o : Oper} (e : Bool) (hr : Region.ready .any ops l = [i]) (ho : ops[i]? = some o) (hg : o.guard = none) (he : late tl l i = e) (h : T P o (fun σ' => (e = false → Sub blK σ'.bl) ∧ DL P ops blK tl K fuel (l.setIfInBounds i true) σ') σ) : DL P ops blK tl K (fuel + 1) l σ := by
  refine ⟨fun h0 => (by rw [hr] at h0; cases h0), fun k hk => ?_⟩
  rw [hr] at hk
  obtain rfl : k = i := by simpa using hk
  exact DL_op ho hg he h
theorem DL_two {i j : Nat} {o p : Oper} (e f : Bool) (hr : Region.ready .any ops l = [i, j]) (ho : ops[i]? = some o) (hg : o.guard = none) (he : late tl l i = e) (ho' : ops[j]? = some p) (hg' : p.guard = none) (he' : late tl l j = f)
    (h : T P o (fun σ' => (e = false → Sub blK σ'.bl) ∧ DL P ops blK tl K fuel (l.setIfInBounds i true) σ') σ)
    (h' : T P p (fun σ' => (f = false → Sub blK σ'.bl) ∧ DL P ops blK tl K fuel (l.setIfInBounds j true) σ') σ) : DL P ops blK tl K (fuel + 1) l σ := by
  refine ⟨fun h0 => (by rw [hr] at h0; cases h0), fun k hk => ?_⟩
  rw [hr] at hk
  rcases List.mem_cons.1 hk with rfl | hk
  · exact DL_op ho hg he h
  · obtain rfl : k = j := by simpa using hk
    exact DL_op ho' hg' he' h'
theorem DL_three {i j m : Nat} {o p q : Oper} (e f g : Bool) (hr : Region.ready .any ops l = [i, j, m]) (ho : ops[i]? = some o) (hg : o.guard = none) (he : late tl l i = e) (ho' : ops[j]? = some p) (hg' : p.guard = none) (he' : late tl l j = f) (ho2 : ops[m]? = some q) (hg2 : q.guard = none) (he2 : late tl l m = g)
    (h : T P o (fun σ' => (e = false → Sub blK σ'.bl) ∧ DL P ops blK tl K fuel (l.setIfInBounds i true) σ') σ)
    (h' : T P p (fun σ' => (f = false → Sub blK σ'.bl) ∧ DL P ops blK tl K fuel (l.setIfInBounds j true) σ') σ)
    (h2 : T P q (fun σ' => (g = false → Sub blK σ'.bl) ∧ DL P ops blK tl K fuel (l.setIfInBounds m true) σ') σ) : DL P ops blK tl K (fuel + 1) l σ := by
  refine ⟨fun h0 => (by rw [hr] at h0; cases h0), fun k hk => ?_⟩
  rw [hr] at hk
  rcases List.mem_cons.1 hk with rfl | hk
  · exact DL_op ho hg he h
  · rcases List.mem_cons.1 hk with rfl | hk
    · exact DL_op ho' hg' he' h'
    · obtain rfl : k = m := by simpa using hk
      exact DL_op ho2 hg2 he2 h2
end

/-! ### A middle that is stated -/
def seqA (P : Program) (y : Code) (K : Ex → St → Prop) (e : Ex) (σ : St) : Prop := match e with | .normal => AW P y K σ | .exit i => K (.exit i) σ | .ret => K .ret σ
@[simp] theorem seqA_normal (P : Program) (y : Code) (K : Ex → St → Prop) (σ : St) : seqA P y K .normal σ = AW P y K σ := rfl
@[simp] theorem seqA_exit (P : Program) (y : Code) (K : Ex → St → Prop) (i : Nat) (σ : St) : seqA P y K (.exit i) σ = K (.exit i) σ := rfl
@[simp] theorem seqA_ret (P : Program) (y : Code) (K : Ex → St → Prop) (σ : St) : seqA P y K .ret σ = K .ret σ := rfl
/-- Runs up to the first semicolon. -/
theorem AW_runA {P : Program} {x y : Code} {K : Ex → St → Prop} {σ : St} (h : runC P x (seqA P y K) σ) : AW P (.seq x y) K σ := by
  refine AW_seq ((AW_run h).mono fun e σ' h' => ?_)
  cases e with
  | normal => exact h'
  | exit i => exact h'
  | ret => exact h'
def midQ {α : Type} (S : α → List (Nat × V)) (B : α → Int → Option Blk) (I : α → Prop) (n : Nat) (e : Ex) (σ : St) : Prop := e = .normal ∧ ∃ a, I a ∧ Fit (S a) n (B a) σ
theorem midQ_normal {α : Type} (S : α → List (Nat × V)) (B : α → Int → Option Blk) (I : α → Prop) (n : Nat) (σ : St) : midQ S B I n .normal σ = ∃ a, I a ∧ Fit (S a) n (B a) σ := by simp [midQ]
/-- Whatever way the first goes: these slots and blocks. -/
theorem AW_mid {α : Type} {P : Program} {x y : Code} {K : Ex → St → Prop} {σ : St} (S : α → List (Nat × V)) (B : α → Int → Option Blk) (I : α → Prop) (n : Nat) (h1 : AW P x (midQ S B I n) σ)
    (h2 : ∀ a, I a → AW P y K ⟨n, hv (S a), B a⟩) : AW P (.seq x y) K σ := by
  refine AW_seq (h1.mono fun e σ' ⟨he, a, hI, hf⟩ => ?_)
  subst he
  exact AW_at _ _ _ hf (h2 a hI)

end Go.Proofs.Ytpkphjoobeacfaa.Vm
