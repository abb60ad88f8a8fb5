/- A value-level logic over the model's wp: abstract values, their representation in a world, abstract states, the simulation and the rules of control. -/
import Derived.Below
import Derived.Laws.World
import Derived.Orders
namespace Go.Proofs.Ytpkphjoobeacfaa.Vm
open Go Go.RowKit

/-- An abstract value: immutable data as trees, references to blocks of the call's own. -/
inductive V where
  | junk
  | bool (b : Bool)
  | int (k : IntKind) (n : Int)
  | str (s : ByteArray)
  | nilp
  | ptr (cs : List V)
  | nils
  | sle
  | sl (xs : List (List V))
  | loc (g : Int) (sz k j : Nat)
  | lsl (g : Int) (sz o n : Nat)
  | agg (cs : List V)
  | tup (vs : List V)
  | fn (f : FuncId) (cap : List V)
  deriving Inhabited

/-- Does the value lie in one cell? -/
def V.one : V → Bool
  | .junk | .agg _ | .tup _ => false
  | _ => true

/-- The cells of a value. -/
def V.cells : V → List V
  | .agg cs => cs
  | v => [v]

/-- What an abstract value stands for in a world; all that it reads lies in blocks of F. -/
inductive Rep (F : Nat → Prop) (w : World) : V → Value → Prop
  | junk (v : Value) : Rep F w .junk v
  | bool (b : Bool) : Rep F w (.bool b) (.bool b)
  | int (k : IntKind) (n : Int) : Rep F w (.int k n) (.int k n)
  | str (s : ByteArray) : Rep F w (.str s) (.string s)
  | nilp : Rep F w .nilp (.pointer none)
  | ptr (b o : Nat) (cs : List V) (u : Nat → Value) (hF : F b) (hc : ∀ i x, cs[i]? = some x → w.cell? ⟨b, o + i, none⟩ = some (u i))
      (hr : ∀ i x, cs[i]? = some x → Rep F w x (u i)) : Rep F w (.ptr cs) (.pointer (some ⟨b, o, none⟩))
  | nils : Rep F w .nils (.slice none 0 0)
  | sle (a : Addr) (cap : Nat) : Rep F w .sle (.slice (some a) 0 cap)
  | sl0 (a : Option Addr) (cap : Nat) (ha : a = none → cap = 0) : Rep F w (.sl []) (.slice a 0 cap)
  | sl (b o cap sz : Nat) (xs : List (List V)) (u : Nat → Nat → Value) (hF : F b) (hle : xs.length ≤ cap) (hcap : cap ≤ maxLen)
      (hsz : ∀ c, c ∈ xs → c.length = sz)
      (hc : ∀ i c j x, xs[i]? = some c → c[j]? = some x → w.cell? ⟨b, o + i * sz + j, none⟩ = some (u i j))
      (hr : ∀ i c j x, xs[i]? = some c → c[j]? = some x → Rep F w x (u i j)) : Rep F w (.sl xs) (.slice (some ⟨b, o, none⟩) xs.length cap)
  | loc (g : Int) (sz k j : Nat) : Rep F w (.loc g sz k j) (.pointer (some ⟨g.toNat, k * sz + j, none⟩))
  | lsl (g : Int) (sz o n cap : Nat) (hg : 0 ≤ g) (hle : n ≤ cap) (hcap : cap ≤ maxLen)
      (hb : ∃ c t f, w.heap[g.toNat]? = some (.cells c t f) ∧ (o + cap) * sz ≤ c.size) : Rep F w (.lsl g sz o n) (.slice (some ⟨g.toNat, o * sz, none⟩) n cap)
  | lsln (g : Int) (sz : Nat) (hg : g < 0) : Rep F w (.lsl g sz 0 0) (.slice none 0 0)
  | agg (cs : List V) (arr : Array Value) (hlen : arr.size = cs.length) (hr : ∀ i x, cs[i]? = some x → Rep F w x (arr.getD i undef)) : Rep F w (.agg cs) (.agg arr)
  | tup (cs : List V) (arr : Array Value) (hlen : arr.size = cs.length) (hr : ∀ i x, cs[i]? = some x → Rep F w x (arr.getD i undef)) : Rep F w (.tup cs) (.tuple arr)
  | fn (f : FuncId) (cs : List V) (arr : Array Value) (hlen : arr.size = cs.length) (hr : ∀ i x, cs[i]? = some x → Rep F w x (arr.getD i undef)) :
      Rep F w (.fn f cs) (.func (.func f) #[] arr)

/-- Blocks keep their row and size. -/
def Shapes (w w' : World) : Prop := ∀ (b : Nat) (c : Array Value) t f, w.heap[b]? = some (.cells c t f) → ∃ c' f', w'.heap[b]? = some (.cells c' t f') ∧ c'.size = c.size

theorem Shapes.refl (w : World) : Shapes w w := fun _ c _ f h => ⟨c, f, h, rfl⟩
theorem Shapes.trans {w w1 w2 : World} (h : Shapes w w1) (k : Shapes w1 w2) : Shapes w w2 := fun b c t f hc => by
  obtain ⟨c1, f1, h1, s1⟩ := h b c t f hc
  obtain ⟨c2, f2, h2, s2⟩ := k b c1 t f1 h1
  exact ⟨c2, f2, h2, s2.trans s1⟩

theorem cell_of_heap {w w' : World} {b : Nat} (h : w'.heap[b]? = w.heap[b]?) (o : Nat) : w'.cell? ⟨b, o, none⟩ = w.cell? ⟨b, o, none⟩ := by
  simp only [World.cell?, h]

theorem Rep.mono {F F' : Nat → Prop} {w w' : World} (hF : ∀ b, F b → F' b) (hh : ∀ b, F b → w'.heap[b]? = w.heap[b]?) (hs : Shapes w w') {x : V} {v : Value} (h : Rep F w x v) : Rep F' w' x v := by
  induction h with
  | junk v => exact .junk v
  | bool b => exact .bool b
  | int k n => exact .int k n
  | str s => exact .str s
  | nilp => exact .nilp
  | ptr b o cs u hb hc hr ih => exact .ptr b o cs u (hF b hb) (fun i x hx => (cell_of_heap (hh b hb) _).trans (hc i x hx)) (fun i x hx => ih i x hx)
  | nils => exact .nils
  | sle a cap => exact .sle a cap
  | sl0 a cap ha => exact .sl0 a cap ha
  | sl b o cap sz xs u hb hle hcap hsz hc hr ih => exact .sl b o cap sz xs u (hF b hb) hle hcap hsz (fun i c j x h1 h2 => (cell_of_heap (hh b hb) _).trans (hc i c j x h1 h2)) (fun i c j x h1 h2 => ih i c j x h1 h2)
  | loc g sz k j => exact .loc g sz k j
  | lsl g sz o n cap hg hle hcap hb =>
    obtain ⟨c, t, f, h1, h2⟩ := hb
    obtain ⟨c', f', h3, h4⟩ := hs _ c t f h1
    exact .lsl g sz o n cap hg hle hcap ⟨c', t, f', h3, by omega⟩
  | lsln g sz hg => exact .lsln g sz hg
  | agg cs arr hlen hr ih => exact .agg cs arr hlen fun i x hx => ih i x hx
  | tup cs arr hlen hr ih => exact .tup cs arr hlen fun i x hx => ih i x hx
  | fn f cs arr hlen hr ih => exact .fn f cs arr hlen fun i x hx => ih i x hx

/-- A block of the call's own: elements of sz cells each. -/
structure Blk where
  sz : Nat
  els : List (List V)

/-- An abstract state. -/
structure St where
  n : Nat
  sl : Nat → V
  bl : Int → Option Blk

def upd {α β : Type} [DecidableEq α] (f : α → β) (a : α) (b : β) : α → β := fun x => if x = a then b else f x
theorem upd_same {α β : Type} [DecidableEq α] (f : α → β) (a : α) (b : β) : upd f a b a = b := by simp [upd]
theorem upd_ne {α β : Type} [DecidableEq α] (f : α → β) (a : α) (b : β) (c : α) (h : c ≠ a) : upd f a b c = f c := by simp [upd, h]
theorem upd_apply {α β : Type} [DecidableEq α] (f : α → β) (a : α) (b : β) (c : α) : upd f a b c = if c = a then b else f c := rfl
theorem upd_idem {α β : Type} [DecidableEq α] (f : α → β) (a : α) (b c : β) : upd (upd f a b) a c = upd f a c := by
  funext x; by_cases h : x = a <;> simp [upd, h]

def St.put (σ : St) (d : Option Nat) (v : V) : St := match d with
  | some d => { σ with sl := upd σ.sl d v }
  | none => σ

def ofCell : Value → V
  | .bool b => .bool b
  | .int k n => .int k n
  | .string s => .str s
  | .pointer none => .nilp
  | .slice none 0 0 => .nils
  | .nilFunc => .junk
  | _ => .junk
def ofValue : Value → V
  | .agg cs => .agg (cs.toList.map ofCell)
  | .tuple cs => .tup (cs.toList.map ofCell)
  | v => ofCell v

theorem rep_ofCell (F : Nat → Prop) (w : World) (v : Value) : Rep F w (ofCell v) v := by
  unfold ofCell
  split <;> constructor

theorem rep_cells (F : Nat → Prop) (w : World) (cs : Array Value) (i : Nat) (x : V) (hx : (cs.toList.map ofCell)[i]? = some x) : Rep F w x (cs.getD i undef) := by
  rw [List.getElem?_map] at hx
  rcases h : cs.toList[i]? with _ | y
  · rw [h] at hx; cases hx
  · rw [h] at hx; cases hx
    have : cs.getD i undef = y := by
      rw [Array.getElem?_toList] at h
      simp [Array.getD_eq_getD_getElem?, h]
    rw [this]; exact rep_ofCell _ _ _

theorem rep_ofValue (F : Nat → Prop) (w : World) (v : Value) : Rep F w (ofValue v) v := by
  unfold ofValue
  split
  · exact .agg _ _ (by simp) (rep_cells F w _)
  · exact .tup _ _ (by simp) (rep_cells F w _)
  · exact rep_ofCell _ _ _

def St.ev (σ : St) : Operand → V
  | .tmp t => if t < σ.n then σ.sl t else .junk
  | .const v => ofValue v
  | .func f => .fn f []
  | .global _ => .junk

/-- A block of the call's own, as it lies in the world. -/
def BlkIn (F : Nat → Prop) (w : World) (g : Int) (b : Blk) : Prop :=
  if g < 0 then b.els = [] else
  ¬ F g.toNat ∧ ∃ c t, w.heap[g.toNat]? = some (.cells c t (0, 0)) ∧ b.els.length * b.sz ≤ c.size ∧
    ∀ k e, b.els[k]? = some e → e.length = b.sz ∧ ∀ j x, e[j]? = some x → x.one = true ∧ ∃ v, c[k * b.sz + j]? = some v ∧ Rep F w x v

/-- The memory's part of the simulation. M: the old blocks that may be written. -/
structure Mem (w0 : World) (M F : Nat → Prop) (bl : Int → Option Blk) (w : World) : Prop where
  os : w.os = w0.os
  tape : w.tape = w0.tape
  output : w.output = w0.output
  size : w0.heap.size ≤ w.heap.size
  frame : ∀ k, k < w0.heap.size → ¬ M k → w.heap[k]? = w0.heap[k]?
  shapes : Shapes w0 w
  fr : ∀ b, F b → b < w.heap.size
  fin : ∃ n : Int, ∀ g, g < n → bl g = none
  own : ∀ g b, bl g = some b → 0 ≤ g → w0.heap.size ≤ g.toNat ∨ M g.toNat
  blk : ∀ g b, bl g = some b → BlkIn F w g b

structure Sim (w0 : World) (M F : Nat → Prop) (σ : St) (a : Act) (w : World) : Prop where
  mem : Mem w0 M F σ.bl w
  size : a.tmps.size = σ.n
  sl : ∀ t, t < σ.n → Rep F w (σ.sl t) (a.tmps.getD t undef)
  defers : a.defers = []

theorem Sim.ev {w0 : World} {M F : Nat → Prop} {σ : St} {a : Act} {w : World} (h : Sim w0 M F σ a w) (x : Operand) : Rep F w (σ.ev x) (a.eval x) := by
  cases x with
  | tmp t =>
    show Rep F w (if t < σ.n then σ.sl t else .junk) _
    split
    · rename_i ht; exact h.sl t ht
    · exact .junk _
  | const v => exact rep_ofValue _ _ _
  | func f => exact .fn f [] #[] rfl (by simp)
  | global g => exact .junk _

theorem Sim.put {w0 : World} {M F : Nat → Prop} {σ : St} {a : Act} {w : World} (h : Sim w0 M F σ a w) {d : Option Nat} {x : V} {v : Value} (hv : Rep F w x v) :
    Sim w0 M F (σ.put d x) (a.put d v) w := by
  cases d with
  | none => exact h
  | some d =>
    refine ⟨h.mem, by simp [Act.put, St.put, h.size], fun t ht => ?_, h.defers⟩
    have ht' : t < σ.n := ht
    show Rep F w (upd σ.sl d x t) ((a.tmps.setIfInBounds d v).getD t undef)
    by_cases hd : t = d
    · subst hd
      rw [upd_same]
      have : (a.tmps.setIfInBounds t v).getD t undef = v := by
        have : t < a.tmps.size := by rw [h.size]; exact ht'
        simp [Array.getD_eq_getD_getElem?, this]
      rw [this]; exact hv
    · rw [upd_ne _ _ _ _ hd]
      have : (a.tmps.setIfInBounds d v).getD t undef = a.tmps.getD t undef := by
        simp [Array.getD_eq_getD_getElem?, Array.getElem?_setIfInBounds_ne (Ne.symm hd)]
      rw [this]; exact h.sl t ht'

/-! ### Rules of control -/
inductive Ex where
  | normal
  | exit (id : Nat)
  | ret

def exOf : Ex → Exit
  | .normal => .normal
  | .exit i => .exit i
  | .ret => .ret

/-- The model's postcondition that an abstract one stands for. -/
def Post (w0 : World) (M F : Nat → Prop) (K : Ex → St → Prop) (e : Exit) (a : Act) (w : World) : Prop :=
  ∃ x σ F', e = exOf x ∧ (∀ b, F b → F' b) ∧ Sim w0 M F' σ a w ∧ K x σ

def AW (P : Program) (c : Code) (K : Ex → St → Prop) (σ : St) : Prop :=
  ∀ w0 M F a w, Sim w0 M F σ a w → c.wp P (Post w0 M F K) a w

theorem Post.mono {w0 : World} {M F : Nat → Prop} {K K' : Ex → St → Prop} (h : ∀ e σ, K e σ → K' e σ) {e : Exit} {a : Act} {w : World} (hp : Post w0 M F K e a w) : Post w0 M F K' e a w := by
  obtain ⟨x, σ, F', h1, h2, h3, h4⟩ := hp
  exact ⟨x, σ, F', h1, h2, h3, h _ _ h4⟩

theorem AW.mono {P : Program} {c : Code} {K K' : Ex → St → Prop} {σ : St} (hc : AW P c K σ) (h : ∀ e σ, K e σ → K' e σ) : AW P c K' σ :=
  fun w0 M F a w hs => wp_mono (hc w0 M F a w hs) fun _ _ _ hp => hp.mono h

theorem Post.weaken {w0 : World} {M F F1 : Nat → Prop} {K : Ex → St → Prop} (h : ∀ b, F b → F1 b) {e : Exit} {a : Act} {w : World} (hp : Post w0 M F1 K e a w) : Post w0 M F K e a w := by
  obtain ⟨x, σ, F', h1, h2, h3, h4⟩ := hp
  exact ⟨x, σ, F', h1, fun b hb => h2 b (h b hb), h3, h4⟩

def seqK (P : Program) (c : Code) (K : Ex → St → Prop) : Ex → St → Prop
  | .normal, σ => AW P c K σ
  | e, σ => K e σ
theorem seqK_normal (P : Program) (c : Code) (K : Ex → St → Prop) (σ : St) : seqK P c K .normal σ = AW P c K σ := rfl
theorem seqK_exit (P : Program) (c : Code) (K : Ex → St → Prop) (i : Nat) (σ : St) : seqK P c K (.exit i) σ = K (.exit i) σ := rfl
theorem seqK_ret (P : Program) (c : Code) (K : Ex → St → Prop) (σ : St) : seqK P c K .ret σ = K .ret σ := rfl

theorem AW_seq {P : Program} {x y : Code} {K : Ex → St → Prop} {σ : St} (h : AW P x (seqK P y K) σ) : AW P (.seq x y) K σ := by
  intro w0 M F a w hs
  refine wp_seq (wp_mono (h w0 M F a w hs) fun e a' w' hp => ?_)
  obtain ⟨ex, σ', F', h1, h2, h3, h4⟩ := hp
  cases ex with
  | normal => subst h1; exact wp_mono (h4 w0 M F' a' w' h3) fun _ _ _ hp => hp.weaken h2
  | exit i => subst h1; exact ⟨.exit i, σ', F', rfl, h2, h3, h4⟩
  | ret => subst h1; exact ⟨.ret, σ', F', rfl, h2, h3, h4⟩

theorem AW_skip {P : Program} {K : Ex → St → Prop} {σ : St} (h : K .normal σ) : AW P .skip K σ :=
  fun _ _ F _ _ hs => wp_skip ⟨.normal, σ, F, rfl, fun _ h => h, hs, h⟩
theorem AW_exit {P : Program} {K : Ex → St → Prop} {σ : St} {i : Nat} (h : K (.exit i) σ) : AW P (.exit i) K σ :=
  fun _ _ F _ _ hs => wp_exit ⟨.exit i, σ, F, rfl, fun _ h => h, hs, h⟩
theorem AW_ret {P : Program} {K : Ex → St → Prop} {σ : St} (h : K .ret σ) : AW P .ret K σ :=
  fun _ _ F _ _ hs => wp_ret ⟨.ret, σ, F, rfl, fun _ h => h, hs, h⟩

theorem AW_cond {P : Program} {c : Operand} {x y : Code} {K : Ex → St → Prop} {σ : St} (h : ∃ b, σ.ev c = .bool b ∧ (b = true → AW P x K σ) ∧ (b = false → AW P y K σ)) : AW P (.cond c x y) K σ := by
  obtain ⟨b, hb, h1, h2⟩ := h
  intro w0 M F a w hs
  have := hs.ev c
  rw [hb] at this
  generalize hv : a.eval c = v at this
  cases this
  exact wp_cond_split hv (fun ht => h1 ht w0 M F a w hs) (fun ht => h2 ht w0 M F a w hs)

def blockK (id : Nat) (K : Ex → St → Prop) : Ex → St → Prop
  | .exit i, σ => if i = id then K .normal σ else K (.exit i) σ
  | e, σ => K e σ
theorem blockK_normal (id : Nat) (K : Ex → St → Prop) (σ : St) : blockK id K .normal σ = K .normal σ := rfl
theorem blockK_exit (id : Nat) (K : Ex → St → Prop) (i : Nat) (σ : St) : blockK id K (.exit i) σ = if i = id then K .normal σ else K (.exit i) σ := rfl
theorem blockK_ret (id : Nat) (K : Ex → St → Prop) (σ : St) : blockK id K .ret σ = K .ret σ := rfl

theorem AW_block {P : Program} {id : Nat} {c : Code} {K : Ex → St → Prop} {σ : St} (h : AW P c (blockK id K) σ) : AW P (.block id c) K σ := by
  intro w0 M F a w hs
  refine wp_block (wp_mono (h w0 M F a w hs) fun e a' w' hp => ?_)
  obtain ⟨ex, σ', F', h1, h2, h3, h4⟩ := hp
  subst h1
  cases ex with
  | normal => exact ⟨.normal, σ', F', rfl, h2, h3, h4⟩
  | ret => exact ⟨.ret, σ', F', rfl, h2, h3, h4⟩
  | exit i =>
    show if i = id then _ else _
    rw [blockK_exit] at h4
    split at h4
    · rename_i hi; rw [if_pos hi]; exact ⟨.normal, σ', F', rfl, h2, h3, h4⟩
    · rename_i hi; rw [if_neg hi]; exact ⟨.exit i, σ', F', rfl, h2, h3, h4⟩

/-- A state that says less. -/
structure Le (σ σ' : St) : Prop where
  n : σ'.n = σ.n
  sl : ∀ t, t < σ.n → σ'.sl t = σ.sl t ∨ σ'.sl t = .junk
  bl : ∀ g b, σ'.bl g = some b → σ.bl g = some b
theorem Le.refl (σ : St) : Le σ σ := ⟨rfl, fun _ _ => .inl rfl, fun _ _ h => h⟩

theorem Sim.le {w0 : World} {M F : Nat → Prop} {σ σ' : St} {a : Act} {w : World} (h : Sim w0 M F σ a w) (hl : Le σ σ') : Sim w0 M F σ' a w := by
  refine ⟨⟨h.mem.os, h.mem.tape, h.mem.output, h.mem.size, h.mem.frame, h.mem.shapes, h.mem.fr, ?_, fun g b hb => h.mem.own g b (hl.bl g b hb), fun g b hb => h.mem.blk g b (hl.bl g b hb)⟩,
    by rw [hl.n]; exact h.size, fun t ht => ?_, h.defers⟩
  · obtain ⟨n, hn⟩ := h.mem.fin
    refine ⟨n, fun g hg => ?_⟩
    cases hb : σ'.bl g with
    | none => rfl
    | some b => have := hl.bl g b hb; rw [hn g hg] at this; cases this
  · rw [hl.n] at ht
    rcases hl.sl t ht with h1 | h1 <;> rw [h1]
    · exact h.sl t ht
    · exact .junk _

theorem AW_le {P : Program} {c : Code} {K : Ex → St → Prop} {σ σ' : St} (hl : Le σ σ') (h : AW P c K σ') : AW P c K σ :=
  fun w0 M F a w hs => h w0 M F a w (hs.le hl)

def loopK (I : St → Prop) (μ : St → Nat) (m : Nat) (K : Ex → St → Prop) : Ex → St → Prop
  | .normal, σ => ∃ σ', Le σ σ' ∧ I σ' ∧ μ σ' < m
  | e, σ => K e σ
theorem loopK_normal (I : St → Prop) (μ : St → Nat) (m : Nat) (K : Ex → St → Prop) (σ : St) : loopK I μ m K .normal σ = ∃ σ', Le σ σ' ∧ I σ' ∧ μ σ' < m := rfl
theorem loopK_exit (I : St → Prop) (μ : St → Nat) (m : Nat) (K : Ex → St → Prop) (i : Nat) (σ : St) : loopK I μ m K (.exit i) σ = K (.exit i) σ := rfl
theorem loopK_ret (I : St → Prop) (μ : St → Nat) (m : Nat) (K : Ex → St → Prop) (σ : St) : loopK I μ m K .ret σ = K .ret σ := rfl

theorem AW_loop {P : Program} {c : Code} {K : Ex → St → Prop} {σ σ0 : St} (I : St → Prop) (μ : St → Nat) (hl : Le σ σ0) (h0 : I σ0)
    (round : ∀ σ, I σ → AW P c (loopK I μ (μ σ) K) σ) : AW P (.loop c) K σ := by
  intro w0 M F a w hs
  have hs := hs.le hl
  -- the invariant, with the measure as a ghost
  intro b k cs
  have key : ∀ n σ F1 a w, μ σ = n → I σ → (∀ b, F b → F1 b) → Sim w0 M F1 σ a w →
      ∃ e a' w', Post w0 M F K e a' w' ∧ Arrives P (lone (b.at a (.code c :: .inLoop c :: k)) cs w) b k cs e a' w' := by
    intro n
    induction n using Nat.strongRecOn with
    | _ n ih =>
      intro σ F1 a w hn hI hF hs
      obtain ⟨e, a₁, w₁, hq, harr⟩ := round σ hI w0 M F1 a w hs b (.inLoop c :: k) cs
      obtain ⟨ex, σ1, F2, rfl, hF2, hs1, hK⟩ := hq
      cases ex with
      | normal =>
        obtain ⟨σ2, hle, hI2, hlt⟩ := hK
        obtain ⟨e₂, a₂, w₂, hq₂, harr₂⟩ := ih (μ σ2) (hn ▸ hlt) σ2 F2 a₁ w₁ rfl hI2 (fun b hb => hF2 b (hF b hb)) (hs1.le hle)
        exact ⟨e₂, a₂, w₂, hq₂, .of_steps (Steps.trans harr (.one step_inLoop)) harr₂⟩
      | exit id => exact ⟨.exit id, a₁, w₁, ⟨.exit id, σ1, F2, rfl, fun b hb => hF2 b (hF b hb), hs1, hK⟩, .pass (x := .inLoop c) rfl (fun _ _ => .inl (by simp)) harr⟩
      | ret => exact ⟨.ret, a₁, w₁, ⟨.ret, σ1, F2, rfl, fun b hb => hF2 b (hF b hb), hs1, hK⟩, .pass (x := .inLoop c) rfl (fun _ _ => .inl (by simp)) harr⟩
  obtain ⟨e, a', w', hq, harr⟩ := key _ σ0 F a w rfl h0 (fun _ h => h) hs
  exact ⟨e, a', w', hq, .of_steps (.one step_loop) harr⟩

end Go.Proofs.Ytpkphjoobeacfaa.Vm
