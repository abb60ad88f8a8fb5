/- The rewrite rules by which a function is run. -/
import Derived.Test.YtpkphjoobeacfaaVmL
import Derived.Test.YtpkphjoobeacfaaVmTy
import GoSem.ClaimJoined
namespace Go.Proofs.Ytpkphjoobeacfaa.Vm
open Go Go.RowKit
set_option linter.unusedSimpArgs false
set_option linter.unusedVariables false



section
variable {α : Type} {k : α → Prop}
@[simp high] theorem bindP_if (c : Prop) [Decidable c] (o : Option α) : bindP (if c then o else none) k = (c ∧ bindP o k) := by
  by_cases h : c <;> simp [h]
@[simp] theorem none_if {β : Type} (c : Prop) [Decidable c] (b : β) (x : Option β) : ((if c then some b else x) = none) = (¬ c ∧ x = none) := by
  by_cases h : c <;> simp [h]
@[simp] theorem sub_refl (bl : Int → Option Blk) : Sub bl bl = True := eq_true (Sub.refl bl)
@[simp] theorem sub_upd {bl bl' : Int → Option Blk} {g : Int} {b : Option Blk} (h : bl g = none) : Sub bl (upd bl' g b) = Sub bl bl' := by
  apply propext
  constructor
  · intro hs g' b' hb
    have := hs g' b' hb
    rw [upd_ne _ _ _ _ (fun e => by subst e; rw [h] at hb; cases hb)] at this
    exact this
  · intro hs; exact hs.upd h b
theorem bindP_eq {o : Option α} {x : α} (h : o = some x) : bindP o k = k x := by rw [h]; exact bindP_some x k
theorem i64_in {n : Int} (h1 : -9223372036854775808 ≤ n) (h2 : n ≤ 9223372036854775807) : IntKind.i64.wrap n = n := IntWalk.i64_in n ⟨h1, h2⟩
end
/-! ### One operation, its continuation as data (so that simp runs it once, when its value is known) -/
section
variable (K : St → Prop) (σ : St) (d : Option Tmp)
def putQ (o : Option V) : Prop := bindP o fun v => K (σ.put d v)
def pickQ (c a b : V) : Prop := onB c fun t => K (σ.put d (pickV t a b))
def allocQ (o : Option (List V)) : Prop := bindP o fun cs => ∀ g : Int, 0 ≤ g → σ.bl g = none → K (({ σ with bl := upd σ.bl g (some ⟨cs.length, [cs]⟩) } : St).put d (.loc g cs.length 0 0))
def aggQ (o : Option (List V)) : Prop := bindP o fun r => K (σ.put d (.agg r))
def buildQ (P : Program) (t : TypeId) (ps : List (Nat × V)) (o : Option (List V)) : Prop := bindP o fun cs => okF P t = true ∧ aggQ K σ d (fillV (fPl P t) cs ps)
def bslQ (n sz : Nat) (o : Option (List V)) : Prop := bindP o fun r => ∀ g : Int, 0 ≤ g → σ.bl g = none → K (({ σ with bl := upd σ.bl g (some ⟨sz, (List.range n).map fun i => (r.drop (i * sz)).take sz⟩) } : St).put d (.lsl g sz 0 n))
def bsQ (P : Program) (n : Nat) (ps : List (Nat × V)) (o : Option (List V)) : Prop := bindP o fun cs => 1 ≤ cs.length ∧ n * cs.length ≤ 16777216 ∧ bslQ K σ d n cs.length (fillV (fun i => some (i * cs.length, cs.length)) (List.replicate n cs).flatten ps)
def loadQ (P : Program) (t : TypeId) (o : Option (List V)) : Prop := bindP o fun cs => putQ K σ d (loadV P t cs)
def storeQ3 (P : Program) (t : TypeId) (g : Int) (sz k j : Nat) (b : Blk) (y : V) (o : Option (List V)) : Prop := bindP o fun e => b.sz = sz ∧ csz P t = some y.cells.length ∧ j + y.cells.length ≤ sz ∧ y.cells.all V.one = true ∧
  K (({ σ with bl := upd σ.bl g (some ⟨sz, b.els.set k (splice e j y.cells)⟩) } : St).put d .junk)
def storeQ2 (P : Program) (t : TypeId) (g : Int) (sz k j : Nat) (y : V) (o : Option Blk) : Prop := bindP o fun b => storeQ3 K σ d P t g sz k j b y (b.els[k]?)
def storeQ (P : Program) (t : TypeId) (x y : V) : Prop := match x with | .loc g sz k j => storeQ2 K σ d P t g sz k j y (σ.bl g) | _ => False
def makeQ2 (bz : Nat) (l c : V) (cs : List V) : Prop := ∃ n : Nat, l = .int .i64 n ∧ c = .int .i64 n ∧ bz * n ≤ 281474976710656 ∧ n ≤ maxLen ∧
  ∀ g : Int, 0 ≤ g → σ.bl g = none → K (({ σ with bl := upd σ.bl g (some ⟨cs.length, List.replicate n cs⟩) } : St).put d (.lsl g cs.length 0 n))
def makeQ (bz : Nat) (l c : V) (o : Option (List V)) : Prop := bindP o fun cs => makeQ2 K σ d bz l c cs
def slQ (o : Option TypeId) (k : TypeId → Prop) : Prop := bindP o k
def callQ (v : V) (bl' : Int → Option Blk) : Prop := K (({ σ with bl := bl' } : St).put d v)
def callT (P : Program) (o : Option (FuncId × List V)) : Prop := bindP o fun p => CallP P p.1 p.2 σ.bl (callQ K σ d)
def appQ (P : Program) (e : Option TypeId) (o : Option ((Int → Option Blk) × Nat × List (List V))) : Prop := bindP o fun p =>
  e.elim False (fun e => p.2.2.length * bsz P e ≤ 140737488355328 ∧ 1 ≤ bsz P e ∧ ∃ z, zeroC P e = some z ∧ 1 ≤ z.length) ∧
  ∀ g : Int, (0 ≤ g ∨ p.2.2 = []) → p.1 g = none → K (({ σ with bl := upd p.1 g (some ⟨p.2.1, p.2.2⟩) } : St).put d (.lsl g p.2.1 0 p.2.2.length))

@[simp] theorem putQ_some (v : V) : putQ K σ d (some v) = K (σ.put d v) := bindP_some _ _
@[simp] theorem putQ_none : putQ K σ d none = False := bindP_none _
@[simp high] theorem putQ_if (c : Prop) [Decidable c] (o : Option V) : putQ K σ d (if c then o else none) = (c ∧ putQ K σ d o) := bindP_if c o
@[simp high] theorem putQ_ifn (c : Prop) [Decidable c] (o : Option V) : putQ K σ d (if c then none else o) = (¬ c ∧ putQ K σ d o) := by
  by_cases h : c <;> simp [h]
@[simp] theorem pickQ_bool (t : Bool) (a b : V) : pickQ K σ d (.bool t) a b = K (σ.put d (pickV t a b)) := rfl
@[simp] theorem allocQ_some (cs : List V) : allocQ K σ d (some cs) = ∀ g : Int, 0 ≤ g → σ.bl g = none → K (({ σ with bl := upd σ.bl g (some ⟨cs.length, [cs]⟩) } : St).put d (.loc g cs.length 0 0)) := bindP_some _ _
@[simp] theorem aggQ_some (r : List V) : aggQ K σ d (some r) = K (σ.put d (.agg r)) := bindP_some _ _
@[simp] theorem buildQ_some (P : Program) (t : TypeId) (ps : List (Nat × V)) (cs : List V) : buildQ K σ d P t ps (some cs) = (okF P t = true ∧ aggQ K σ d (fillV (fPl P t) cs ps)) := bindP_some _ _
@[simp] theorem bslQ_some (n sz : Nat) (r : List V) : bslQ K σ d n sz (some r) = ∀ g : Int, 0 ≤ g → σ.bl g = none → K (({ σ with bl := upd σ.bl g (some ⟨sz, (List.range n).map fun i => (r.drop (i * sz)).take sz⟩) } : St).put d (.lsl g sz 0 n)) := bindP_some _ _
@[simp] theorem bsQ_some (P : Program) (n : Nat) (ps : List (Nat × V)) (cs : List V) : bsQ K σ d P n ps (some cs) = (1 ≤ cs.length ∧ n * cs.length ≤ 16777216 ∧ bslQ K σ d n cs.length (fillV (fun i => some (i * cs.length, cs.length)) (List.replicate n cs).flatten ps)) := bindP_some _ _
@[simp] theorem loadQ_some (P : Program) (t : TypeId) (cs : List V) : loadQ K σ d P t (some cs) = putQ K σ d (loadV P t cs) := bindP_some _ _
@[simp] theorem storeQ_loc (P : Program) (t : TypeId) (g : Int) (sz k j : Nat) (y : V) : storeQ K σ d P t (.loc g sz k j) y = storeQ2 K σ d P t g sz k j y (σ.bl g) := rfl
@[simp] theorem storeQ2_some (P : Program) (t : TypeId) (g : Int) (sz k j : Nat) (y : V) (b : Blk) : storeQ2 K σ d P t g sz k j y (some b) = storeQ3 K σ d P t g sz k j b y (b.els[k]?) := bindP_some _ _
@[simp] theorem storeQ3_some (P : Program) (t : TypeId) (g : Int) (sz k j : Nat) (b : Blk) (y : V) (e : List V) : storeQ3 K σ d P t g sz k j b y (some e) = (b.sz = sz ∧ csz P t = some y.cells.length ∧ j + y.cells.length ≤ sz ∧ y.cells.all V.one = true ∧
  K (({ σ with bl := upd σ.bl g (some ⟨sz, b.els.set k (splice e j y.cells)⟩) } : St).put d .junk)) := bindP_some _ _
@[simp] theorem makeQ_some (bz : Nat) (l c : V) (cs : List V) : makeQ K σ d bz l c (some cs) = makeQ2 K σ d bz l c cs := bindP_some _ _
@[simp] theorem makeQ2_nat (bz n : Nat) (cs : List V) : makeQ2 K σ d bz (.int .i64 n) (.int .i64 n) cs = (bz * n ≤ 281474976710656 ∧ n ≤ maxLen ∧
  ∀ g : Int, 0 ≤ g → σ.bl g = none → K (({ σ with bl := upd σ.bl g (some ⟨cs.length, List.replicate n cs⟩) } : St).put d (.lsl g cs.length 0 n))) := by
  apply propext
  constructor
  · rintro ⟨m, h1, h2, h3, h4, h5⟩
    have : n = m := by injection h1 with _ h; omega
    subst this; exact ⟨h3, h4, h5⟩
  · rintro ⟨h3, h4, h5⟩; exact ⟨n, rfl, rfl, h3, h4, h5⟩
@[simp] theorem slQ_some (e : TypeId) (k : TypeId → Prop) : slQ (some e) k = k e := bindP_some _ _
@[simp] theorem callT_some (P : Program) (f : FuncId) (xs : List V) : callT K σ d P (some (f, xs)) = CallP P f xs σ.bl (callQ K σ d) := bindP_some _ _
@[simp] theorem callQ_ap (v : V) (bl' : Int → Option Blk) : callQ K σ d v bl' = K (({ σ with bl := bl' } : St).put d v) := rfl
@[simp] theorem appQ_some (P : Program) (e : TypeId) (b : Int → Option Blk) (sz : Nat) (xs : List (List V)) : appQ K σ d P (some e) (some (b, sz, xs)) = ((xs.length * bsz P e ≤ 140737488355328 ∧ 1 ≤ bsz P e ∧ ∃ z, zeroC P e = some z ∧ 1 ≤ z.length) ∧
  ∀ g : Int, (0 ≤ g ∨ xs = []) → b g = none → K (({ σ with bl := upd b g (some ⟨sz, xs⟩) } : St).put d (.lsl g sz 0 xs.length))) := bindP_some _ _

variable (P : Program) (ty : TypeId) (pos : String) (af : Array Edge) (gd : Option (Nat × Bool))
@[simp] theorem T_move (x : Operand) : T P ⟨d, .move x, ty, pos, af, gd⟩ K σ = K (σ.put d (σ.ev x)) := rfl
@[simp] theorem T_assign (x : Operand) : T P ⟨d, .assign x, ty, pos, af, gd⟩ K σ = K (σ.put d (σ.ev x)) := rfl
@[simp] theorem T_pick (c a b : Operand) : T P ⟨d, .pick c a b, ty, pos, af, gd⟩ K σ = pickQ K σ d (σ.ev c) (σ.ev a) (σ.ev b) := rfl
@[simp] theorem T_alloc (t : TypeId) : T P ⟨d, .alloc t, ty, pos, af, gd⟩ K σ = allocQ K σ d (zeroC P t) := rfl
@[simp] theorem T_box (t : TypeId) (x : Operand) : T P ⟨d, .box t x, ty, pos, af, gd⟩ K σ = ((σ.ev x).cells.all V.one = true ∧ allocQ K σ d (some (σ.ev x).cells)) := by
  rw [allocQ_some]; rfl
@[simp] theorem T_build (t : TypeId) (ps : Array (Nat × Operand)) : T P ⟨d, .build t ps, ty, pos, af, gd⟩ K σ = buildQ K σ d P t (ps.toList.map fun p => (p.1, σ.ev p.2)) (zeroC P t) := rfl
@[simp] theorem T_buildSlice (t : TypeId) (n : Nat) (ps : Array (Nat × Operand)) : T P ⟨d, .buildSlice t n ps, ty, pos, af, gd⟩ K σ = slQ (slE P t) fun e => bsQ K σ d P n (ps.toList.map fun p => (p.1, σ.ev p.2)) (zeroC P e) := rfl
@[simp] theorem T_load (t : TypeId) (x : Operand) : T P ⟨d, .load t x, ty, pos, af, gd⟩ K σ = loadQ K σ d P t (rdP σ.bl (σ.ev x)) := rfl
@[simp] theorem T_store (t : TypeId) (x y : Operand) : T P ⟨d, .store t x y, ty, pos, af, gd⟩ K σ = storeQ K σ d P t (σ.ev x) (σ.ev y) := by
  unfold T storeQ
  simp only
  generalize σ.ev x = v
  cases v <;> rfl
@[simp] theorem T_nilCheck (x : Operand) : T P ⟨d, .nilCheck x, ty, pos, af, gd⟩ K σ = putQ K σ d (nilV (σ.ev x)) := rfl
@[simp] theorem T_binOp (op : BinOp) (t : TypeId) (x y : Operand) (t' : TypeId) : T P ⟨d, .binOp op t x y t', ty, pos, af, gd⟩ K σ = putQ K σ d (binV P op t (σ.ev x) (σ.ev y)) := rfl
@[simp] theorem T_unOp (op : UnOp) (t : TypeId) (x : Operand) : T P ⟨d, .unOp op t x, ty, pos, af, gd⟩ K σ = putQ K σ d (unV op (σ.ev x)) := rfl
@[simp] theorem T_convert (s t : TypeId) (x : Operand) : T P ⟨d, .convert s t x, ty, pos, af, gd⟩ K σ = putQ K σ d (cvtV P σ.bl s t (σ.ev x)) := rfl
@[simp] theorem T_makeFunc (f : FuncId) (cap : Array Operand) : T P ⟨d, .makeFunc (.func f) #[] cap, ty, pos, af, gd⟩ K σ = K (σ.put d (.fn f (cap.toList.map σ.ev))) := by
  show (_ ∧ _) = _
  simp
@[simp] theorem T_makeSlice (t : TypeId) (l c : Operand) : T P ⟨d, .makeSlice t l c, ty, pos, af, gd⟩ K σ = slQ (slE P t) fun e => makeQ K σ d (bsz P e) (σ.ev l) (σ.ev c) (zeroC P e) := rfl
@[simp] theorem T_slice (t : TypeId) (x : Operand) (lo hi : Option Operand) : T P ⟨d, .slice t x lo hi none, ty, pos, af, gd⟩ K σ = putQ K σ d (sliV P t (σ.ev x) (lo.map σ.ev) (hi.map σ.ev)) := rfl
@[simp] theorem T_fieldAddr (t : TypeId) (x : Operand) (i : Nat) : T P ⟨d, .fieldAddr t x i, ty, pos, af, gd⟩ K σ = putQ K σ d (fldV P t i (σ.ev x)) := rfl
@[simp] theorem T_field (t : TypeId) (x : Operand) (i : Nat) : T P ⟨d, .field t x i, ty, pos, af, gd⟩ K σ = putQ K σ d (fieldV P t i (σ.ev x)) := rfl
@[simp] theorem T_indexAddr (t : TypeId) (x i : Operand) : T P ⟨d, .indexAddr t x i, ty, pos, af, gd⟩ K σ = putQ K σ d (idxV P t (σ.ev x) (σ.ev i)) := rfl
@[simp] theorem T_index (t : TypeId) (x i : Operand) : T P ⟨d, .index t x i, ty, pos, af, gd⟩ K σ = putQ K σ d (idsV P t (σ.ev x) (σ.ev i)) := rfl
@[simp] theorem T_extract (x : Operand) (i : Nat) : T P ⟨d, .extract x i, ty, pos, af, gd⟩ K σ = putQ K σ d (extV i (σ.ev x)) := rfl
@[simp] theorem T_call (f : Operand) (args : Array Operand) (ats : Array TypeId) : T P ⟨d, .call { callee := .value f, args := args, argTypes := ats }, ty, pos, af, gd⟩ K σ = callT K σ d P (callV σ f args.toList) := rfl
@[simp] theorem T_len (x : Operand) (t : TypeId) : T P ⟨d, .call { callee := .builtin .len, args := #[x], argTypes := #[t] }, ty, pos, af, gd⟩ K σ = putQ K σ d (lenV P t (σ.ev x)) := by
  show (∃ v, _ ∧ _ ∧ _ ∧ _) = (∃ v, _ ∧ _)
  simp
@[simp] theorem T_append (x y : Operand) (t tx : TypeId) : T P ⟨d, .call { callee := .builtin .append, args := #[x, y], argTypes := #[t, tx] }, ty, pos, af, gd⟩ K σ = appQ K σ d P (slE P t) (appV P t tx σ.bl (σ.ev x) (σ.ev y)) := by
  show (∃ p, _ ∧ _ ∧ _ ∧ _ ∧ _) = (∃ p, _ ∧ _ ∧ _)
  simp
end

/-! ### A region; a guard's branches wait for its value -/
def OpsF (P : Program) (ds : List (Option Tmp)) : List Oper → (St → Prop) → St → Prop
  | [], K, σ => K σ
  | o :: rest, K, σ => match o.guard with
    | none => T P o (OpsF P ds rest K) σ
    | some (j, b) => match ds[j]? with
      | some (some d) => match σ.ev (.tmp d) with
        | .bool q => (q = true → if b = true then T P o (OpsF P ds rest K) (σ.put (some d) (.bool true)) else OpsF P ds rest K ((σ.put (some d) (.bool true)).put o.dst (.tup []))) ∧
            (q = false → if b = false then T P o (OpsF P ds rest K) (σ.put (some d) (.bool false)) else OpsF P ds rest K ((σ.put (some d) (.bool false)).put o.dst (.tup [])))
        | .tup [] => OpsF P ds rest K (σ.put o.dst (.tup []))
        | _ => False
      | _ => False
def guardQ (P : Program) (ds : List (Option Tmp)) (b : Bool) (o : Oper) (rest : List Oper) (K : St → Prop) (d : Tmp) (σ : St) (x : V) : Prop := match x with
  | .bool q => (q = true → if b = true then T P o (OpsF P ds rest K) (σ.put (some d) (.bool true)) else OpsF P ds rest K ((σ.put (some d) (.bool true)).put o.dst (.tup []))) ∧
      (q = false → if b = false then T P o (OpsF P ds rest K) (σ.put (some d) (.bool false)) else OpsF P ds rest K ((σ.put (some d) (.bool false)).put o.dst (.tup [])))
  | .tup [] => OpsF P ds rest K (σ.put o.dst (.tup []))
  | _ => False
def guardS (P : Program) (ds : List (Option Tmp)) (b : Bool) (o : Oper) (rest : List Oper) (K : St → Prop) (σ : St) (x : Option (Option Tmp)) : Prop := match x with
  | some (some d) => guardQ P ds b o rest K d σ (σ.ev (.tmp d))
  | _ => False
section
variable (P : Program) (ds : List (Option Tmp)) (K : St → Prop) (σ : St) (d : Option Tmp) (op : Op) (ty : TypeId) (pos : String) (af : Array Edge) (rest : List Oper) (b : Bool) (o : Oper) (t : Tmp)
@[simp] theorem OpsF_nil : OpsF P ds [] K σ = K σ := rfl
@[simp] theorem OpsF_none : OpsF P ds (⟨d, op, ty, pos, af, none⟩ :: rest) K σ = T P ⟨d, op, ty, pos, af, none⟩ (OpsF P ds rest K) σ := rfl
@[simp] theorem OpsF_guard (j : Nat) : OpsF P ds (⟨d, op, ty, pos, af, some (j, b)⟩ :: rest) K σ = guardS P ds b ⟨d, op, ty, pos, af, some (j, b)⟩ rest K σ (ds[j]?) := rfl
@[simp] theorem guardS_some : guardS P ds b o rest K σ (some (some t)) = guardQ P ds b o rest K t σ (σ.ev (.tmp t)) := rfl
@[simp] theorem guardQ_tt : guardQ P ds true o rest K t σ (.bool true) = T P o (OpsF P ds rest K) (σ.put (some t) (.bool true)) := by simp [guardQ]
@[simp] theorem guardQ_tf : guardQ P ds true o rest K t σ (.bool false) = OpsF P ds rest K ((σ.put (some t) (.bool false)).put o.dst (.tup [])) := by simp [guardQ]
@[simp] theorem guardQ_ft : guardQ P ds false o rest K t σ (.bool true) = OpsF P ds rest K ((σ.put (some t) (.bool true)).put o.dst (.tup [])) := by simp [guardQ]
@[simp] theorem guardQ_ff : guardQ P ds false o rest K t σ (.bool false) = T P o (OpsF P ds rest K) (σ.put (some t) (.bool false)) := by simp [guardQ]
@[simp] theorem guardQ_skip : guardQ P ds b o rest K t σ (.tup []) = OpsF P ds rest K (σ.put o.dst (.tup [])) := rfl
@[simp low] theorem guardQ_true (q : Bool) : guardQ P ds true o rest K t σ (.bool q) = ((q = true → T P o (OpsF P ds rest K) (σ.put (some t) (.bool true))) ∧ (q = false → OpsF P ds rest K ((σ.put (some t) (.bool false)).put o.dst (.tup [])))) := by simp [guardQ]
@[simp low] theorem guardQ_false (q : Bool) : guardQ P ds false o rest K t σ (.bool q) = ((q = true → OpsF P ds rest K ((σ.put (some t) (.bool true)).put o.dst (.tup []))) ∧ (q = false → T P o (OpsF P ds rest K) (σ.put (some t) (.bool false)))) := by simp [guardQ]
end

theorem Ops_of {P : Program} {ds : List (Option Tmp)} {K : St → Prop} : ∀ {l : List Oper} {σ : St}, OpsF P ds l K σ → Ops P ds l K σ
  | [], σ, h => h
  | o :: rest, σ, h => by
    have ih : ∀ σ, OpsF P ds rest K σ → Ops P ds rest K σ := fun σ => Ops_of
    unfold OpsF at h
    unfold Ops
    split
    · rename_i hg; simp only [hg] at h; exact T_mono h ih
    · rename_i j b hg
      simp only [hg] at h
      split
      · rename_i d hd
        simp only [hd] at h
        split at h
        · rename_i q hq
          obtain ⟨h1, h2⟩ := h
          rw [hq, onG_bool]
          refine ⟨fun hb => ?_, fun hb => ?_⟩
          · subst hb
            cases q
            · exact T_mono (h2 rfl) ih
            · exact T_mono (h1 rfl) ih
          · cases b
            · subst hb; exact ih _ (h1 rfl)
            · subst hb; exact ih _ (h2 rfl)
        · rename_i hq
          rw [hq, onG_skip]
          exact ih _ h
        · exact h.elim
      · rename_i hd
        split at h
        · rename_i d hd2; exact absurd hd2 (hd d)
        · exact h

/-! ### Straight code in one go -/
def runC (P : Program) : Code → (Ex → St → Prop) → St → Prop
  | .skip, K, σ => K .normal σ
  | .seq x y, K, σ => runC P x (fun e σ' => match e with | .normal => runC P y K σ' | .exit i => K (.exit i) σ' | .ret => K .ret σ') σ
  | .region id ops true, K, σ => AW P (.region id ops true) K σ
  | .region id ops false, K, σ => if ops.toList.any (fun o => o.guard.isSome) = true then AW P (.region id ops false) K σ else OpsF P (ops.toList.map (·.dst)) ops.toList (K .normal) σ
  | .cond c x y, K, σ => onB (σ.ev c) fun b => (b = true → runC P x K σ) ∧ (b = false → runC P y K σ)
  | .block id c, K, σ => runC P c (blockK id K) σ
  | .loop c, K, σ => AW P (.loop c) K σ
  | .exit i, K, σ => K (.exit i) σ
  | .ret, K, σ => K .ret σ
  | _, _, _ => False

/-- What follows a statement, sealed. -/
def seqR (P : Program) (y : Code) (K : Ex → St → Prop) (e : Ex) (σ : St) : Prop := match e with | .normal => runC P y K σ | .exit i => K (.exit i) σ | .ret => K .ret σ
@[simp] theorem seqR_normal (P : Program) (y : Code) (K : Ex → St → Prop) (σ : St) : seqR P y K .normal σ = runC P y K σ := rfl
@[simp] theorem seqR_exit (P : Program) (y : Code) (K : Ex → St → Prop) (i : Nat) (σ : St) : seqR P y K (.exit i) σ = K (.exit i) σ := rfl
@[simp] theorem seqR_ret (P : Program) (y : Code) (K : Ex → St → Prop) (σ : St) : seqR P y K .ret σ = K .ret σ := rfl
def condQ (P : Program) (x y : Code) (K : Ex → St → Prop) (σ : St) (v : V) : Prop := onB v fun b => (b = true → runC P x K σ) ∧ (b = false → runC P y K σ)
@[simp] theorem runC_skip (P : Program) (K : Ex → St → Prop) (σ : St) : runC P .skip K σ = K .normal σ := rfl
@[simp] theorem runC_seq (P : Program) (x y : Code) (K : Ex → St → Prop) (σ : St) : runC P (.seq x y) K σ = runC P x (seqR P y K) σ := rfl
@[simp] theorem runC_draw (P : Program) (id : Nat) (ops : Array Oper) (K : Ex → St → Prop) (σ : St) : runC P (.region id ops true) K σ = AW P (.region id ops true) K σ := rfl
@[simp] theorem runC_region (P : Program) (id : Nat) (ops : Array Oper) (K : Ex → St → Prop) (σ : St) : runC P (.region id ops false) K σ = if ops.toList.any (fun o => o.guard.isSome) = true then AW P (.region id ops false) K σ else OpsF P (ops.toList.map (·.dst)) ops.toList (K .normal) σ := rfl
@[simp] theorem runC_cond (P : Program) (c : Operand) (x y : Code) (K : Ex → St → Prop) (σ : St) : runC P (.cond c x y) K σ = condQ P x y K σ (σ.ev c) := rfl
@[simp] theorem condQ_true (P : Program) (x y : Code) (K : Ex → St → Prop) (σ : St) : condQ P x y K σ (.bool true) = runC P x K σ := by simp [condQ]
@[simp] theorem condQ_false (P : Program) (x y : Code) (K : Ex → St → Prop) (σ : St) : condQ P x y K σ (.bool false) = runC P y K σ := by simp [condQ]
@[simp low] theorem condQ_bool (P : Program) (x y : Code) (K : Ex → St → Prop) (σ : St) (q : Bool) : condQ P x y K σ (.bool q) = ((q = true → runC P x K σ) ∧ (q = false → runC P y K σ)) := by simp [condQ]
@[simp] theorem runC_block (P : Program) (id : Nat) (c : Code) (K : Ex → St → Prop) (σ : St) : runC P (.block id c) K σ = runC P c (blockK id K) σ := rfl
@[simp] theorem runC_loop (P : Program) (c : Code) (K : Ex → St → Prop) (σ : St) : runC P (.loop c) K σ = AW P (.loop c) K σ := rfl
@[simp] theorem runC_exit (P : Program) (i : Nat) (K : Ex → St → Prop) (σ : St) : runC P (.exit i) K σ = K (.exit i) σ := rfl
@[simp] theorem runC_ret (P : Program) (K : Ex → St → Prop) (σ : St) : runC P .ret K σ = K .ret σ := rfl

theorem AW_run {P : Program} : ∀ {c : Code} {K : Ex → St → Prop} {σ : St}, runC P c K σ → AW P c K σ
  | .skip, K, σ, h => AW_skip h
  | .seq x y, K, σ, h => by
    have h1 : AW P x (seqR P y K) σ := AW_run h
    refine AW_seq (h1.mono fun e σ' h' => ?_)
    cases e with
    | normal => exact AW_run h'
    | exit i => exact h'
    | ret => exact h'
  | .region id ops true, K, σ, h => h
  | .region id ops false, K, σ, h => by
    unfold runC at h
    split at h
    · exact h
    · exact AW_region (Ops_of h)
  | .cond c x y, K, σ, h => by
    unfold runC at h
    obtain ⟨q, hq, h1, h2⟩ := onB_some h
    exact AW_cond ⟨q, hq, fun h => AW_run (h1 h), fun h => AW_run (h2 h)⟩
  | .block id c, K, σ, h => AW_block (AW_run h)
  | .loop c, K, σ, h => h
  | .exit i, K, σ, h => AW_exit h
  | .ret, K, σ, h => AW_ret h
  | .rangeFunc .., _, _, h => h.elim
  | .scope _, _, _, h => h.elim
  | .label _, _, _, h => h.elim
  | .goto _, _, _, h => h.elim

/-! ### A slice that is filled from its beginning -/
def part (xs : List (List V)) (z : List V) (i : Nat) : List (List V) := xs.take i ++ List.replicate (xs.length - i) z
@[simp] theorem part_zero (xs : List (List V)) (z : List V) : part xs z 0 = List.replicate xs.length z := by simp [part]
theorem part_all (xs : List (List V)) (z : List V) (i : Nat) (h : xs.length ≤ i) : part xs z i = xs := by simp [part, List.take_of_length_le h, Nat.sub_eq_zero_of_le h]
theorem part_length (xs : List (List V)) (z : List V) (i : Nat) : (part xs z i).length = xs.length := by simp [part]; omega
theorem part_get (xs : List (List V)) (z : List V) (i : Nat) (h : i < xs.length) : (part xs z i)[i]? = some z := by
  unfold part
  rw [List.getElem?_append_right (by simp; omega)]
  rw [List.getElem?_replicate, if_pos (by simp; omega)]
theorem part_set (xs : List (List V)) (z : List V) (i : Nat) (h : i < xs.length) (x : List V) (hx : x = xs[i]) : (part xs z i).set i x = part xs z (i + 1) := by
  subst hx
  apply List.ext_getElem?
  intro j
  have hz : ∀ k, k ≤ xs.length → ∀ j, (part xs z k)[j]? = if j < k then xs[j]? else if j < xs.length then some z else none := by
    intro k hk j
    unfold part
    by_cases hj : j < k
    · rw [if_pos hj, List.getElem?_append_left (by simp; omega), List.getElem?_take_of_lt hj]
    · rw [if_neg hj, List.getElem?_append_right (by simp; omega), List.getElem?_replicate]
      simp only [List.length_take]
      by_cases h2 : j < xs.length
      · rw [if_pos (by omega), if_pos h2]
      · rw [if_neg (by omega), if_neg h2]
  rw [List.getElem?_set, hz i (by omega), hz (i + 1) (by omega), part_length]
  by_cases hij : i = j
  · subst hij; simp [h]
  · rw [if_neg hij]
    by_cases h1 : j < i
    · simp [h1, show j < i + 1 by omega]
    · simp [h1, show ¬ j < i + 1 by omega]
theorem frz_slice {bl bl0 : Int → Option Blk} {g : Int} {sz n : Nat} {els : List (List V)} (hg0 : 0 ≤ g) (hg : bl0 g = none) (hb : bl g = some ⟨sz, els⟩) (hn : els.length = n) (hcl : els.all (fun e => e.all V.cl) = true) : frz (dropB bl bl0) 1 (.lsl g sz 0 n) = some (.sl els) := by
  subst hn
  unfold frz
  rw [if_neg (by omega)]
  unfold dropB
  rw [hg]
  simp only [hb]
  rw [if_pos (by simp), List.drop_zero, List.take_length, if_pos hcl]
theorem sub_eq {bl bl' : Int → Option Blk} (h : bl' = bl) : Sub bl bl' := by rw [h]; exact Sub.refl _

/-! ### Regions that draw their order, all of whose operations read -/
def qval (P : Program) (blK : Int → Option Blk) (σ : St) : Op → Option V
  | .move x => some (σ.ev x)
  | .assign x => some (σ.ev x)
  | .pick c a b => match σ.ev c with | .bool t => some (pickV t (σ.ev a) (σ.ev b)) | _ => none
  | .load t x => match rdP blK (σ.ev x) with | some cs => loadV P t cs | none => none
  | .nilCheck x => nilV (σ.ev x)
  | .binOp op t x y _ => binV P op t (σ.ev x) (σ.ev y)
  | .unOp op _ x => unV op (σ.ev x)
  | .convert s d x => cvtV P blK s d (σ.ev x)
  | .slice t x lo hi none => sliV P t (σ.ev x) (lo.map σ.ev) (hi.map σ.ev)
  | .fieldAddr t x i => fldV P t i (σ.ev x)
  | .field t x i => fieldV P t i (σ.ev x)
  | .indexAddr t x i => idxV P t (σ.ev x) (σ.ev i)
  | .index t x i => idsV P t (σ.ev x) (σ.ev i)
  | .extract x i => extV i (σ.ev x)
  | .makeFunc (.func f) first cap => if first = #[] then some (.fn f (cap.toList.map σ.ev)) else none
  | .call c => match c.callee with
    | .builtin .len => if c.args.size = 1 ∧ c.argTypes.size = 1 then lenV P (c.argTypes.getD 0 0) (σ.ev (c.args.getD 0 (.const undef))) else none
    | _ => none
  | _ => none

theorem qval_sv {P : Program} {blK : Int → Option Blk} {o : Oper} {σ : St} {v : V} (h : qval P blK σ o.op = some v) : SV P blK o σ v := by
  have e : ∀ x, (σ.withBl blK).ev x = σ.ev x := withBl_ev σ blK
  unfold qval at h
  cases ho : o.op <;> rw [ho] at h <;> (try simp only at h) <;> try (cases h; done)
  case move x => cases h; exact .inl ⟨by rw [ho]; rfl, by unfold T; rw [ho]; simp only [e]⟩
  case assign x => cases h; exact .inl ⟨by rw [ho]; rfl, by unfold T; rw [ho]; simp only [e]⟩
  case pick c a b =>
    split at h
    · rename_i t hc; cases h; exact .inl ⟨by rw [ho]; rfl, by unfold T; rw [ho]; simp only [e, hc, onB_bool]⟩
    · cases h
  case load t x =>
    split at h
    · rename_i cs hcs; exact .inl ⟨by rw [ho]; rfl, by unfold T; rw [ho]; simp only [e]; exact ⟨cs, hcs, v, h, rfl⟩⟩
    · cases h
  case nilCheck x => exact .inl ⟨by rw [ho]; rfl, by unfold T; rw [ho]; simp only [e]; exact ⟨v, h, rfl⟩⟩
  case binOp => exact .inl ⟨by rw [ho]; rfl, by unfold T; rw [ho]; simp only [e]; exact ⟨v, h, rfl⟩⟩
  case unOp => exact .inl ⟨by rw [ho]; rfl, by unfold T; rw [ho]; simp only [e]; exact ⟨v, h, rfl⟩⟩
  case convert => exact .inl ⟨by rw [ho]; rfl, by unfold T; rw [ho]; simp only [e]; exact ⟨v, h, rfl⟩⟩
  case fieldAddr => exact .inl ⟨by rw [ho]; rfl, by unfold T; rw [ho]; simp only [e]; exact ⟨v, h, rfl⟩⟩
  case field => exact .inl ⟨by rw [ho]; rfl, by unfold T; rw [ho]; simp only [e]; exact ⟨v, h, rfl⟩⟩
  case indexAddr => exact .inl ⟨by rw [ho]; rfl, by unfold T; rw [ho]; simp only [e]; exact ⟨v, h, rfl⟩⟩
  case index => exact .inl ⟨by rw [ho]; rfl, by unfold T; rw [ho]; simp only [e]; exact ⟨v, h, rfl⟩⟩
  case extract => exact .inl ⟨by rw [ho]; rfl, by unfold T; rw [ho]; simp only [e]; exact ⟨v, h, rfl⟩⟩
  case slice t x lo hi mx =>
    cases mx <;> simp only at h <;> try (cases h; done)
    have e1 : lo.map (σ.withBl blK).ev = lo.map σ.ev := by cases lo <;> simp [withBl_ev]
    have e2 : hi.map (σ.withBl blK).ev = hi.map σ.ev := by cases hi <;> simp [withBl_ev]
    exact .inl ⟨by rw [ho]; rfl, by unfold T; rw [ho]; simp only [e, e1, e2]; exact ⟨v, h, rfl⟩⟩
  case makeFunc f first cap =>
    cases f <;> simp only at h <;> try (cases h; done)
    split at h
    · rename_i hf
      cases h
      have : (cap.toList.map (σ.withBl blK).ev) = cap.toList.map σ.ev := List.map_congr_left fun x _ => e x
      exact .inl ⟨by rw [ho]; rfl, by unfold T; rw [ho]; simp only [this]; exact ⟨hf, trivial⟩⟩
    · cases h
  case call c =>
    split at h
    · rename_i hc
      split at h
      · rename_i hs
        refine .inl ⟨?_, ?_⟩
        · rw [ho]; obtain ⟨cal, args, ats⟩ := c; simp only at hc; subst hc; rfl
        · unfold T; rw [ho]; simp only [hc, e]; exact ⟨v, h, hs.1, hs.2, rfl⟩
      · cases h
    · cases h

/-- Reading operations in the text's order. -/
def HoistF (P : Program) (ds : List (Option Tmp)) (blK : Int → Option Blk) : List Oper → (St → Prop) → St → Prop
  | [], K, σ => K σ
  | o :: rest, K, σ => match o.guard with
    | none => match o.op with
      | .call ⟨.value f, args, _⟩ => bindP (callV σ f args.toList) fun p => ∃ v n ys, ((frzL blK n p.2 = some ys ∧ RO P p.1 ys v ∧ v.sc = true) ∨ RO P p.1 p.2 v) ∧ HoistF P ds blK rest K (σ.put o.dst v)
      | op => bindP (qval P blK σ op) fun v => HoistF P ds blK rest K (σ.put o.dst v)
    | some (j, b) => match ds[j]? with
      | some (some d) => match σ.ev (.tmp d) with
        | .bool q => if q = b then bindP (qval P blK σ o.op) fun v => HoistF P ds blK rest K (σ.put o.dst v) else HoistF P ds blK rest K (σ.put o.dst (.tup []))
        | .tup [] => HoistF P ds blK rest K (σ.put o.dst (.tup []))
        | _ => False
      | _ => False

def hoQ (P : Program) (ds : List (Option Tmp)) (blK : Int → Option Blk) (rest : List Oper) (K : St → Prop) (σ : St) (d : Option Tmp) (o : Option V) : Prop := bindP o fun v => HoistF P ds blK rest K (σ.put d v)
def hcQ (P : Program) (ds : List (Option Tmp)) (blK : Int → Option Blk) (rest : List Oper) (K : St → Prop) (σ : St) (d : Option Tmp) (o : Option (FuncId × List V)) : Prop := bindP o fun p => ∃ v n ys, ((frzL blK n p.2 = some ys ∧ RO P p.1 ys v ∧ v.sc = true) ∨ RO P p.1 p.2 v) ∧ HoistF P ds blK rest K (σ.put d v)
section
variable (P : Program) (ds : List (Option Tmp)) (blK : Int → Option Blk) (rest : List Oper) (K : St → Prop) (σ : St) (d : Option Tmp) (ty : TypeId) (pos : String) (af : Array Edge)
@[simp] theorem HoistF_nil : HoistF P ds blK [] K σ = K σ := rfl
@[simp] theorem HoistF_call (f : Operand) (args : Array Operand) (ats : Array TypeId) : HoistF P ds blK (⟨d, .call ⟨.value f, args, ats⟩, ty, pos, af, none⟩ :: rest) K σ = hcQ P ds blK rest K σ d (callV σ f args.toList) := rfl
@[simp] theorem HoistF_len (x : Operand) (t : TypeId) : HoistF P ds blK (⟨d, .call ⟨.builtin .len, #[x], #[t]⟩, ty, pos, af, none⟩ :: rest) K σ = hoQ P ds blK rest K σ d (lenV P t (σ.ev x)) := rfl
@[simp] theorem HoistF_move (x : Operand) : HoistF P ds blK (⟨d, .move x, ty, pos, af, none⟩ :: rest) K σ = HoistF P ds blK rest K (σ.put d (σ.ev x)) := bindP_some _ _
@[simp] theorem HoistF_assign (x : Operand) : HoistF P ds blK (⟨d, .assign x, ty, pos, af, none⟩ :: rest) K σ = HoistF P ds blK rest K (σ.put d (σ.ev x)) := bindP_some _ _
@[simp] theorem HoistF_pick (c a b : Operand) : HoistF P ds blK (⟨d, .pick c a b, ty, pos, af, none⟩ :: rest) K σ = hoQ P ds blK rest K σ d (qval P blK σ (.pick c a b)) := rfl
@[simp] theorem HoistF_load (t : TypeId) (x : Operand) : HoistF P ds blK (⟨d, .load t x, ty, pos, af, none⟩ :: rest) K σ = hoQ P ds blK rest K σ d (qval P blK σ (.load t x)) := rfl
@[simp] theorem HoistF_nilCheck (x : Operand) : HoistF P ds blK (⟨d, .nilCheck x, ty, pos, af, none⟩ :: rest) K σ = hoQ P ds blK rest K σ d (nilV (σ.ev x)) := rfl
@[simp] theorem HoistF_binOp (op : BinOp) (t : TypeId) (x y : Operand) (t' : TypeId) : HoistF P ds blK (⟨d, .binOp op t x y t', ty, pos, af, none⟩ :: rest) K σ = hoQ P ds blK rest K σ d (binV P op t (σ.ev x) (σ.ev y)) := rfl
@[simp] theorem HoistF_unOp (op : UnOp) (t : TypeId) (x : Operand) : HoistF P ds blK (⟨d, .unOp op t x, ty, pos, af, none⟩ :: rest) K σ = hoQ P ds blK rest K σ d (unV op (σ.ev x)) := rfl
@[simp] theorem HoistF_convert (s t : TypeId) (x : Operand) : HoistF P ds blK (⟨d, .convert s t x, ty, pos, af, none⟩ :: rest) K σ = hoQ P ds blK rest K σ d (cvtV P blK s t (σ.ev x)) := rfl
@[simp] theorem HoistF_slice (t : TypeId) (x : Operand) (lo hi : Option Operand) : HoistF P ds blK (⟨d, .slice t x lo hi none, ty, pos, af, none⟩ :: rest) K σ = hoQ P ds blK rest K σ d (sliV P t (σ.ev x) (lo.map σ.ev) (hi.map σ.ev)) := rfl
@[simp] theorem HoistF_fieldAddr (t : TypeId) (x : Operand) (i : Nat) : HoistF P ds blK (⟨d, .fieldAddr t x i, ty, pos, af, none⟩ :: rest) K σ = hoQ P ds blK rest K σ d (fldV P t i (σ.ev x)) := rfl
@[simp] theorem HoistF_field (t : TypeId) (x : Operand) (i : Nat) : HoistF P ds blK (⟨d, .field t x i, ty, pos, af, none⟩ :: rest) K σ = hoQ P ds blK rest K σ d (fieldV P t i (σ.ev x)) := rfl
@[simp] theorem HoistF_indexAddr (t : TypeId) (x i : Operand) : HoistF P ds blK (⟨d, .indexAddr t x i, ty, pos, af, none⟩ :: rest) K σ = hoQ P ds blK rest K σ d (idxV P t (σ.ev x) (σ.ev i)) := rfl
@[simp] theorem HoistF_index (t : TypeId) (x i : Operand) : HoistF P ds blK (⟨d, .index t x i, ty, pos, af, none⟩ :: rest) K σ = hoQ P ds blK rest K σ d (idsV P t (σ.ev x) (σ.ev i)) := rfl
@[simp] theorem HoistF_extract (x : Operand) (i : Nat) : HoistF P ds blK (⟨d, .extract x i, ty, pos, af, none⟩ :: rest) K σ = hoQ P ds blK rest K σ d (extV i (σ.ev x)) := rfl
@[simp] theorem hoQ_some (v : V) : hoQ P ds blK rest K σ d (some v) = HoistF P ds blK rest K (σ.put d v) := bindP_some _ _
@[simp high] theorem hoQ_if (c : Prop) [Decidable c] (o : Option V) : hoQ P ds blK rest K σ d (if c then o else none) = (c ∧ hoQ P ds blK rest K σ d o) := bindP_if c o
end
theorem hcQ_of {P : Program} {ds : List (Option Tmp)} {blK : Int → Option Blk} {rest : List Oper} {K : St → Prop} {σ : St} {d : Option Tmp} {f : FuncId} {xs ys : List V} {v : V} (n : Nat) (h : RO P f ys v) (hf : frzL blK n xs = some ys) (hv : v.sc = true) (hK : HoistF P ds blK rest K (σ.put d v)) : hcQ P ds blK rest K σ d (some (f, xs)) :=
  ⟨_, rfl, v, n, ys, .inl ⟨hf, h, hv⟩, hK⟩
theorem hcQ_ro {P : Program} {ds : List (Option Tmp)} {blK : Int → Option Blk} {rest : List Oper} {K : St → Prop} {σ : St} {d : Option Tmp} {f : FuncId} {xs : List V} {v : V} (h : RO P f xs v) (hK : HoistF P ds blK rest K (σ.put d v)) : hcQ P ds blK rest K σ d (some (f, xs)) :=
  ⟨_, rfl, v, 0, [], .inr h, hK⟩

theorem Hoist_of {P : Program} {ops : Array Oper} {blK : Int → Option Blk} {K : St → Prop} : ∀ (l : List Oper) (k : Nat) (σ : St), (∀ j, l[j]? = ops[k + j]?) → HoistF P (ops.toList.map (·.dst)) blK l K σ → Hoist P ops blK (List.range' k l.length) K σ
  | [], k, σ, _, h => h
  | o :: rest, k, σ, hl, h => by
    have h0 : ops[k]? = some o := by simpa using (hl 0).symm
    have ih := fun σ' (h' : HoistF P (ops.toList.map (·.dst)) blK rest K σ') => Hoist_of rest (k + 1) σ' (fun j => by have := hl (j + 1); simpa [Nat.add_assoc, Nat.add_comm 1 j] using this) h'
    have hds : ∀ (j : Nat) d, (ops.toList.map (·.dst))[j]? = some (some d) → (ops[j]?).bind (·.dst) = some d := by
      intro j d hd
      rw [List.getElem?_map, Array.getElem?_toList] at hd
      rcases h : ops[j]? with _ | o
      · rw [h] at hd; cases hd
      · rw [h] at hd; simpa using hd
    show Hoist P ops blK (k :: List.range' (k + 1) rest.length) K σ
    unfold Hoist
    rw [h0]
    simp only
    have plain : bindP (qval P blK σ o.op) (fun v => HoistF P (ops.toList.map (·.dst)) blK rest K (σ.put o.dst v)) → ∃ v, SV P blK o σ v ∧ Hoist P ops blK (List.range' (k + 1) rest.length) K (σ.put o.dst v) := by
      rintro ⟨v, h1, h2⟩
      exact ⟨v, qval_sv h1, ih _ h2⟩
    unfold HoistF at h
    unfold DY
    split at h
    · rename_i hg
      simp only [hg]
      split at h
      · rename_i f args ats hop
        obtain ⟨p, hp, v, n, ys, h1, h4⟩ := h
        exact ⟨v, .inr ⟨_, f, p, n, ys, hop, rfl, hp, h1⟩, ih _ h4⟩
      · exact plain h
    · rename_i j b hg
      simp only [hg]
      split at h
      · rename_i d hd
        rw [hds j d hd]
        simp only
        split at h
        · rename_i q hq
          rw [hq]
          split at h
          · rename_i hqb
            obtain ⟨v, h1, h2⟩ := plain h
            exact ⟨v, ⟨fun _ => h1, fun hh => by subst hqb; cases q <;> cases hh⟩, h2⟩
          · rename_i hqb
            exact ⟨.tup [], ⟨fun hh => absurd hh hqb, fun _ => rfl⟩, ih _ h⟩
        · rename_i hq
          rw [hq]
          exact ⟨.tup [], rfl, ih _ h⟩
        · exact h.elim
      · exact h.elim

theorem Hoist_is {P : Program} {ops : Array Oper} {blK : Int → Option Blk} {K : St → Prop} : ∀ (l : List Oper) (is : List Nat) (σ : St), l.map some = is.map (fun i => ops[i]?) → HoistF P (ops.toList.map (·.dst)) blK l K σ → Hoist P ops blK is K σ
  | [], is, σ, hl, h => by
    cases is with
    | nil => exact h
    | cons i is => cases hl
  | o :: rest, [], σ, hl, h => by cases hl
  | o :: rest, k :: is, σ, hl, h => by
    have h0 : ops[k]? = some o := (List.cons.inj hl).1.symm
    have ih := fun σ' (h' : HoistF P (ops.toList.map (·.dst)) blK rest K σ') => Hoist_is rest is σ' (List.cons.inj hl).2 h'
    have hds : ∀ (j : Nat) d, (ops.toList.map (·.dst))[j]? = some (some d) → (ops[j]?).bind (·.dst) = some d := by
      intro j d hd
      rw [List.getElem?_map, Array.getElem?_toList] at hd
      rcases h : ops[j]? with _ | o
      · rw [h] at hd; cases hd
      · rw [h] at hd; simpa using hd
    unfold Hoist
    rw [h0]
    simp only
    have plain : bindP (qval P blK σ o.op) (fun v => HoistF P (ops.toList.map (·.dst)) blK rest K (σ.put o.dst v)) → ∃ v, SV P blK o σ v ∧ Hoist P ops blK is K (σ.put o.dst v) := by
      rintro ⟨v, h1, h2⟩
      exact ⟨v, qval_sv h1, ih _ h2⟩
    unfold HoistF at h
    unfold DY
    split at h
    · rename_i hg
      simp only [hg]
      split at h
      · rename_i f args ats hop
        obtain ⟨p, hp, v, n, ys, h1, h4⟩ := h
        exact ⟨v, .inr ⟨_, f, p, n, ys, hop, rfl, hp, h1⟩, ih _ h4⟩
      · exact plain h
    · rename_i j b hg
      simp only [hg]
      split at h
      · rename_i d hd
        rw [hds j d hd]
        simp only
        split at h
        · rename_i q hq
          rw [hq]
          split at h
          · rename_i hqb
            obtain ⟨v, h1, h2⟩ := plain h
            exact ⟨v, ⟨fun _ => h1, fun hh => by subst hqb; cases q <;> cases hh⟩, h2⟩
          · rename_i hqb
            exact ⟨.tup [], ⟨fun hh => absurd hh hqb, fun _ => rfl⟩, ih _ h⟩
        · rename_i hq
          rw [hq]
          exact ⟨.tup [], rfl, ih _ h⟩
        · exact h.elim
      · exact h.elim

theorem filter_some {ops : Array Oper} : ∀ (is : List Nat), is.all (fun i => decide (i < ops.size)) = true → (is.filterMap fun i => ops[i]?).map some = is.map (fun i => ops[i]?)
  | [], _ => rfl
  | i :: is, h => by
    simp only [List.all_cons, Bool.and_eq_true, decide_eq_true_eq] at h
    have ih := filter_some is h.2
    rw [List.filterMap_cons]
    simp only [Array.getElem?_eq_getElem h.1, List.map_cons]
    rw [ih]

/-- Reading operations first (is), then the others in every order. -/
theorem AW_mixed {P : Program} {id : Nat} {ops : Array Oper} {K : Ex → St → Prop} {σ : St} (hm : P.follows .mixedOrders = true) (is : List Nat) (fuel : Nat) (hn : (ops.size == fuel + is.length && is.all (fun i => decide (i < ops.size)) && hoistB ops is (Array.replicate ops.size false)) = true)
    (h : HoistF P (ops.toList.map (·.dst)) σ.bl (is.filterMap fun i => ops[i]?) (DAny P ops σ.bl (fun _ => false) (K .normal) fuel (setAll is (Array.replicate ops.size false))) σ) : AW P (.region id ops true) K σ := by
  simp only [Bool.and_eq_true, beq_iff_eq] at hn
  exact AW_draw_mixed hm is fuel σ.bl (Sub.refl _) hn.1.1 hn.2 (tl := fun _ => false) (fun _ _ _ _ h => by cases h) (Hoist_is _ is σ (filter_some is hn.1.2) h)
/-- .. where the last operations, from n on, wait for all that are read first: they may store into what has been read. -/
theorem AW_mixedT {P : Program} {id : Nat} {ops : Array Oper} {K : Ex → St → Prop} {σ : St} (hm : P.follows .mixedOrders = true) (is : List Nat) (fuel n : Nat) (hn : (ops.size == fuel + is.length && is.all (fun i => decide (i < ops.size)) && hoistB ops is (Array.replicate ops.size false) && tailB ops (fun j => decide (n ≤ j)) is) = true)
    (h : HoistF P (ops.toList.map (·.dst)) σ.bl (is.filterMap fun i => ops[i]?) (DAny P ops σ.bl (fun j => decide (n ≤ j)) (K .normal) fuel (setAll is (Array.replicate ops.size false))) σ) : AW P (.region id ops true) K σ := by
  simp only [Bool.and_eq_true, beq_iff_eq] at hn
  exact AW_draw_mixed hm is fuel σ.bl (Sub.refl _) hn.1.1.1 hn.1.2 (tl := fun j => decide (n ≤ j)) (tailB_spec hn.2) (Hoist_is _ is σ (filter_some is hn.1.1.2) h)

section
variable {P : Program} {ops : Array Oper} {blK : Int → Option Blk} {tl : Nat → Bool} {K : St → Prop} {fuel : Nat} {l : Array Bool} {σ : St}
theorem DAny_done (hr : Region.ready .any ops l = []) (h : K σ) : DAny P ops blK tl K fuel l σ := by
  cases fuel with
  | zero => exact ⟨hr, h⟩
  | succ n => exact ⟨fun _ => h, fun i hi => by rw [hr] at hi; cases hi⟩
theorem DAny_one {i : Nat} {o : Oper} (hr : Region.ready .any ops l = [i]) (ho : ops[i]? = some o) (hg : o.guard = none) (h : T P o (fun σ' => Sub blK σ'.bl ∧ DAny P ops blK tl K fuel (l.setIfInBounds i true) σ') σ) : DAny P ops blK tl K (fuel + 1) l σ := by
  refine ⟨fun h0 => (by rw [hr] at h0; cases h0), fun j hj => ?_⟩
  rw [hr] at hj
  obtain rfl : j = i := by simpa using hj
  unfold D1; rw [ho]; simp only [hg]; exact T_mono h fun _ ⟨h1, h2⟩ => ⟨fun _ => h1, h2⟩
/-- One of the last operations. -/
theorem DAny_last {i : Nat} {o : Oper} (hr : Region.ready .any ops l = [i]) (ho : ops[i]? = some o) (hg : o.guard = none) (ht : tl i = true) (h : T P o (fun σ' => DAny P ops blK tl K fuel (l.setIfInBounds i true) σ') σ) : DAny P ops blK tl K (fuel + 1) l σ := by
  refine ⟨fun h0 => (by rw [hr] at h0; cases h0), fun j hj => ?_⟩
  rw [hr] at hj
  obtain rfl : j = i := by simpa using hj
  unfold D1; rw [ho]; simp only [hg]; exact T_mono h fun _ h2 => ⟨fun hh => (by rw [ht] at hh; cases hh), h2⟩
theorem DAny_two {i j : Nat} {o o' : Oper} (hr : Region.ready .any ops l = [i, j]) (ho : ops[i]? = some o) (hg : o.guard = none) (ho' : ops[j]? = some o') (hg' : o'.guard = none)
    (h : T P o (fun σ' => Sub blK σ'.bl ∧ DAny P ops blK tl K fuel (l.setIfInBounds i true) σ') σ) (h' : T P o' (fun σ' => Sub blK σ'.bl ∧ DAny P ops blK tl K fuel (l.setIfInBounds j true) σ') σ) : DAny P ops blK tl K (fuel + 1) l σ := by
  refine ⟨fun h0 => (by rw [hr] at h0; cases h0), fun k hk => ?_⟩
  rw [hr] at hk
  rcases List.mem_cons.1 hk with rfl | hk
  · unfold D1; rw [ho]; simp only [hg]; exact T_mono h fun _ ⟨h1, h2⟩ => ⟨fun _ => h1, h2⟩
  · obtain rfl : k = j := by simpa using hk
    unfold D1; rw [ho']; simp only [hg']; exact T_mono h' fun _ ⟨h1, h2⟩ => ⟨fun _ => h1, h2⟩
end

def quietB (ops : Array Oper) : Bool := hoistB ops (List.range ops.size) (Array.replicate ops.size false) && (Region.ready .any ops (setAll (List.range ops.size) (Array.replicate ops.size false))).isEmpty

theorem AW_quiet {P : Program} {id : Nat} {ops : Array Oper} {K : Ex → St → Prop} {σ : St} (hm : P.follows .mixedOrders = true) (hB : quietB ops = true)
    (h : HoistF P (ops.toList.map (·.dst)) σ.bl ops.toList (K .normal) σ) : AW P (.region id ops true) K σ := by
  simp only [quietB, Bool.and_eq_true, List.isEmpty_iff] at hB
  refine AW_draw_quiet hm hB.1 hB.2 ?_
  have := Hoist_of ops.toList 0 σ (fun j => by simp) h
  rw [List.range_eq_range', ← Array.length_toList]
  exact this

/-! ### Loops over a few slots -/
def hv : List (Nat × V) → Nat → V
  | [], _ => .junk
  | (t, v) :: r, x => if x = t then v else hv r x
def Fit (l : List (Nat × V)) (n : Nat) (b : Int → Option Blk) (σ : St) : Prop := σ.n = n ∧ (∀ p, p ∈ l → σ.sl p.1 = p.2) ∧ Sub b σ.bl

theorem le_hv {σ : St} {l : List (Nat × V)} {n : Nat} {b : Int → Option Blk} (h : Fit l n b σ) : Le σ ⟨n, hv l, b⟩ := by
  obtain ⟨hn, hl, hb⟩ := h
  refine ⟨hn.symm, fun t _ => ?_, hb⟩
  show hv l t = σ.sl t ∨ hv l t = .junk
  clear hn hb
  induction l with
  | nil => exact .inr rfl
  | cons p r ih =>
    obtain ⟨u, v⟩ := p
    unfold hv
    split
    · rename_i ht; subst ht; exact .inl (hl (t, v) List.mem_cons_self).symm
    · exact ih fun p hp => hl p (List.mem_cons_of_mem _ hp)

/-- Only these slots matter from here on. -/
theorem AW_at {P : Program} {c : Code} {K : Ex → St → Prop} {σ : St} (l : List (Nat × V)) (n : Nat) (b : Int → Option Blk) (hf : Fit l n b σ) (h : AW P c K ⟨n, hv l, b⟩) : AW P c K σ := AW_le (le_hv hf) h

/-- Whatever way a region goes: these slots stay, and one is set. -/
theorem AW_way {P : Program} {id : Nat} {ops : Array Oper} {K : Ex → St → Prop} {σ : St} (l : List (Nat × V)) (n : Nat) (bl : Int → Option Blk) (t : Nat) (v : V) (bl' : Int → Option Blk) (hf : Fit l n bl σ) (hd : (l.all fun p => !(ops.toList.map (·.dst)).contains (some p.1)) = true)
    (h1 : OpsF P (ops.toList.map (·.dst)) ops.toList (fun σ' => σ'.sl t = v ∧ σ'.bl = bl') ⟨n, hv l, bl⟩) (h2 : K .normal ⟨n, hv ((t, v) :: l), bl'⟩) : AW P (.region id ops false) K σ := by
  refine AW_at l n bl hf ?_
  have hk : jn (hv l) (ops.toList.map (·.dst)) t v = hv ((t, v) :: l) := by
    funext x
    show (if x = t then v else if _ then _ else _) = if x = t then v else hv l x
    split
    · rfl
    · split
      · rename_i hx hc
        have : ∀ l : List (Nat × V), (l.all fun p => !(ops.toList.map (·.dst)).contains (some p.1)) = true → hv l x = .junk := by
          intro l
          induction l with
          | nil => intro _; rfl
          | cons p r ih =>
            obtain ⟨u, y⟩ := p
            intro ha
            simp only [List.all_cons, Bool.and_eq_true] at ha
            unfold hv
            rw [if_neg (by rintro rfl; rw [hc] at ha; exact absurd ha.1 (by simp)), ih ha.2]
        exact (this l hd).symm
      · rfl
  refine AW_join t v bl' (Ops_of h1) ?_
  rw [hk]; exact h2

def loopQ {α : Type} (S : α → List (Nat × V)) (B : α → Int → Option Blk) (I : α → Prop) (μ : α → Nat) (n m : Nat) (K : Ex → St → Prop) : Ex → St → Prop
  | .normal, σ => ∃ a, I a ∧ μ a < m ∧ Fit (S a) n (B a) σ
  | e, σ => K e σ

theorem AW_for {α : Type} {P : Program} {c : Code} {K : Ex → St → Prop} {σ : St} (S : α → List (Nat × V)) (B : α → Int → Option Blk) (I : α → Prop) (μ : α → Nat) (n : Nat) (a0 : α) (h0 : I a0) (hσ : Fit (S a0) n (B a0) σ)
    (round : ∀ a, I a → AW P c (loopQ S B I μ n (μ a) K) ⟨n, hv (S a), B a⟩) : AW P (.loop c) K σ := by
  intro w0 M F a w hs
  have hs := hs.le (le_hv hσ)
  intro b k cs
  have key : ∀ m (x : α) F1 a w, μ x = m → I x → (∀ b, F b → F1 b) → Sim w0 M F1 ⟨n, hv (S x), B x⟩ a w →
      ∃ e a' w', Post w0 M F K e a' w' ∧ Arrives P (lone (b.at a (.code c :: .inLoop c :: k)) cs w) b k cs e a' w' := by
    intro m
    induction m using Nat.strongRecOn with
    | _ m ih =>
      intro x F1 a w hm hI hF hs
      obtain ⟨e, a₁, w₁, hq, harr⟩ := round x hI w0 M F1 a w hs b (.inLoop c :: k) cs
      obtain ⟨ex, σ1, F2, rfl, hF2, hs1, hK⟩ := hq
      cases ex with
      | normal =>
        obtain ⟨y, hI2, hlt, hfit⟩ := hK
        have hfit' := le_hv hfit
        obtain ⟨e₂, a₂, w₂, hq₂, harr₂⟩ := ih (μ y) (hm ▸ hlt) y F2 a₁ w₁ rfl hI2 (fun b hb => hF2 b (hF b hb)) (hs1.le hfit')
        exact ⟨e₂, a₂, w₂, hq₂, .of_steps (Steps.trans harr (.one step_inLoop)) harr₂⟩
      | exit id => exact ⟨.exit id, a₁, w₁, ⟨.exit id, σ1, F2, rfl, fun b hb => hF2 b (hF b hb), hs1, hK⟩, .pass (x := .inLoop c) rfl (fun _ _ => .inl (by simp)) harr⟩
      | ret => exact ⟨.ret, a₁, w₁, ⟨.ret, σ1, F2, rfl, fun b hb => hF2 b (hF b hb), hs1, hK⟩, .pass (x := .inLoop c) rfl (fun _ _ => .inl (by simp)) harr⟩
  obtain ⟨e, a', w', hq, harr⟩ := key _ a0 F a w rfl h0 (fun _ h => h) hs
  exact ⟨e, a', w', hq, .of_steps (.one step_loop) harr⟩

theorem loopQ_normal {α : Type} (S : α → List (Nat × V)) (B : α → Int → Option Blk) (I : α → Prop) (μ : α → Nat) (n m : Nat) (K : Ex → St → Prop) (σ : St) : loopQ S B I μ n m K .normal σ = ∃ a, I a ∧ μ a < m ∧ Fit (S a) n (B a) σ := rfl
theorem loopQ_exit {α : Type} (S : α → List (Nat × V)) (B : α → Int → Option Blk) (I : α → Prop) (μ : α → Nat) (n m : Nat) (K : Ex → St → Prop) (i : Nat) (σ : St) : loopQ S B I μ n m K (.exit i) σ = K (.exit i) σ := rfl
theorem loopQ_ret {α : Type} (S : α → List (Nat × V)) (B : α → Int → Option Blk) (I : α → Prop) (μ : α → Nat) (n m : Nat) (K : Ex → St → Prop) (σ : St) : loopQ S B I μ n m K .ret σ = K .ret σ := rfl

section
variable {P : Program} {σ : St} {K : Ex → St → Prop}

theorem AW_seq_ret {c : Code} (h : K .ret σ) : AW P (.seq .ret c) K σ := AW_seq (AW_ret (by rw [seqK_ret]; exact h))

/-- What is left of a call that reads: the value r, frozen. -/
def ROk (bl : Int → Option Blk) (r : V) (v : V) (bl' : Int → Option Blk) : Prop := ∃ n, frz (dropB bl' bl) n v = some r ∧ Sub bl bl'

theorem ro_of2 {f : FuncId} {fn : Func} {c : Code} {xs : List V} {r : V} (hf : P.funcs[f]? = some fn) (hb : fn.body = some c) (hn : (fn.name == "runtime.NumGoroutine") = false) (hl : xs.length ≤ fn.ntmps)
    (h : ∀ bl, AW P c (retK P fn.results.toList (ROk bl r)) ⟨fn.ntmps, fun t => xs.getD t .junk, bl⟩) : RO P f xs r := ro_of hf hb hn hl h

/-- The end of a function that reads. -/
theorem retRO {rs : List ResultVar} {bl : Int → Option Blk} {r : V} (vs : List V) (n : Nat) (h : resV P σ rs = some vs) (hf : frz (dropB σ.bl bl) n (retV vs) = some r) (hs : Sub bl σ.bl) :
    retK P rs (ROk bl r) .ret σ := by rw [retK_ret]; exact ⟨vs, h, n, hf, hs⟩
/-- .. that tells a value of one cell and has made nothing. -/
theorem retRO0 {rs : List ResultVar} {bl : Int → Option Blk} {r : V} (h : resV P σ rs = some [r]) (hb : σ.bl = bl) (hf : frz (dropB bl bl) 0 r = some r) : retK P rs (ROk bl r) .ret σ :=
  retRO [r] 0 h (by rw [hb]; exact hf) (by rw [hb]; exact Sub.refl _)

end
attribute [simp] St.ev St.put seqK_normal seqK_exit seqK_ret blockK_normal blockK_exit blockK_ret loopK_normal loopK_exit loopK_ret ofValue ofCell retV resV rdP loadV pickV intV binV unV lenV nilV fldV idxV idsV partV fieldV extV cvtV callV frzL jn fillV splice
attribute [simp] upd_idem eqA eqV eq1 qval upd_apply hv loopQ_exit loopQ_ret
@[simp] theorem cells_junk  : V.cells .junk = [.junk] := rfl
@[simp] theorem one_junk  : V.one .junk = false := rfl
@[simp] theorem cells_bool (b : Bool) : V.cells (.bool b) = [.bool b] := rfl
@[simp] theorem one_bool (b : Bool) : V.one (.bool b) = true := rfl
@[simp] theorem cells_int (k : IntKind) (n : Int) : V.cells (.int k n) = [.int k n] := rfl
@[simp] theorem one_int (k : IntKind) (n : Int) : V.one (.int k n) = true := rfl
@[simp] theorem cells_str (s : ByteArray) : V.cells (.str s) = [.str s] := rfl
@[simp] theorem one_str (s : ByteArray) : V.one (.str s) = true := rfl
@[simp] theorem cells_nilp  : V.cells .nilp = [.nilp] := rfl
@[simp] theorem one_nilp  : V.one .nilp = true := rfl
@[simp] theorem cells_ptr (cs : List V) : V.cells (.ptr cs) = [.ptr cs] := rfl
@[simp] theorem one_ptr (cs : List V) : V.one (.ptr cs) = true := rfl
@[simp] theorem cells_nils  : V.cells .nils = [.nils] := rfl
@[simp] theorem one_nils  : V.one .nils = true := rfl
@[simp] theorem cells_sle  : V.cells .sle = [.sle] := rfl
@[simp] theorem one_sle  : V.one .sle = true := rfl
@[simp] theorem cells_sl (xs : List (List V)) : V.cells (.sl xs) = [.sl xs] := rfl
@[simp] theorem one_sl (xs : List (List V)) : V.one (.sl xs) = true := rfl
@[simp] theorem cells_loc (g : Int) (sz k j : Nat) : V.cells (.loc g sz k j) = [.loc g sz k j] := rfl
@[simp] theorem one_loc (g : Int) (sz k j : Nat) : V.one (.loc g sz k j) = true := rfl
@[simp] theorem cells_lsl (g : Int) (sz o n : Nat) : V.cells (.lsl g sz o n) = [.lsl g sz o n] := rfl
@[simp] theorem one_lsl (g : Int) (sz o n : Nat) : V.one (.lsl g sz o n) = true := rfl
@[simp] theorem cells_agg (cs : List V) : V.cells (.agg cs) = cs := rfl
@[simp] theorem one_agg (cs : List V) : V.one (.agg cs) = false := rfl
@[simp] theorem cells_tup (vs : List V) : V.cells (.tup vs) = [.tup vs] := rfl
@[simp] theorem one_tup (vs : List V) : V.one (.tup vs) = false := rfl
@[simp] theorem cells_fn (f : FuncId) (cap : List V) : V.cells (.fn f cap) = [.fn f cap] := rfl
@[simp] theorem one_fn (f : FuncId) (cap : List V) : V.one (.fn f cap) = true := rfl
end Go.Proofs.Ytpkphjoobeacfaa.Vm
