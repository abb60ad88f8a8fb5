/- The transformer of one operation on abstract states, and that it is sound. -/
import Derived.Test.YtpkphjoobeacfaaVmB
import Derived.Tactics
namespace Go.Proofs.Ytpkphjoobeacfaa.Vm
open Go Go.RowKit

def bindP {α : Type} (o : Option α) (k : α → Prop) : Prop := ∃ x, o = some x ∧ k x
@[simp] theorem bindP_some {α : Type} (x : α) (k : α → Prop) : bindP (some x) k = k x := by simp [bindP]
@[simp] theorem bindP_none {α : Type} (k : α → Prop) : bindP none k = False := by simp [bindP]
@[simp] theorem bindP_ite {α : Type} (c : Prop) [Decidable c] (x y : Option α) (k : α → Prop) : bindP (if c then x else y) k = ((c → bindP x k) ∧ (¬ c → bindP y k)) := by
  by_cases h : c <;> simp [h]

/-! ### Types -/
def slE (P : Program) (t : TypeId) : Option TypeId := match P.underlying t with | some (.slice e) => some e | _ => none
def isStr (P : Program) (t : TypeId) : Bool := match P.underlying t with | some .string => true | _ => false
def isInt (P : Program) (t : TypeId) : Option IntKind := match P.underlying t with | some (.int k) => some k | _ => none
def isPtr (P : Program) (t : TypeId) : Bool := match P.underlying t with | some (.pointer _) => true | _ => false
def aggT (P : Program) (t : TypeId) : Option Bool := match P.underlying t with | some (.struct _) => some true | some (.array _ _) => some true | some _ => some false | none => none
def csz (P : Program) (t : TypeId) : Option Nat := match P.info? t with | some i => some i.size | none => none
def bsz (P : Program) (t : TypeId) : Nat := match P.info? t with | some i => i.bytes | none => 0
def fPl (P : Program) (t : TypeId) (i : Nat) : Option (Nat × Nat) := match P.underlying t with
  | some (.struct fs) => match fs[i]? with
    | some f => match csz P f.type with | some n => if n = 0 then none else some (f.offset, n) | none => none
    | none => none
  | _ => none
def fTy (P : Program) (t : TypeId) (i : Nat) : Option TypeId := match P.underlying t with
  | some (.struct fs) => match fs[i]? with | some f => some f.type | none => none
  | _ => none
def okF (P : Program) (t : TypeId) : Bool := match P.underlying t with
  | some (.struct fs) => fs.toList.all fun f => (csz P f.type).isSome
  | _ => false
def zeroC (P : Program) (t : TypeId) : Option (List V) := match P.info? t with
  | some i => match i.zero with
    | some z => if (z.cells.toList.map ofCell).all V.one && (z.cells.toList.map ofCell).length == i.size then some (z.cells.toList.map ofCell) else none
    | none => none
  | none => none

/-! ### Values -/
def rdP (bl : Int → Option Blk) : V → Option (List V)
  | .ptr cs => some cs
  | .loc g sz k j => match bl g with
    | some b => if b.sz = sz then match b.els[k]? with | some e => some (e.drop j) | none => none else none
    | none => none
  | _ => none
def loadV (P : Program) (t : TypeId) (cs : List V) : Option V := match aggT P t, csz P t with
  | some true, some n => if n ≤ cs.length then some (.agg (cs.take n)) else none
  | some false, _ => cs.head?
  | _, _ => none
def pickV (t : Bool) : V → V → V
  | .bool p, .bool q => .bool (if t then p else q)
  | x, y => if t then x else y
def intV (op : BinOp) (k : IntKind) (a b : Int) : Option V := match op with
  | .add => some (.int k (k.wrap (a + b)))
  | .sub => some (.int k (k.wrap (a - b)))
  | .mul => some (.int k (k.wrap (a * b)))
  | .quo => if b = 0 then none else some (.int k (k.wrap (a.tdiv b)))
  | .rem => if b = 0 then none else some (.int k (a.tmod b))
  | .and => some (.int k (k.wrap ((BitVec.ofInt k.bits a &&& BitVec.ofInt k.bits b).toNat)))
  | .or => some (.int k (k.wrap ((BitVec.ofInt k.bits a ||| BitVec.ofInt k.bits b).toNat)))
  | .xor => some (.int k (k.wrap ((BitVec.ofInt k.bits a ^^^ BitVec.ofInt k.bits b).toNat)))
  | .eql => some (.bool (a == b))
  | .neq => some (.bool (a != b))
  | .lss => some (.bool (decide (a < b)))
  | .leq => some (.bool (decide (a ≤ b)))
  | .gtr => some (.bool (decide (a > b)))
  | .geq => some (.bool (decide (a ≥ b)))
  | _ => none
/-- A field of a struct that can be compared: where it lies, and how it is compared. -/
def eqField (P : Program) (f : Field) : Option (Nat × Nat) := if f.name == "_" then none else match P.underlying f.type with
  | some .bool => some (f.offset, 0)
  | some (.int _) => some (f.offset, 1)
  | some .string => some (f.offset, 2)
  | _ => none
def eqFs (P : Program) (t : TypeId) : Option (List (Nat × Nat)) := match P.underlying t with
  | some (.struct fs) => if !P.stoodInHeld t && !P.eqGuardType P.depth t then fs.toList.mapM (eqField P) else none
  | _ => none
def eq1 : Nat → V → V → Option Bool
  | 0, .bool p, .bool q => some (p == q)
  | 1, .int k a, .int k' b => if k = k' then some (a == b) else none
  | 2, .str a, .str b => some (a.toList == b.toList)
  | _, _, _ => none
def eqV : List (Nat × Nat) → List V → List V → Option Bool
  | [], _, _ => some true
  | (o, k) :: r, a, b => match a[o]?, b[o]?, eqV r a b with
    | some x, some y, some s => match eq1 k x y with | some q => some (q && s) | none => none
    | _, _, _ => none
def eqA (P : Program) (t : TypeId) (a b : List V) : Option Bool := match eqFs P t with | some l => eqV l a b | none => none
def binV (P : Program) (op : BinOp) (t : TypeId) : V → V → Option V
  | .int k a, .int k' b => match op with
    | .shl => if b < 0 then none else some (.int k (k.wrap (a * 2 ^ (min b.toNat k.bits))))
    | .shr => if b < 0 then none else some (.int k (a.fdiv (2 ^ (min b.toNat k.bits))))
    | op => if k = k' then intV op k a b else none
  | .bool a, .bool b => match op, P.underlying t with
    | .eql, some .bool => some (.bool (a == b))
    | .neq, some .bool => some (.bool (a != b))
    | _, _ => none
  | .str a, .str b => match op with
    | .eql => some (.bool (a.toList == b.toList))
    | .neq => some (.bool (!(a.toList == b.toList)))
    | .add => if ((a.size + b.size : Nat) : Int) > IntKind.i64.max then none else some (.str (a ++ b))
    | _ => none
  | .agg a, .agg b => match op, eqA P t a b with | .eql, some r => some (.bool r) | .neq, some r => some (.bool !r) | _, _ => none
  | .nilp, .nilp => match op, isPtr P t with | .eql, true => some (.bool true) | .neq, true => some (.bool false) | _, _ => none
  | .nilp, .ptr _ => match op, isPtr P t with | .eql, true => some (.bool false) | .neq, true => some (.bool true) | _, _ => none
  | .ptr _, .nilp => match op, isPtr P t with | .eql, true => some (.bool false) | .neq, true => some (.bool true) | _, _ => none
  | .loc _ _ _ _, .nilp => match op, isPtr P t with | .eql, true => some (.bool false) | .neq, true => some (.bool true) | _, _ => none
  | .nils, .nils => match op, slE P t with | .eql, some _ => some (.bool true) | .neq, some _ => some (.bool false) | _, _ => none
  | .sle, .nils => match op, slE P t with | .eql, some _ => some (.bool false) | .neq, some _ => some (.bool true) | _, _ => none
  | .sl (_ :: _), .nils => match op, slE P t with | .eql, some _ => some (.bool false) | .neq, some _ => some (.bool true) | _, _ => none
  | .lsl g _ _ _, .nils => match op, slE P t with | .eql, some _ => some (.bool (decide (g < 0))) | .neq, some _ => some (.bool (!decide (g < 0))) | _, _ => none
  | _, _ => none
def unV (op : UnOp) : V → Option V
  | .int k n => match op with | .neg => some (.int k (k.wrap (0 - n))) | _ => none
  | .bool b => match op with | .not => some (.bool !b) | _ => none
  | _ => none
def lenV (P : Program) (t : TypeId) : V → Option V
  | .sl xs => match slE P t with | some _ => some (.int .i64 xs.length) | none => none
  | .lsl _ _ _ n => match slE P t with | some _ => some (.int .i64 n) | none => none
  | .nils => match slE P t with | some _ => some (.int .i64 0) | none => none
  | .sle => match slE P t with | some _ => some (.int .i64 0) | none => none
  | .str s => if isStr P t then some (.int .i64 s.size) else none
  | _ => none
def nilV : V → Option V
  | .ptr cs => some (.ptr cs)
  | .loc g sz k j => some (.loc g sz k j)
  | _ => none
def fldV (P : Program) (t : TypeId) (i : Nat) : V → Option V
  | .ptr cs => match fPl P t i with | some (o, _) => some (.ptr (cs.drop o)) | none => none
  | .loc g sz k j => match fPl P t i with | some (o, _) => some (.loc g sz k (j + o)) | none => none
  | _ => none
def idxV (P : Program) (t : TypeId) : V → V → Option V
  | .sl xs, .int _ n => match slE P t with
    | some e => if 0 ≤ n then match xs[n.toNat]? with
        | some c => if csz P e = some c.length then some (.ptr c) else none
        | none => none else none
    | none => none
  | .lsl g sz o m, .int _ n => match slE P t with
    | some e => if 0 ≤ n ∧ n < m ∧ csz P e = some sz then some (.loc g sz (o + n.toNat) 0) else none
    | none => none
  | _, _ => none
def idsV (P : Program) (t : TypeId) : V → V → Option V
  | .str s, .int _ n => if isStr P t then (if 0 ≤ n then match s[n.toNat]? with | some b => some (.int .u8 b.toNat) | none => none else none) else none
  | _, _ => none
def partV (P : Program) (t : TypeId) (cs : List V) (o : Nat) : Option V := match aggT P t, csz P t with
  | some true, some n => if o + n ≤ cs.length then some (.agg ((cs.drop o).take n)) else none
  | some false, _ => cs[o]?
  | _, _ => none
def fieldV (P : Program) (t : TypeId) (i : Nat) : V → Option V
  | .agg cs => match fPl P t i, fTy P t i with | some (o, _), some ft => partV P ft cs o | _, _ => none
  | _ => none
def extV (i : Nat) : V → Option V
  | .tup vs => vs[i]?
  | _ => none
/-- x[lo:hi] -/
def sliV (P : Program) (t : TypeId) (x : V) (lo hi : Option V) : Option V := match x with
  | .sl xs => match slE P t with
    | some e => if xs.all (fun c => csz P e == some c.length) && (csz P e).isSome then
      match (match lo with | none => some 0 | some (.int _ n) => some n | _ => none), (match hi with | none => some (xs.length : Int) | some (.int _ n) => some n | _ => none) with
      | some l, some h => if 0 ≤ l ∧ l ≤ h ∧ h ≤ xs.length then some (.sl ((xs.take h.toNat).drop l.toNat)) else none
      | _, _ => none
      else none
    | none => none
  | .lsl g sz o m => match slE P t with
    | some e =>
      match (match lo with | none => some 0 | some (.int _ n) => some n | _ => none), (match hi with | none => some (m : Int) | some (.int _ n) => some n | _ => none) with
      | some l, some h => if 0 ≤ g ∧ 0 ≤ l ∧ l ≤ h ∧ h ≤ m ∧ csz P e = some sz then (if l = 0 then some (.lsl g sz o h.toNat) else if l = h then some (.sl []) else some (.lsl g sz (o + l.toNat) (h.toNat - l.toNat))) else none
      | _, _ => none
    | none => none
  | .str s => if isStr P t then
      match (match lo with | none => some 0 | some (.int _ n) => some n | _ => none), (match hi with | none => some (s.size : Int) | some (.int _ n) => some n | _ => none) with
      | some l, some h => if 0 ≤ l ∧ l ≤ h ∧ h ≤ s.size then some (.str (s.extract l.toNat h.toNat)) else none
      | _, _ => none
    else none
  | _ => none
def fillV (pl : Nat → Option (Nat × Nat)) : List V → List (Nat × V) → Option (List V)
  | cs, [] => some cs
  | cs, (i, v) :: rest => match pl i with
    | some (o, n) => if v.cells.length = n ∧ o + n ≤ cs.length ∧ v.cells.all V.one = true then fillV pl (splice cs o v.cells) rest else none
    | none => none

/-! ### Calls -/
structure Enters (P : Program) (f : FuncId) : Prop where
  out : ∃ fn, P.funcs[f]? = some fn ∧ (fn.name == "runtime.NumGoroutine") = false ∧ fn.body.isNone = false

def Reps (F : Nat → Prop) (w : World) (xs : List V) (vs : Array Value) : Prop := vs.size = xs.length ∧ ∀ i x, xs[i]? = some x → Rep F w x (vs.getD i undef)

/-- What a call comes to in an abstract state. -/
def CallP (P : Program) (f : FuncId) (xs : List V) (bl : Int → Option Blk) (k : V → (Int → Option Blk) → Prop) : Prop :=
  Enters P f ∧ ∀ w0 M F w vs, Mem w0 M F bl w → Reps F w xs vs → Calls P f vs w fun e w' => ∃ v r bl' F', e = .returned v ∧ (∀ b, F b → F' b) ∧ (∀ b, F b → w'.heap[b]? = w.heap[b]?) ∧ Shapes w w' ∧
    Mem w0 M F' bl' w' ∧ Rep F' w' r v ∧ k r bl'

def callV (σ : St) (f : Operand) (args : List Operand) : Option (FuncId × List V) := match σ.ev f with
  | .fn g cap => some (g, args.map σ.ev ++ cap)
  | _ => none

/-- The elements of a slice. -/
def elsV (bl : Int → Option Blk) (sz : Nat) : V → Option (List (List V))
  | .nils => some []
  | .sle => some []
  | .sl xs => if xs.all (fun c => c.length == sz && c.all V.one) then some xs else none
  | .lsl g s o n => if g < 0 then some [] else match bl g with
    | some b => if b.sz = s ∧ s = sz ∧ o + n ≤ b.els.length then some ((b.els.drop o).take n) else none
    | none => none
  | _ => none
def bytesOf : List (List V) → Option (List Int)
  | [] => some []
  | [.int .u8 n] :: r => match bytesOf r with | some ns => some (n :: ns) | none => none
  | _ :: _ => none
def toBytes (ns : List Int) : ByteArray := ns.foldl (fun r n => r.push (UInt8.ofNat n.toNat)) ByteArray.empty
def cvtS (P : Program) (bl : Int → Option Blk) (src dst : TypeId) (x : V) : Option V := match slE P src, isStr P dst with
  | some e, true => match isInt P e, elsV bl 1 x with
    | some .u8, some els => match bytesOf els with | some ns => some (.str (toBytes ns)) | none => none
    | _, _ => none
  | _, _ => none
def cvtV (P : Program) (bl : Int → Option Blk) (src dst : TypeId) : V → Option V
  | .int _ n => match isInt P dst, P.underlying src with | some k, some _ => some (.int k (k.wrap n)) | _, _ => none
  | x => cvtS P bl src dst x
def rem (f : Int → Option Blk) (g : Int) : Int → Option Blk := fun x => if x = g then none else f x

/-- append(s, x..): what is appended to, and the elements of the result. -/
def appV (P : Program) (t tx : TypeId) (bl : Int → Option Blk) (s x : V) : Option ((Int → Option Blk) × Nat × List (List V)) := match slE P t, decide (t = tx) with
  | some e, true => match csz P e, elsV bl ((csz P e).getD 0) x with
    | some sz, some ys => match s with
      | .nils => some (bl, sz, ys)
      | .lsl g s o n => match bl g with
        | some b => if o = 0 ∧ b.sz = s ∧ s = sz ∧ n ≤ b.els.length then some (rem bl g, sz, b.els.take n ++ ys) else none
        | none => none
      | _ => none
    | _, _ => none
  | _, _ => none

/-- A bool, and what is said of it. -/
def onB (x : V) (k : Bool → Prop) : Prop := match x with | .bool q => k q | _ => False
@[simp] theorem onB_bool (q : Bool) (k : Bool → Prop) : onB (.bool q) k = k q := rfl
theorem onB_some {x : V} {k : Bool → Prop} (h : onB x k) : ∃ q, x = .bool q ∧ k q := by
  unfold onB at h; split at h
  · exact ⟨_, rfl, h⟩
  · exact h.elim

def T (P : Program) (o : Oper) (K : St → Prop) (σ : St) : Prop := match o.op with
  | .move x => K (σ.put o.dst (σ.ev x))
  | .assign x => K (σ.put o.dst (σ.ev x))
  | .pick c a b => onB (σ.ev c) fun t => K (σ.put o.dst (pickV t (σ.ev a) (σ.ev b)))
  | .alloc t => bindP (zeroC P t) fun cs => ∀ g : Int, 0 ≤ g → σ.bl g = none → K (({ σ with bl := upd σ.bl g (some ⟨cs.length, [cs]⟩) } : St).put o.dst (.loc g cs.length 0 0))
  | .box _ x => (σ.ev x).cells.all V.one = true ∧ ∀ g : Int, 0 ≤ g → σ.bl g = none → K (({ σ with bl := upd σ.bl g (some ⟨(σ.ev x).cells.length, [(σ.ev x).cells]⟩) } : St).put o.dst (.loc g (σ.ev x).cells.length 0 0))
  | .build t ps => bindP (zeroC P t) fun cs => okF P t = true ∧ bindP (fillV (fPl P t) cs (ps.toList.map fun p => (p.1, σ.ev p.2))) fun r => K (σ.put o.dst (.agg r))
  | .buildSlice t n ps => bindP (slE P t) fun e => bindP (zeroC P e) fun cs => 1 ≤ cs.length ∧ n * cs.length ≤ 16777216 ∧
      bindP (fillV (fun i => some (i * cs.length, cs.length)) (List.replicate n cs).flatten (ps.toList.map fun p => (p.1, σ.ev p.2))) fun r =>
      ∀ g : Int, 0 ≤ g → σ.bl g = none → K (({ σ with bl := upd σ.bl g (some ⟨cs.length, (List.range n).map fun i => (r.drop (i * cs.length)).take cs.length⟩) } : St).put o.dst (.lsl g cs.length 0 n))
  | .load t x => bindP (rdP σ.bl (σ.ev x)) fun cs => bindP (loadV P t cs) fun v => K (σ.put o.dst v)
  | .store t x y => match σ.ev x with
    | .loc g sz k j => bindP (σ.bl g) fun b => bindP (b.els[k]?) fun e => b.sz = sz ∧ csz P t = some (σ.ev y).cells.length ∧ j + (σ.ev y).cells.length ≤ sz ∧ (σ.ev y).cells.all V.one = true ∧
        K (({ σ with bl := upd σ.bl g (some ⟨sz, b.els.set k (splice e j (σ.ev y).cells)⟩) } : St).put o.dst .junk)
    | _ => False
  | .nilCheck x => bindP (nilV (σ.ev x)) fun v => K (σ.put o.dst v)
  | .binOp op t x y _ => bindP (binV P op t (σ.ev x) (σ.ev y)) fun v => K (σ.put o.dst v)
  | .unOp op _ x => bindP (unV op (σ.ev x)) fun v => K (σ.put o.dst v)
  | .convert s d x => bindP (cvtV P σ.bl s d (σ.ev x)) fun v => K (σ.put o.dst v)
  | .makeFunc f first cap => match f with
    | .func f => first = #[] ∧ K (σ.put o.dst (.fn f (cap.toList.map σ.ev)))
    | _ => False
  | .makeSlice t l c => bindP (slE P t) fun e => bindP (zeroC P e) fun cs => ∃ n : Nat, σ.ev l = .int .i64 n ∧ σ.ev c = .int .i64 n ∧ bsz P e * n ≤ 281474976710656 ∧ n ≤ maxLen ∧
      ∀ g : Int, 0 ≤ g → σ.bl g = none → K (({ σ with bl := upd σ.bl g (some ⟨cs.length, List.replicate n cs⟩) } : St).put o.dst (.lsl g cs.length 0 n))
  | .slice t x lo hi mx => match mx with
    | none => bindP (sliV P t (σ.ev x) (lo.map σ.ev) (hi.map σ.ev)) fun v => K (σ.put o.dst v)
    | some _ => False
  | .fieldAddr t x i => bindP (fldV P t i (σ.ev x)) fun v => K (σ.put o.dst v)
  | .field t x i => bindP (fieldV P t i (σ.ev x)) fun v => K (σ.put o.dst v)
  | .indexAddr t x i => bindP (idxV P t (σ.ev x) (σ.ev i)) fun v => K (σ.put o.dst v)
  | .index t x i => bindP (idsV P t (σ.ev x) (σ.ev i)) fun v => K (σ.put o.dst v)
  | .extract x i => bindP (extV i (σ.ev x)) fun v => K (σ.put o.dst v)
  | .call c => match c.callee with
    | .value f => bindP (callV σ f c.args.toList) fun p => CallP P p.1 p.2 σ.bl fun v bl' => K (({ σ with bl := bl' } : St).put o.dst v)
    | .builtin .len => bindP (lenV P (c.argTypes.getD 0 0) (σ.ev (c.args.getD 0 (.const undef)))) fun v => c.args.size = 1 ∧ c.argTypes.size = 1 ∧ K (σ.put o.dst v)
    | .builtin .append => bindP (appV P (c.argTypes.getD 0 0) (c.argTypes.getD 1 0) σ.bl (σ.ev (c.args.getD 0 (.const undef))) (σ.ev (c.args.getD 1 (.const undef)))) fun p =>
        c.args.size = 2 ∧ c.argTypes.size = 2 ∧ (slE P (c.argTypes.getD 0 0)).elim False (fun e => p.2.2.length * bsz P e ≤ 140737488355328 ∧ 1 ≤ bsz P e ∧ ∃ z, zeroC P e = some z ∧ 1 ≤ z.length) ∧
        ∀ g : Int, (0 ≤ g ∨ p.2.2 = []) → p.1 g = none → K (({ σ with bl := upd p.1 g (some ⟨p.2.1, p.2.2⟩) } : St).put o.dst (.lsl g p.2.1 0 p.2.2.length))
    | _ => False
  | _ => False

end Go.Proofs.Ytpkphjoobeacfaa.Vm
