import GoSem.ClaimJoined
import Derived.Laws.Strings
import Derived.Test.YticmgmemnpcbbaaGreatQCFnWork2

namespace Go.Proofs.YticmgmemnpcbbaaGreat.Vm
open Go Go.RowKit
set_option linter.unusedSimpArgs false
set_option linter.unusedVariables false
section
variable {α : Type} {k : α → Prop}
@[simp high] theorem O9 (c : Prop) [Decidable c] (o : Option α) : aY (if c then o else none) k = (c ∧ aY o k) := by
 by_cases h:c<;>simp[h]
@[simp] theorem aJ4 {β : Type} (c : Prop) [Decidable c] (b : β) (x : Option β) : ((if c then some b else x) = none) = (¬ c ∧ x = none) := by
 by_cases h:c<;>simp[h]
@[simp] theorem aGF (bl : Int → Option Blk) : Sub bl bl = True := eq_true (Sub.refl bl)
@[simp] theorem aIH {bl bl' : Int → Option Blk} {g : Int} {b : Option Blk} (h : bl g = none) : Sub bl (upd bl' g b) = Sub bl bl' := by
 apply propext
 constructor
 ·intro hs g' b' hb
  have:=hs g' b' hb
  rw[aL _ _ _ _ (fun e=>by subst e;rw[h] at hb;cases hb)] at this
  exact this
 ·intro hs;exact hs.upd h b
theorem i64_in {n:Int} (h1: -9223372036854775808≤n) (h2:n≤9223372036854775807):IntKind.i64.wrap n=n:=IntWalk.i64_in n ⟨h1,h2⟩
end
section
variable (K : St → Prop) (σ : St) (d : Option Tmp)
def kA (o:Option V):Prop:=aY o fun v=>K (σ.put d v)
def Qx (c a b:V):Prop:=onB c fun t=>K (σ.put d (pickV t a b))
def V1 (o:Option (List V)):Prop:=aY o fun cs=> ∀g:Int,0≤g→σ.bl g=none→K (({ σ with bl:=upd σ.bl g (some ⟨cs.length,[cs]⟩) } :St).put d (.loc g cs.length 0 0))
def Wm (o:Option (List V)):Prop:=aY o fun r=>K (σ.put d (.agg r))
def Jn (P:Program) (t:TypeId) (ps:List (Nat×V)) (o:Option (List V)):Prop:=aY o fun cs=>okF P t=true∧Wm K σ d (fillV (fPl P t) cs ps)
def Sl (n sz:Nat) (o:Option (List V)):Prop:=aY o fun r=> ∀g:Int,0≤g→σ.bl g=none→K (({ σ with bl:=upd σ.bl g (some ⟨sz,(List.range n).map fun i=>(r.drop (i*sz)).take sz⟩) } :St).put d (.lsl g sz 0 n))
def bsQ (P:Program) (n:Nat) (ps:List (Nat×V)) (o:Option (List V)):Prop:=aY o fun cs=>1≤cs.length∧n*cs.length≤16777216∧Sl K σ d n cs.length (fillV (fun i=>some (i*cs.length,cs.length)) (List.replicate n cs).flatten ps)
def Qd (P:Program) (t:TypeId) (o:Option (List V)):Prop:=aY o fun cs=>kA K σ d (loadV P t cs)
def B5 (P:Program) (t:TypeId) (g:Int) (sz k j:Nat) (b:Blk) (y:V) (o:Option (List V)):Prop:=aY o fun e=>b.sz=sz∧csz P t=some y.cells.length∧j+y.cells.length≤sz∧y.cells.all V.one=true∧
 K (({ σ with bl:=upd σ.bl g (some ⟨sz,b.els.set k (splice e j y.cells)⟩) } :St).put d .junk)
def A8 (P:Program) (t:TypeId) (g:Int) (sz k j:Nat) (y:V) (o:Option Blk):Prop:=aY o fun b=>B5 K σ d P t g sz k j b y (b.els[k]?)
def storeQ (P:Program) (t:TypeId) (x y:V):Prop:=match x with | .loc g sz k j=>A8 K σ d P t g sz k j y (σ.bl g)| _=>False
def T6 (bz:Nat) (l c:V) (cs:List V):Prop:= ∃n:Nat,l= .int .i64 n∧c= .int .i64 n∧bz*n≤281474976710656∧n≤maxLen∧
 ∀g:Int,0≤g→σ.bl g=none→K (({ σ with bl:=upd σ.bl g (some ⟨cs.length,List.replicate n cs⟩) } :St).put d (.lsl g cs.length 0 n))
def Qu (bz:Nat) (l c:V) (o:Option (List V)):Prop:=aY o fun cs=>T6 K σ d bz l c cs
def slQ (o:Option TypeId) (k:TypeId→Prop):Prop:=aY o k
def Gj (v:V) (bl':Int→Option Blk):Prop:=K (({ σ with bl:=bl' } :St).put d v)
def Rh (P:Program) (o:Option (FuncId×List V)):Prop:=aY o fun p=>bJ P p.1 p.2 σ.bl (Gj K σ d)
def aBQ (P:Program) (e:Option TypeId) (o:Option ((Int→Option Blk)×Nat×List (List V))):Prop:=aY o fun p=>
 e.elim False (fun e=>p.2.2.length*bsz P e≤140737488355328∧1≤bsz P e∧ ∃z,zeroC P e=some z∧1≤z.length)∧
 ∀g:Int,(0≤g∨p.2.2= [])→p.1 g=none→K (({ σ with bl:=upd p.1 g (some ⟨p.2.1,p.2.2⟩) } :St).put d (.lsl g p.2.1 0 p.2.2.length))
@[simp] theorem aAE (v : V) : kA K σ d (some v) = K (σ.put d v) := bP _ _
@[simp] theorem Xt : kA K σ d none = False := U1 _
@[simp high] theorem aJJ (c : Prop) [Decidable c] (o : Option V) : kA K σ d (if c then o else none) = (c ∧ kA K σ d o) := O9 c o
@[simp high] theorem aBC (c : Prop) [Decidable c] (o : Option V) : kA K σ d (if c then none else o) = (¬ c ∧ kA K σ d o) := by
 by_cases h:c<;>simp[h]
@[simp] theorem Wn (t : Bool) (a b : V) : Qx K σ d (.bool t) a b = K (σ.put d (pickV t a b)) := rfl
@[simp] theorem L4 (cs : List V) : V1 K σ d (some cs) = ∀ g : Int, 0 ≤ g → σ.bl g = none → K (({ σ with bl := upd σ.bl g (some ⟨cs.length, [cs]⟩) } : St).put d (.loc g cs.length 0 0)) := bP _ _
@[simp] theorem Xr (r : List V) : Wm K σ d (some r) = K (σ.put d (.agg r)) := bP _ _
@[simp] theorem Qm (P : Program) (t : TypeId) (ps : List (Nat × V)) (cs : List V) : Jn K σ d P t ps (some cs) = (okF P t = true ∧ Wm K σ d (fillV (fPl P t) cs ps)) := bP _ _
@[simp] theorem Zo (n sz : Nat) (r : List V) : Sl K σ d n sz (some r) = ∀ g : Int, 0 ≤ g → σ.bl g = none → K (({ σ with bl := upd σ.bl g (some ⟨sz, (List.range n).map fun i => (r.drop (i * sz)).take sz⟩) } : St).put d (.lsl g sz 0 n)) := bP _ _
@[simp] theorem aG9 (P : Program) (n : Nat) (ps : List (Nat × V)) (cs : List V) : bsQ K σ d P n ps (some cs) = (1 ≤ cs.length ∧ n * cs.length ≤ 16777216 ∧ Sl K σ d n cs.length (fillV (fun i => some (i * cs.length, cs.length)) (List.replicate n cs).flatten ps)) := bP _ _
@[simp] theorem Wg (P : Program) (t : TypeId) (cs : List V) : Qd K σ d P t (some cs) = kA K σ d (loadV P t cs) := bP _ _
@[simp] theorem Vn (P : Program) (t : TypeId) (g : Int) (sz k j : Nat) (y : V) : storeQ K σ d P t (.loc g sz k j) y = A8 K σ d P t g sz k j y (σ.bl g) := rfl
@[simp] theorem Mt (P : Program) (t : TypeId) (g : Int) (sz k j : Nat) (y : V) (b : Blk) : A8 K σ d P t g sz k j y (some b) = B5 K σ d P t g sz k j b y (b.els[k]?) := bP _ _
@[simp] theorem Oo (P : Program) (t : TypeId) (g : Int) (sz k j : Nat) (b : Blk) (y : V) (e : List V) : B5 K σ d P t g sz k j b y (some e) = (b.sz = sz ∧ csz P t = some y.cells.length ∧ j + y.cells.length ≤ sz ∧ y.cells.all V.one = true ∧
 K (({ σ with bl:=upd σ.bl g (some ⟨sz,b.els.set k (splice e j y.cells)⟩) } :St).put d .junk)):=bP _ _
@[simp] theorem Wi (bz : Nat) (l c : V) (cs : List V) : Qu K σ d bz l c (some cs) = T6 K σ d bz l c cs := bP _ _
@[simp] theorem Wv (bz n : Nat) (cs : List V) : T6 K σ d bz (.int .i64 n) (.int .i64 n) cs = (bz * n ≤ 281474976710656 ∧ n ≤ maxLen ∧
 ∀g:Int,0≤g→σ.bl g=none→K (({ σ with bl:=upd σ.bl g (some ⟨cs.length,List.replicate n cs⟩) } :St).put d (.lsl g cs.length 0 n))):=by
 apply propext
 constructor
 ·rintro⟨m,h1,h2,h3,h4,h5⟩
  have:n=m:=by injection h1 with _ h;omega
  subst this;exact⟨h3,h4,h5⟩
 ·rintro⟨h3,h4,h5⟩;exact⟨n,rfl,rfl,h3,h4,h5⟩
@[simp] theorem aCZ (e : TypeId) (k : TypeId → Prop) : slQ (some e) k = k e := bP _ _
@[simp] theorem Up (P : Program) (f : FuncId) (xs : List V) : Rh K σ d P (some (f, xs)) = bJ P f xs σ.bl (Gj K σ d) := bP _ _
@[simp] theorem aCX (v : V) (bl' : Int → Option Blk) : Gj K σ d v bl' = K (({ σ with bl := bl' } : St).put d v) := rfl
@[simp] theorem Xd (P : Program) (e : TypeId) (b : Int → Option Blk) (sz : Nat) (xs : List (List V)) : aBQ K σ d P (some e) (some (b, sz, xs)) = ((xs.length * bsz P e ≤ 140737488355328 ∧ 1 ≤ bsz P e ∧ ∃ z, zeroC P e = some z ∧ 1 ≤ z.length) ∧
 ∀g:Int,(0≤g∨xs= [])→b g=none→K (({ σ with bl:=upd b g (some ⟨sz,xs⟩) } :St).put d (.lsl g sz 0 xs.length))):=bP _ _
variable (P : Program) (ty : TypeId) (pos : String) (af : Array Edge) (gd : Option (Nat × Bool))
@[simp] theorem aLL (x : Operand) : T P ⟨d, .move x, ty, pos, af, gd⟩ K σ = K (σ.put d (σ.ev x)) := rfl
@[simp] theorem aCL (x : Operand) : T P ⟨d, .assign x, ty, pos, af, gd⟩ K σ = K (σ.put d (σ.ev x)) := rfl
@[simp] theorem aL7 (c a b : Operand) : T P ⟨d, .pick c a b, ty, pos, af, gd⟩ K σ = Qx K σ d (σ.ev c) (σ.ev a) (σ.ev b) := rfl
@[simp] theorem aJX (t : TypeId) : T P ⟨d, .alloc t, ty, pos, af, gd⟩ K σ = V1 K σ d (zeroC P t) := rfl
@[simp] theorem aNE (t : TypeId) (x : Operand) : T P ⟨d, .box t x, ty, pos, af, gd⟩ K σ = ((σ.ev x).cells.all V.one = true ∧ V1 K σ d (some (σ.ev x).cells)) := by
 rw[L4];rfl
@[simp] theorem aJM (t : TypeId) (ps : Array (Nat × Operand)) : T P ⟨d, .build t ps, ty, pos, af, gd⟩ K σ = Jn K σ d P t (ps.toList.map fun p => (p.1, σ.ev p.2)) (zeroC P t) := rfl
@[simp] theorem Mm (t : TypeId) (n : Nat) (ps : Array (Nat × Operand)) : T P ⟨d, .buildSlice t n ps, ty, pos, af, gd⟩ K σ = slQ (slE P t) fun e => bsQ K σ d P n (ps.toList.map fun p => (p.1, σ.ev p.2)) (zeroC P e) := rfl
@[simp] theorem aKW (t : TypeId) (x : Operand) : T P ⟨d, .load t x, ty, pos, af, gd⟩ K σ = Qd K σ d P t (rdP σ.bl (σ.ev x)) := rfl
@[simp] theorem aHN (t : TypeId) (x y : Operand) : T P ⟨d, .store t x y, ty, pos, af, gd⟩ K σ = storeQ K σ d P t (σ.ev x) (σ.ev y) := by
 unfold T storeQ
 simp only
 generalize σ.ev x=v
 cases v<;>rfl
@[simp] theorem Wo (x : Operand) : T P ⟨d, .nilCheck x, ty, pos, af, gd⟩ K σ = kA K σ d (Q1 (σ.ev x)) := rfl
@[simp] theorem aJD (op : BinOp) (t : TypeId) (x y : Operand) (t' : TypeId) : T P ⟨d, .binOp op t x y t', ty, pos, af, gd⟩ K σ = kA K σ d (binV P op t (σ.ev x) (σ.ev y)) := rfl
@[simp] theorem aKF (op : UnOp) (t : TypeId) (x : Operand) : T P ⟨d, .unOp op t x, ty, pos, af, gd⟩ K σ = kA K σ d (unV op (σ.ev x)) := rfl
@[simp] theorem Xo (s t : TypeId) (x : Operand) : T P ⟨d, .convert s t x, ty, pos, af, gd⟩ K σ = kA K σ d (cvtV P σ.bl s t (σ.ev x)) := rfl
@[simp] theorem Tf (f : FuncId) (cap : Array Operand) : T P ⟨d, .makeFunc (.func f) #[] cap, ty, pos, af, gd⟩ K σ = K (σ.put d (.fn f (cap.toList.map σ.ev))) := by
 show(_∧_)=_
 simp
@[simp] theorem Qf (t : TypeId) (l c : Operand) : T P ⟨d, .makeSlice t l c, ty, pos, af, gd⟩ K σ = slQ (slE P t) fun e => Qu K σ d (bsz P e) (σ.ev l) (σ.ev c) (zeroC P e) := rfl
@[simp] theorem aJA (t : TypeId) (x : Operand) (lo hi : Option Operand) : T P ⟨d, .slice t x lo hi none, ty, pos, af, gd⟩ K σ = kA K σ d (sliV P t (σ.ev x) (lo.map σ.ev) (hi.map σ.ev)) := rfl
@[simp] theorem Px (t : TypeId) (x : Operand) (i : Nat) : T P ⟨d, .fieldAddr t x i, ty, pos, af, gd⟩ K σ = kA K σ d (fldV P t i (σ.ev x)) := rfl
@[simp] theorem aHZ (t : TypeId) (x : Operand) (i : Nat) : T P ⟨d, .field t x i, ty, pos, af, gd⟩ K σ = kA K σ d (fieldV P t i (σ.ev x)) := rfl
@[simp] theorem Pz (t : TypeId) (x i : Operand) : T P ⟨d, .indexAddr t x i, ty, pos, af, gd⟩ K σ = kA K σ d (idxV P t (σ.ev x) (σ.ev i)) := rfl
@[simp] theorem aIX (t : TypeId) (x i : Operand) : T P ⟨d, .index t x i, ty, pos, af, gd⟩ K σ = kA K σ d (idsV P t (σ.ev x) (σ.ev i)) := rfl
@[simp] theorem Yk (x : Operand) (i : Nat) : T P ⟨d, .extract x i, ty, pos, af, gd⟩ K σ = kA K σ d (extV i (σ.ev x)) := rfl
@[simp] theorem aDT (t : TypeId) (x i : Operand) (co : Bool) : T P ⟨d, .lookup t x i co, ty, pos, af, gd⟩ K σ = kA K σ d (lkV P t (σ.ev x) (σ.ev i) co) := rfl
@[simp] theorem aKU (f : Operand) (args : Array Operand) (ats : Array TypeId) : T P ⟨d, .call { callee := .value f, args := args, argTypes := ats }, ty, pos, af, gd⟩ K σ = Rh K σ d P (callV σ f args.toList) := rfl
@[simp] theorem aN0 (x : Operand) (t : TypeId) : T P ⟨d, .call { callee := .builtin .len, args := #[x], argTypes := #[t] }, ty, pos, af, gd⟩ K σ = kA K σ d (lenV P t (σ.ev x)) := by
 show(∃v,_∧_∧_∧_)=(∃v,_∧_)
 simp
@[simp] theorem aNY (x y : Operand) (ts : Array TypeId) : T P ⟨d, .call { callee := .builtin .min, args := #[x, y], argTypes := ts }, ty, pos, af, gd⟩ K σ = kA K σ d (minV (σ.ev x) (σ.ev y)) := by
 show(∃v,_∧_∧_)=(∃v,_∧_)
 simp
@[simp] theorem aFZ (x y : Operand) (t tx : TypeId) : T P ⟨d, .call { callee := .builtin .append, args := #[x, y], argTypes := #[t, tx] }, ty, pos, af, gd⟩ K σ = aBQ K σ d P (slE P t) (appV P t tx σ.bl (σ.ev x) (σ.ev y)) := by
 show(∃p,_∧_∧_∧_∧_)=(∃p,_∧_∧_)
 simp
end
def OpsF (P:Program) (ds:List (Option Tmp)):List Oper→(St→Prop)→St→Prop
 | [], K, σ => K σ
 | o :: rest, K, σ => match o.guard with
   | none=>T P o (OpsF P ds rest K) σ
   | some (j,b)=>match ds[j]? with
     | some (some d)=>match σ.ev (.tmp d) with
       | .bool q=>(q=true→if b=true then T P o (OpsF P ds rest K) (σ.put (some d) (.bool true)) else OpsF P ds rest K ((σ.put (some d) (.bool true)).put o.dst (.tup [])))∧
          (q=false→if b=false then T P o (OpsF P ds rest K) (σ.put (some d) (.bool false)) else OpsF P ds rest K ((σ.put (some d) (.bool false)).put o.dst (.tup [])))
       | .tup []=>OpsF P ds rest K (σ.put o.dst (.tup []))
       | _=>False
     | _=>False
def fT (P:Program) (ds:List (Option Tmp)) (b:Bool) (o:Oper) (rest:List Oper) (K:St→Prop) (d:Tmp) (σ:St) (x:V):Prop:=match x with
 | .bool q => (q = true → if b = true then T P o (OpsF P ds rest K) (σ.put (some d) (.bool true)) else OpsF P ds rest K ((σ.put (some d) (.bool true)).put o.dst (.tup []))) ∧
    (q=false→if b=false then T P o (OpsF P ds rest K) (σ.put (some d) (.bool false)) else OpsF P ds rest K ((σ.put (some d) (.bool false)).put o.dst (.tup [])))
 | .tup [] => OpsF P ds rest K (σ.put o.dst (.tup []))
 | _ => False
def En (P:Program) (ds:List (Option Tmp)) (b:Bool) (o:Oper) (rest:List Oper) (K:St→Prop) (σ:St) (x:Option (Option Tmp)):Prop:=match x with
 | some (some d) => fT P ds b o rest K d σ (σ.ev (.tmp d))
 | _ => False
section
variable (P : Program) (ds : List (Option Tmp)) (K : St → Prop) (σ : St) (d : Option Tmp) (op : Op) (ty : TypeId) (pos : String) (af : Array Edge) (rest : List Oper) (b : Bool) (o : Oper) (t : Tmp)
@[simp] theorem aEZ : OpsF P ds [] K σ = K σ := rfl
@[simp] theorem Yi : OpsF P ds (⟨d, op, ty, pos, af, none⟩ :: rest) K σ = T P ⟨d, op, ty, pos, af, none⟩ (OpsF P ds rest K) σ := rfl
@[simp] theorem Vz (j : Nat) : OpsF P ds (⟨d, op, ty, pos, af, some (j, b)⟩ :: rest) K σ = En P ds b ⟨d, op, ty, pos, af, some (j, b)⟩ rest K σ (ds[j]?) := rfl
@[simp] theorem Qc : En P ds b o rest K σ (some (some t)) = fT P ds b o rest K t σ (σ.ev (.tmp t)) := rfl
@[simp] theorem aAX : fT P ds true o rest K t σ (.bool true) = T P o (OpsF P ds rest K) (σ.put (some t) (.bool true)) := by simp [fT]
@[simp] theorem Zv : fT P ds true o rest K t σ (.bool false) = OpsF P ds rest K ((σ.put (some t) (.bool false)).put o.dst (.tup [])) := by simp [fT]
@[simp] theorem Xy : fT P ds false o rest K t σ (.bool true) = OpsF P ds rest K ((σ.put (some t) (.bool true)).put o.dst (.tup [])) := by simp [fT]
@[simp] theorem Zg : fT P ds false o rest K t σ (.bool false) = T P o (OpsF P ds rest K) (σ.put (some t) (.bool false)) := by simp [fT]
@[simp] theorem Rf : fT P ds b o rest K t σ (.tup []) = OpsF P ds rest K (σ.put o.dst (.tup [])) := rfl
@[simp low] theorem Re (q : Bool) : fT P ds true o rest K t σ (.bool q) = ((q = true → T P o (OpsF P ds rest K) (σ.put (some t) (.bool true))) ∧ (q = false → OpsF P ds rest K ((σ.put (some t) (.bool false)).put o.dst (.tup [])))) := by simp [fT]
@[simp low] theorem Ny (q : Bool) : fT P ds false o rest K t σ (.bool q) = ((q = true → OpsF P ds rest K ((σ.put (some t) (.bool true)).put o.dst (.tup []))) ∧ (q = false → T P o (OpsF P ds rest K) (σ.put (some t) (.bool false)))) := by simp [fT]
end
theorem sB {P:Program} {ds:List (Option Tmp)} {K:St→Prop} : ∀ {l:List Oper} {σ:St},OpsF P ds l K σ→Ops P ds l K σ
 | [], σ, h => h
 | o :: rest, σ, h => by
   have ih: ∀σ,OpsF P ds rest K σ→Ops P ds rest K σ:=fun σ=>sB
   unfold OpsF at h
   unfold Ops
   split
   ·rename_i hg;simp only[hg] at h;exact gW h ih
   ·rename_i j b hg
    simp only[hg] at h
    split
    ·rename_i d hd
     simp only[hd] at h
     split at h
     ·rename_i q hq
      obtain⟨h1,h2⟩:=h
      rw[hq,wJ]
      refine⟨fun hb=> ?_,fun hb=> ?_⟩
      ·subst hb
       cases q
       ·exact gW (h2 rfl) ih
       ·exact gW (h1 rfl) ih
      ·cases b
       ·subst hb;exact ih _ (h1 rfl)
       ·subst hb;exact ih _ (h2 rfl)
     ·rename_i hq
      rw[hq,wK]
      exact ih _ h
     ·exact h.elim
    ·rename_i hd
     split at h
     ·rename_i d hd2;exact absurd hd2 (hd d)
     ·exact h
def runC (P:Program):Code→(Ex→St→Prop)→St→Prop
 | .skip, K, σ => K .normal σ
 | .seq x y, K, σ => runC P x (fun e σ' => match e with | .normal => runC P y K σ' | .exit i => K (.exit i) σ' | .ret => K .ret σ') σ
 | .region id ops true, K, σ => AW P (.region id ops true) K σ
 | .region id ops false, K, σ => if ops.toList.any (fun o => o.guard.isSome) = true then AW P (.region id ops false) K σ else OpsF P (ops.toList.map (·.dst)) ops.toList (K .normal) σ
 | .cond c x y, K, σ => onB (σ.ev c) fun b => (b = true → runC P x K σ) ∧ (b = false → runC P y K σ)
 | .block id c, K, σ => runC P c (sR id K) σ
 | .loop c, K, σ => AW P (.loop c) K σ
 | .exit i, K, σ => K (.exit i) σ
 | .ret, K, σ => K .ret σ
 | _, _, _ => False
def Hs (P:Program) (y:Code) (K:Ex→St→Prop) (e:Ex) (σ:St):Prop:=match e with | .normal=>runC P y K σ | .exit i=>K (.exit i) σ | .ret=>K .ret σ
@[simp] theorem Rg (P : Program) (y : Code) (K : Ex → St → Prop) (σ : St) : Hs P y K .normal σ = runC P y K σ := rfl
@[simp] theorem aAO (P : Program) (y : Code) (K : Ex → St → Prop) (i : Nat) (σ : St) : Hs P y K (.exit i) σ = K (.exit i) σ := rfl
@[simp] theorem aD4 (P : Program) (y : Code) (K : Ex → St → Prop) (σ : St) : Hs P y K .ret σ = K .ret σ := rfl
def xD (P:Program) (x y:Code) (K:Ex→St→Prop) (σ:St) (v:V):Prop:=onB v fun b=>(b=true→runC P x K σ)∧(b=false→runC P y K σ)
@[simp] theorem Yf (P : Program) (K : Ex → St → Prop) (σ : St) : runC P .skip K σ = K .normal σ := rfl
@[simp] theorem aCF (P : Program) (x y : Code) (K : Ex → St → Prop) (σ : St) : runC P (.seq x y) K σ = runC P x (Hs P y K) σ := rfl
@[simp] theorem Zl (P : Program) (id : Nat) (ops : Array Oper) (K : Ex → St → Prop) (σ : St) : runC P (.region id ops true) K σ = AW P (.region id ops true) K σ := rfl
@[simp] theorem Qi (P : Program) (id : Nat) (ops : Array Oper) (K : Ex → St → Prop) (σ : St) : runC P (.region id ops false) K σ = if ops.toList.any (fun o => o.guard.isSome) = true then AW P (.region id ops false) K σ else OpsF P (ops.toList.map (·.dst)) ops.toList (K .normal) σ := rfl
@[simp] theorem Zn (P : Program) (c : Operand) (x y : Code) (K : Ex → St → Prop) (σ : St) : runC P (.cond c x y) K σ = xD P x y K σ (σ.ev c) := rfl
@[simp] theorem Tz (P : Program) (x y : Code) (K : Ex → St → Prop) (σ : St) : xD P x y K σ (.bool true) = runC P x K σ := by simp [xD]
@[simp] theorem Pv (P : Program) (x y : Code) (K : Ex → St → Prop) (σ : St) : xD P x y K σ (.bool false) = runC P y K σ := by simp [xD]
@[simp low] theorem Ww (P : Program) (x y : Code) (K : Ex → St → Prop) (σ : St) (q : Bool) : xD P x y K σ (.bool q) = ((q = true → runC P x K σ) ∧ (q = false → runC P y K σ)) := by simp [xD]
@[simp] theorem Vs (P : Program) (id : Nat) (c : Code) (K : Ex → St → Prop) (σ : St) : runC P (.block id c) K σ = runC P c (sR id K) σ := rfl
@[simp] theorem Xp (P : Program) (c : Code) (K : Ex → St → Prop) (σ : St) : runC P (.loop c) K σ = AW P (.loop c) K σ := rfl
@[simp] theorem Yq (P : Program) (i : Nat) (K : Ex → St → Prop) (σ : St) : runC P (.exit i) K σ = K (.exit i) σ := rfl
@[simp] theorem aBF (P : Program) (K : Ex → St → Prop) (σ : St) : runC P .ret K σ = K .ret σ := rfl
theorem aC {P:Program} : ∀ {c:Code} {K:Ex→St→Prop} {σ:St},runC P c K σ→AW P c K σ
 | .skip, K, σ, h => Ll h
 | .seq x y, K, σ, h => by
   have h1:AW P x (Hs P y K) σ:=aC h
   refine cK (h1.mono fun e σ' h'=> ?_)
   cases e with
   | normal=>exact aC h'
   | exit i=>exact h'
   | ret=>exact h'
 | .region id ops true, K, σ, h => h
 | .region id ops false, K, σ, h => by
   unfold runC at h
   split at h
   ·exact h
   ·exact sX (sB h)
 | .cond c x y, K, σ, h => by
   unfold runC at h
   obtain⟨q,hq,h1,h2⟩:=kK h
   exact Lm ⟨q,hq,fun h=>aC (h1 h),fun h=>aC (h2 h)⟩
 | .block id c, K, σ, h => cD (aC h)
 | .loop c, K, σ, h => h
 | .exit i, K, σ, h => Lq h
 | .ret, K, σ, h => Ur h
 | .rangeFunc .., _, _, h => h.elim
 | .scope _, _, _, h => h.elim
 | .label _, _, _, h => h.elim
 | .goto _, _, _, h => h.elim
def part (xs:List (List V)) (z:List V) (i:Nat):List (List V):=xs.take i++List.replicate (xs.length - i) z
@[simp] theorem rU (xs : List (List V)) (z : List V) : part xs z 0 = List.replicate xs.length z := by simp [part]
theorem fL (xs:List (List V)) (z:List V) (i:Nat) (h:xs.length≤i):part xs z i=xs:=by simp[part,List.take_of_length_le h,Nat.sub_eq_zero_of_le h]
theorem tJ (xs:List (List V)) (z:List V) (i:Nat):(part xs z i).length=xs.length:=by simp[part];omega
theorem eI (xs:List (List V)) (z:List V) (i:Nat) (h:i<xs.length):(part xs z i)[i]? =some z:=by
 unfold part
 rw[List.getElem?_append_right (by simp;omega)]
 rw[List.getElem?_replicate,if_pos (by simp;omega)]
theorem cE (xs:List (List V)) (z:List V) (i:Nat) (h:i<xs.length) (x:List V) (hx:x=xs[i]):(part xs z i).set i x=part xs z (i+1):=by
 subst hx
 apply List.ext_getElem?
 intro j
 have hz: ∀k,k≤xs.length→ ∀j,(part xs z k)[j]? =if j<k then xs[j]? else if j<xs.length then some z else none:=by
  intro k hk j
  unfold part
  by_cases hj:j<k
  ·rw[if_pos hj,List.getElem?_append_left (by simp;omega),List.getElem?_take_of_lt hj]
  ·rw[if_neg hj,List.getElem?_append_right (by simp;omega),List.getElem?_replicate]
   simp only[List.length_take]
   by_cases h2:j<xs.length
   ·rw[if_pos (by omega),if_pos h2]
   ·rw[if_neg (by omega),if_neg h2]
 rw[List.getElem?_set,hz i (by omega),hz (i+1) (by omega),tJ]
 by_cases hij:i=j
 ·subst hij;simp[h]
 ·rw[if_neg hij]
  by_cases h1:j<i
  ·simp[h1,show j<i+1 by omega]
  ·simp[h1,show ¬ j<i+1 by omega]
theorem cM {bl bl0:Int→Option Blk} {g:Int} {sz n:Nat} {els:List (List V)} (hg0:0≤g) (hg:bl0 g=none) (hb:bl g=some ⟨sz,els⟩) (hn:els.length=n) (hcl:els.all (fun e=>e.all V.cl)=true):frz (dropB bl bl0) 1 (.lsl g sz 0 n)=some (.sl els):=by
 subst hn
 unfold frz
 rw[if_neg (by omega)]
 unfold dropB
 rw[hg]
 simp only[hb]
 rw[if_pos (by simp),List.drop_zero,List.take_length,if_pos hcl]
theorem sub_eq {bl bl':Int→Option Blk} (h:bl'=bl):Sub bl bl':=by rw[h];exact Sub.refl _
def qval (P:Program) (blK:Int→Option Blk) (σ:St):Op→Option V
 | .move x => some (σ.ev x)
 | .assign x => some (σ.ev x)
 | .pick c a b => match σ.ev c with | .bool t => some (pickV t (σ.ev a) (σ.ev b)) | _ => none
 | .load t x => match rdP blK (σ.ev x) with | some cs => loadV P t cs | none => none
 | .nilCheck x => Q1 (σ.ev x)
 | .binOp op t x y _ => binV P op t (σ.ev x) (σ.ev y)
 | .unOp op _ x => unV op (σ.ev x)
 | .convert s d x => cvtV P blK s d (σ.ev x)
 | .slice t x lo hi none => sliV P t (σ.ev x) (lo.map σ.ev) (hi.map σ.ev)
 | .fieldAddr t x i => fldV P t i (σ.ev x)
 | .field t x i => fieldV P t i (σ.ev x)
 | .indexAddr t x i => idxV P t (σ.ev x) (σ.ev i)
 | .index t x i => idsV P t (σ.ev x) (σ.ev i)
 | .extract x i => extV i (σ.ev x)
 | .makeFunc (.func f) first cap => if first = #[] then some (.fn f (cap.toList.map σ.ev)) else none
 | .call c => match c.callee with
   | .builtin .len=>if c.args.size=1∧c.argTypes.size=1 then lenV P (c.argTypes.getD 0 0) (σ.ev (c.args.getD 0 (.const undef))) else none
   | _=>none
 | _ => none
theorem Ao {P:Program} {blK:Int→Option Blk} {o:Oper} {σ:St} {v:V} (h:qval P blK σ o.op=some v):SV P blK o σ v:=by
 have e: ∀x,(σ.fH blK).ev x=σ.ev x:=eN σ blK
 unfold qval at h
 cases ho:o.op<;>rw[ho] at h<;>(try simp only at h)<;>try (cases h;done)
 case move x=>cases h;exact .inl ⟨by rw[ho];rfl,by unfold T;rw[ho];simp only[e]⟩
 case assign x=>cases h;exact .inl ⟨by rw[ho];rfl,by unfold T;rw[ho];simp only[e]⟩
 case pick c a b=>
  split at h
  ·rename_i t hc;cases h;exact .inl ⟨by rw[ho];rfl,by unfold T;rw[ho];simp only[e,hc,L3]⟩
  ·cases h
 case load t x=>
  split at h
  ·rename_i cs hcs;exact .inl ⟨by rw[ho];rfl,by unfold T;rw[ho];simp only[e];exact⟨cs,hcs,v,h,rfl⟩⟩
  ·cases h
 case nilCheck x=>exact .inl ⟨by rw[ho];rfl,by unfold T;rw[ho];simp only[e];exact⟨v,h,rfl⟩⟩
 case binOp=>exact .inl ⟨by rw[ho];rfl,by unfold T;rw[ho];simp only[e];exact⟨v,h,rfl⟩⟩
 case unOp=>exact .inl ⟨by rw[ho];rfl,by unfold T;rw[ho];simp only[e];exact⟨v,h,rfl⟩⟩
 case convert=>exact .inl ⟨by rw[ho];rfl,by unfold T;rw[ho];simp only[e];exact⟨v,h,rfl⟩⟩
 case fieldAddr=>exact .inl ⟨by rw[ho];rfl,by unfold T;rw[ho];simp only[e];exact⟨v,h,rfl⟩⟩
 case field=>exact .inl ⟨by rw[ho];rfl,by unfold T;rw[ho];simp only[e];exact⟨v,h,rfl⟩⟩
 case indexAddr=>exact .inl ⟨by rw[ho];rfl,by unfold T;rw[ho];simp only[e];exact⟨v,h,rfl⟩⟩
 case index=>exact .inl ⟨by rw[ho];rfl,by unfold T;rw[ho];simp only[e];exact⟨v,h,rfl⟩⟩
 case extract=>exact .inl ⟨by rw[ho];rfl,by unfold T;rw[ho];simp only[e];exact⟨v,h,rfl⟩⟩
 case slice t x lo hi mx=>
  cases mx<;>simp only at h<;>try (cases h;done)
  have e1:lo.map (σ.fH blK).ev=lo.map σ.ev:=by cases lo<;>simp[eN]
  have e2:hi.map (σ.fH blK).ev=hi.map σ.ev:=by cases hi<;>simp[eN]
  exact .inl ⟨by rw[ho];rfl,by unfold T;rw[ho];simp only[e,e1,e2];exact⟨v,h,rfl⟩⟩
 case makeFunc f first cap=>
  cases f<;>simp only at h<;>try (cases h;done)
  split at h
  ·rename_i hf
   cases h
   have:(cap.toList.map (σ.fH blK).ev)=cap.toList.map σ.ev:=List.map_congr_left fun x _=>e x
   exact .inl ⟨by rw[ho];rfl,by unfold T;rw[ho];simp only[this];exact⟨hf,trivial⟩⟩
  ·cases h
 case call c=>
  split at h
  ·rename_i hc
   split at h
   ·rename_i hs
    refine .inl ⟨?_,?_⟩
    ·rw[ho];obtain⟨cal,args,ats⟩:=c;simp only at hc;subst hc;rfl
    ·unfold T;rw[ho];simp only[hc,e];exact⟨v,h,hs.1,hs.2,rfl⟩
   ·cases h
  ·cases h
def HoistF (P:Program) (ds:List (Option Tmp)) (blK:Int→Option Blk):List Oper→(St→Prop)→St→Prop
 | [], K, σ => K σ
 | o :: rest, K, σ => match o.guard with
   | none=>match o.op with
     | .call ⟨.value f,args,_⟩=>aY (callV σ f args.toList) fun p=> ∃v n ys,((frzL blK n p.2=some ys∧RO P p.1 ys v∧v.sc=true)∨RL P blK p.1 p.2 v)∧HoistF P ds blK rest K (σ.put o.dst v)
     | op=>aY (qval P blK σ op) fun v=>HoistF P ds blK rest K (σ.put o.dst v)
   | some (j,b)=>match ds[j]? with
     | some (some d)=>match σ.ev (.tmp d) with
       | .bool q=>if q=b then aY (qval P blK σ o.op) fun v=>HoistF P ds blK rest K (σ.put o.dst v) else HoistF P ds blK rest K (σ.put o.dst (.tup []))
       | .tup []=>HoistF P ds blK rest K (σ.put o.dst (.tup []))
       | _=>False
     | _=>False
def hoQ (P:Program) (ds:List (Option Tmp)) (blK:Int→Option Blk) (rest:List Oper) (K:St→Prop) (σ:St) (d:Option Tmp) (o:Option V):Prop:=aY o fun v=>HoistF P ds blK rest K (σ.put d v)
def hcQ (P:Program) (ds:List (Option Tmp)) (blK:Int→Option Blk) (rest:List Oper) (K:St→Prop) (σ:St) (d:Option Tmp) (o:Option (FuncId×List V)):Prop:=aY o fun p=> ∃v n ys,((frzL blK n p.2=some ys∧RO P p.1 ys v∧v.sc=true)∨RL P blK p.1 p.2 v)∧HoistF P ds blK rest K (σ.put d v)
section
variable (P : Program) (ds : List (Option Tmp)) (blK : Int → Option Blk) (rest : List Oper) (K : St → Prop) (σ : St) (d : Option Tmp) (ty : TypeId) (pos : String) (af : Array Edge)
@[simp] theorem xQ : HoistF P ds blK [] K σ = K σ := rfl
@[simp] theorem Pq (f : Operand) (args : Array Operand) (ats : Array TypeId) : HoistF P ds blK (⟨d, .call ⟨.value f, args, ats⟩, ty, pos, af, none⟩ :: rest) K σ = hcQ P ds blK rest K σ d (callV σ f args.toList) := rfl
@[simp] theorem Uw (x : Operand) (t : TypeId) : HoistF P ds blK (⟨d, .call ⟨.builtin .len, #[x], #[t]⟩, ty, pos, af, none⟩ :: rest) K σ = hoQ P ds blK rest K σ d (lenV P t (σ.ev x)) := rfl
@[simp] theorem Pt (x : Operand) : HoistF P ds blK (⟨d, .move x, ty, pos, af, none⟩ :: rest) K σ = HoistF P ds blK rest K (σ.put d (σ.ev x)) := bP _ _
@[simp] theorem Lf (x : Operand) : HoistF P ds blK (⟨d, .assign x, ty, pos, af, none⟩ :: rest) K σ = HoistF P ds blK rest K (σ.put d (σ.ev x)) := bP _ _
@[simp] theorem Qp (c a b : Operand) : HoistF P ds blK (⟨d, .pick c a b, ty, pos, af, none⟩ :: rest) K σ = hoQ P ds blK rest K σ d (qval P blK σ (.pick c a b)) := rfl
@[simp] theorem Qq (t : TypeId) (x : Operand) : HoistF P ds blK (⟨d, .load t x, ty, pos, af, none⟩ :: rest) K σ = hoQ P ds blK rest K σ d (qval P blK σ (.load t x)) := rfl
@[simp] theorem Ei (x : Operand) : HoistF P ds blK (⟨d, .nilCheck x, ty, pos, af, none⟩ :: rest) K σ = hoQ P ds blK rest K σ d (Q1 (σ.ev x)) := rfl
@[simp] theorem Mp (op : BinOp) (t : TypeId) (x y : Operand) (t' : TypeId) : HoistF P ds blK (⟨d, .binOp op t x y t', ty, pos, af, none⟩ :: rest) K σ = hoQ P ds blK rest K σ d (binV P op t (σ.ev x) (σ.ev y)) := rfl
@[simp] theorem Qt (op : UnOp) (t : TypeId) (x : Operand) : HoistF P ds blK (⟨d, .unOp op t x, ty, pos, af, none⟩ :: rest) K σ = hoQ P ds blK rest K σ d (unV op (σ.ev x)) := rfl
@[simp] theorem Ka (s t : TypeId) (x : Operand) : HoistF P ds blK (⟨d, .convert s t x, ty, pos, af, none⟩ :: rest) K σ = hoQ P ds blK rest K σ d (cvtV P blK s t (σ.ev x)) := rfl
@[simp] theorem No (t : TypeId) (x : Operand) (lo hi : Option Operand) : HoistF P ds blK (⟨d, .slice t x lo hi none, ty, pos, af, none⟩ :: rest) K σ = hoQ P ds blK rest K σ d (sliV P t (σ.ev x) (lo.map σ.ev) (hi.map σ.ev)) := rfl
@[simp] theorem Ds (t : TypeId) (x : Operand) (i : Nat) : HoistF P ds blK (⟨d, .fieldAddr t x i, ty, pos, af, none⟩ :: rest) K σ = hoQ P ds blK rest K σ d (fldV P t i (σ.ev x)) := rfl
@[simp] theorem Lo (t : TypeId) (x : Operand) (i : Nat) : HoistF P ds blK (⟨d, .field t x i, ty, pos, af, none⟩ :: rest) K σ = hoQ P ds blK rest K σ d (fieldV P t i (σ.ev x)) := rfl
@[simp] theorem Dx (t : TypeId) (x i : Operand) : HoistF P ds blK (⟨d, .indexAddr t x i, ty, pos, af, none⟩ :: rest) K σ = hoQ P ds blK rest K σ d (idxV P t (σ.ev x) (σ.ev i)) := rfl
@[simp] theorem Ls (t : TypeId) (x i : Operand) : HoistF P ds blK (⟨d, .index t x i, ty, pos, af, none⟩ :: rest) K σ = hoQ P ds blK rest K σ d (idsV P t (σ.ev x) (σ.ev i)) := rfl
@[simp] theorem Ii (x : Operand) (i : Nat) : HoistF P ds blK (⟨d, .extract x i, ty, pos, af, none⟩ :: rest) K σ = hoQ P ds blK rest K σ d (extV i (σ.ev x)) := rfl
@[simp] theorem aCU (v : V) : hoQ P ds blK rest K σ d (some v) = HoistF P ds blK rest K (σ.put d v) := bP _ _
@[simp high] theorem aK3 (c : Prop) [Decidable c] (o : Option V) : hoQ P ds blK rest K σ d (if c then o else none) = (c ∧ hoQ P ds blK rest K σ d o) := O9 c o
end
theorem aO {P:Program} {ds:List (Option Tmp)} {blK:Int→Option Blk} {rest:List Oper} {K:St→Prop} {σ:St} {d:Option Tmp} {f:FuncId} {xs:List V} {v:V} (h:RO P f xs v) (hK:HoistF P ds blK rest K (σ.put d v)):hcQ P ds blK rest K σ d (some (f,xs)):=
 ⟨_,rfl,v,0,[],.inr (aCS h),hK⟩
theorem O6 {P:Program} {ops:Array Oper} {blK:Int→Option Blk} {K:St→Prop} : ∀(l:List Oper) (k:Nat) (σ:St),(∀j,l[j]? =ops[k+j]?)→HoistF P (ops.toList.map (·.dst)) blK l K σ→Hoist P ops blK (List.range' k l.length) K σ
 | [], k, σ, _, h => h
 | o :: rest, k, σ, hl, h => by
   have h0:ops[k]? =some o:=by simpa using (hl 0).symm
   have ih:=fun σ' (h':HoistF P (ops.toList.map (·.dst)) blK rest K σ')=>O6 rest (k+1) σ' (fun j=>by have:=hl (j+1);simpa [Nat.add_assoc,Nat.add_comm 1 j] using this) h'
   have hds: ∀(j:Nat) d,(ops.toList.map (·.dst))[j]? =some (some d)→(ops[j]?).bind (·.dst)=some d:=by
    intro j d hd
    rw[List.getElem?_map,Array.getElem?_toList] at hd
    rcases h:ops[j]? with _ | o
    ·rw[h] at hd;cases hd
    ·rw[h] at hd;simpa using hd
   show Hoist P ops blK (k::List.range' (k+1) rest.length) K σ
   unfold Hoist
   rw[h0]
   simp only
   have plain:aY (qval P blK σ o.op) (fun v=>HoistF P (ops.toList.map (·.dst)) blK rest K (σ.put o.dst v))→ ∃v,SV P blK o σ v∧Hoist P ops blK (List.range' (k+1) rest.length) K (σ.put o.dst v):=by
    rintro⟨v,h1,h2⟩
    exact⟨v,Ao h1,ih _ h2⟩
   unfold HoistF at h
   unfold DY
   split at h
   ·rename_i hg
    simp only[hg]
    split at h
    ·rename_i f args ats hop
     obtain⟨p,hp,v,n,ys,h1,h4⟩:=h
     exact⟨v,.inr ⟨_,f,p,n,ys,hop,rfl,hp,h1⟩,ih _ h4⟩
    ·exact plain h
   ·rename_i j b hg
    simp only[hg]
    split at h
    ·rename_i d hd
     rw[hds j d hd]
     simp only
     split at h
     ·rename_i q hq
      rw[hq]
      split at h
      ·rename_i hqb
       obtain⟨v,h1,h2⟩:=plain h
       exact⟨v,⟨fun _=>h1,fun hh=>by subst hqb;cases q<;>cases hh⟩,h2⟩
      ·rename_i hqb
       exact⟨.tup [],⟨fun hh=>absurd hh hqb,fun _=>rfl⟩,ih _ h⟩
     ·rename_i hq
      rw[hq]
      exact⟨.tup [],rfl,ih _ h⟩
     ·exact h.elim
    ·exact h.elim
theorem iO {P:Program} {ops:Array Oper} {blK:Int→Option Blk} {K:St→Prop} : ∀(l:List Oper) (is:List Nat) (σ:St),l.map some=is.map (fun i=>ops[i]?)→HoistF P (ops.toList.map (·.dst)) blK l K σ→Hoist P ops blK is K σ
 | [], is, σ, hl, h => by
   cases is with
   | nil=>exact h
   | cons i is=>cases hl
 | o :: rest, [], σ, hl, h => by cases hl
 | o :: rest, k :: is, σ, hl, h => by
   have h0:ops[k]? =some o:=(List.cons.inj hl).1.symm
   have ih:=fun σ' (h':HoistF P (ops.toList.map (·.dst)) blK rest K σ')=>iO rest is σ' (List.cons.inj hl).2 h'
   have hds: ∀(j:Nat) d,(ops.toList.map (·.dst))[j]? =some (some d)→(ops[j]?).bind (·.dst)=some d:=by
    intro j d hd
    rw[List.getElem?_map,Array.getElem?_toList] at hd
    rcases h:ops[j]? with _ | o
    ·rw[h] at hd;cases hd
    ·rw[h] at hd;simpa using hd
   unfold Hoist
   rw[h0]
   simp only
   have plain:aY (qval P blK σ o.op) (fun v=>HoistF P (ops.toList.map (·.dst)) blK rest K (σ.put o.dst v))→ ∃v,SV P blK o σ v∧Hoist P ops blK is K (σ.put o.dst v):=by
    rintro⟨v,h1,h2⟩
    exact⟨v,Ao h1,ih _ h2⟩
   unfold HoistF at h
   unfold DY
   split at h
   ·rename_i hg
    simp only[hg]
    split at h
    ·rename_i f args ats hop
     obtain⟨p,hp,v,n,ys,h1,h4⟩:=h
     exact⟨v,.inr ⟨_,f,p,n,ys,hop,rfl,hp,h1⟩,ih _ h4⟩
    ·exact plain h
   ·rename_i j b hg
    simp only[hg]
    split at h
    ·rename_i d hd
     rw[hds j d hd]
     simp only
     split at h
     ·rename_i q hq
      rw[hq]
      split at h
      ·rename_i hqb
       obtain⟨v,h1,h2⟩:=plain h
       exact⟨v,⟨fun _=>h1,fun hh=>by subst hqb;cases q<;>cases hh⟩,h2⟩
      ·rename_i hqb
       exact⟨.tup [],⟨fun hh=>absurd hh hqb,fun _=>rfl⟩,ih _ h⟩
     ·rename_i hq
      rw[hq]
      exact⟨.tup [],rfl,ih _ h⟩
     ·exact h.elim
    ·exact h.elim
theorem filter_some {ops:Array Oper} : ∀(is:List Nat),is.all (fun i=>decide (i<ops.size))=true→(is.filterMap fun i=>ops[i]?).map some=is.map (fun i=>ops[i]?)
 | [], _ => rfl
 | i :: is, h => by
   simp only[List.all_cons,Bool.and_eq_true,decide_eq_true_eq] at h
   have ih:=filter_some is h.2
   rw[List.filterMap_cons]
   simp only[Array.getElem?_eq_getElem h.1,List.map_cons]
   rw[ih]
theorem J7 {P:Program} {id:Nat} {ops:Array Oper} {K:Ex→St→Prop} {σ:St} (hm:P.follows .mixedOrders=true) (is:List Nat) (fuel:Nat) (hn:(ops.size==fuel+is.length && is.all (fun i=>decide (i<ops.size))&& hoistB ops is (Array.replicate ops.size false))=true)
  (h:HoistF P (ops.toList.map (·.dst)) σ.bl (is.filterMap fun i=>ops[i]?) (iM P ops σ.bl (fun _=>false) (K .normal) fuel (gA is (Array.replicate ops.size false))) σ):AW P (.region id ops true) K σ:=by
 simp only[Bool.and_eq_true,beq_iff_eq] at hn
 exact iH hm is fuel σ.bl (Sub.refl _) hn.1.1 hn.2 (tl:=fun _=>false) (fun _ _ _ _ h=>by cases h) (iO _ is σ (filter_some is hn.1.2) h)
theorem cL {P:Program} {id:Nat} {ops:Array Oper} {K:Ex→St→Prop} {σ:St} (hm:P.follows .mixedOrders=true) (is:List Nat) (fuel n:Nat) (hn:(ops.size==fuel+is.length && is.all (fun i=>decide (i<ops.size))&& hoistB ops is (Array.replicate ops.size false)&& yO ops (fun j=>decide (n≤j)) is)=true)
  (h:HoistF P (ops.toList.map (·.dst)) σ.bl (is.filterMap fun i=>ops[i]?) (iM P ops σ.bl (fun j=>decide (n≤j)) (K .normal) fuel (gA is (Array.replicate ops.size false))) σ):AW P (.region id ops true) K σ:=by
 simp only[Bool.and_eq_true,beq_iff_eq] at hn
 exact iH hm is fuel σ.bl (Sub.refl _) hn.1.1.1 hn.1.2 (tl:=fun j=>decide (n≤j)) (jC hn.2) (iO _ is σ (filter_some is hn.1.1.2) h)
section
variable {P : Program} {ops : Array Oper} {blK : Int → Option Blk} {tl : Nat → Bool} {K : St → Prop} {fuel : Nat} {l : Array Bool} {σ : St}
theorem Cs (hr:Region.ready .any ops l= []) (h:K σ):iM P ops blK tl K fuel l σ:=by
 cases fuel with
 | zero => exact ⟨hr, h⟩
 | succ n => exact ⟨fun _ => h, fun i hi => by rw [hr] at hi; cases hi⟩
theorem rC {i:Nat} {o:Oper} (hr:Region.ready .any ops l= [i]) (ho:ops[i]? =some o) (hg:o.guard=none) (h:T P o (fun σ'=>Sub blK σ'.bl∧iM P ops blK tl K fuel (l.setIfInBounds i true) σ') σ):iM P ops blK tl K (fuel+1) l σ:=by
 refine⟨fun h0=>(by rw[hr] at h0;cases h0),fun j hj=> ?_⟩
 rw[hr] at hj
 obtain rfl:j=i:=by simpa using hj
 unfold D1;rw[ho];simp only[hg];exact gW h fun _ ⟨h1,h2⟩=>⟨fun _=>h1,h2⟩
theorem bX {i:Nat} {o:Oper} (hr:Region.ready .any ops l= [i]) (ho:ops[i]? =some o) (hg:o.guard=none) (ht:tl i=true) (h:T P o (fun σ'=>iM P ops blK tl K fuel (l.setIfInBounds i true) σ') σ):iM P ops blK tl K (fuel+1) l σ:=by
 refine⟨fun h0=>(by rw[hr] at h0;cases h0),fun j hj=> ?_⟩
 rw[hr] at hj
 obtain rfl:j=i:=by simpa using hj
 unfold D1;rw[ho];simp only[hg];exact gW h fun _ h2=>⟨fun hh=>(by rw[ht] at hh;cases hh),h2⟩
theorem vI {i j:Nat} {o o':Oper} (hr:Region.ready .any ops l= [i,j]) (ho:ops[i]? =some o) (hg:o.guard=none) (ho':ops[j]? =some o') (hg':o'.guard=none)
  (h:T P o (fun σ'=>Sub blK σ'.bl∧iM P ops blK tl K fuel (l.setIfInBounds i true) σ') σ) (h':T P o' (fun σ'=>Sub blK σ'.bl∧iM P ops blK tl K fuel (l.setIfInBounds j true) σ') σ):iM P ops blK tl K (fuel+1) l σ:=by
 refine⟨fun h0=>(by rw[hr] at h0;cases h0),fun k hk=> ?_⟩
 rw[hr] at hk
 rcases List.mem_cons.1 hk with rfl | hk
 ·unfold D1;rw[ho];simp only[hg];exact gW h fun _ ⟨h1,h2⟩=>⟨fun _=>h1,h2⟩
 ·obtain rfl:k=j:=by simpa using hk
  unfold D1;rw[ho'];simp only[hg'];exact gW h' fun _ ⟨h1,h2⟩=>⟨fun _=>h1,h2⟩
end
def V5 (ops:Array Oper):Bool:=hoistB ops (List.range ops.size) (Array.replicate ops.size false)&& (Region.ready .any ops (gA (List.range ops.size) (Array.replicate ops.size false))).isEmpty
theorem bQ {P:Program} {id:Nat} {ops:Array Oper} {K:Ex→St→Prop} {σ:St} (hm:P.follows .mixedOrders=true) (hB:V5 ops=true)
  (h:HoistF P (ops.toList.map (·.dst)) σ.bl ops.toList (K .normal) σ):AW P (.region id ops true) K σ:=by
 simp only[V5,Bool.and_eq_true,List.isEmpty_iff] at hB
 refine yG hm hB.1 hB.2 ?_
 have:=O6 ops.toList 0 σ (fun j=>by simp) h
 rw[List.range_eq_range',←Array.length_toList]
 exact this
def hv :List (Nat×V)→Nat→V
 | [], _ => .junk
 | (t, v) :: r, x => if x = t then v else hv r x
def Fit (l:List (Nat×V)) (n:Nat) (b:Int→Option Blk) (σ:St):Prop:=σ.n=n∧(∀p,p∈l→σ.sl p.1=p.2)∧Sub b σ.bl
theorem O0 {σ:St} {l:List (Nat×V)} {n:Nat} {b:Int→Option Blk} (h:Fit l n b σ):Le σ ⟨n,hv l,b⟩:=by
 obtain⟨hn,hl,hb⟩:=h
 refine⟨hn.symm,fun t _=> ?_,hb⟩
 show hv l t=σ.sl t∨hv l t= .junk
 clear hn hb
 induction l with
 | nil => exact .inr rfl
 | cons p r ih =>
   obtain⟨u,v⟩:=p
   unfold hv
   split
   ·rename_i ht;subst ht;exact .inl (hl (t,v) List.mem_cons_self).symm
   ·exact ih fun p hp=>hl p (List.mem_cons_of_mem _ hp)
theorem gV {P:Program} {c:Code} {K:Ex→St→Prop} {σ:St} (l:List (Nat×V)) (n:Nat) (b:Int→Option Blk) (hf:Fit l n b σ) (h:AW P c K ⟨n,hv l,b⟩):AW P c K σ:=aC5 (O0 hf) h
theorem dN {P:Program} {id:Nat} {ops:Array Oper} {K:Ex→St→Prop} {σ:St} (l:List (Nat×V)) (n:Nat) (bl:Int→Option Blk) (t:Nat) (v:V) (bl':Int→Option Blk) (hf:Fit l n bl σ) (hd:(l.all fun p=> !(ops.toList.map (·.dst)).contains (some p.1))=true)
  (h1:OpsF P (ops.toList.map (·.dst)) ops.toList (fun σ'=>σ'.sl t=v∧σ'.bl=bl') ⟨n,hv l,bl⟩) (h2:K .normal ⟨n,hv ((t,v)::l),bl'⟩):AW P (.region id ops false) K σ:=by
 refine gV l n bl hf ?_
 have hk:jn (hv l) (ops.toList.map (·.dst)) t v=hv ((t,v)::l):=by
  funext x
  show(if x=t then v else if _ then _ else _)=if x=t then v else hv l x
  split
  ·rfl
  ·split
   ·rename_i hx hc
    have: ∀l:List (Nat×V),(l.all fun p=> !(ops.toList.map (·.dst)).contains (some p.1))=true→hv l x= .junk:=by
     intro l
     induction l with
     | nil => intro _; rfl
     | cons p r ih =>
       obtain⟨u,y⟩:=p
       intro ha
       simp only[List.all_cons,Bool.and_eq_true] at ha
       unfold hv
       rw[if_neg (by rintro rfl;rw[hc] at ha;exact absurd ha.1 (by simp)),ih ha.2]
    exact(this l hd).symm
   ·rfl
 refine Ns t v bl' (sB h1) ?_
 rw[hk];exact h2
def Z3 {α:Type} (S:α→List (Nat×V)) (B:α→Int→Option Blk) (I:α→Prop) (μ:α→Nat) (n m:Nat) (K:Ex→St→Prop):Ex→St→Prop
 | .normal, σ => ∃ a, I a ∧ μ a < m ∧ Fit (S a) n (B a) σ
 | e, σ => K e σ
theorem aK {α:Type} {P:Program} {c:Code} {K:Ex→St→Prop} {σ:St} (S:α→List (Nat×V)) (B:α→Int→Option Blk) (I:α→Prop) (μ:α→Nat) (n:Nat) (a0:α) (h0:I a0) (hσ:Fit (S a0) n (B a0) σ)
  (round: ∀a,I a→AW P c (Z3 S B I μ n (μ a) K) ⟨n,hv (S a),B a⟩):AW P (.loop c) K σ:=by
 intro w0 M F a w hs
 have hs:=hs.le (O0 hσ)
 intro b k cs
 have key: ∀m (x:α) F1 a w,μ x=m→I x→(∀b,F b→F1 b)→Sim w0 M F1 ⟨n,hv (S x),B x⟩ a w→
   ∃e a' w',C3 w0 M F K e a' w'∧Arrives P (lone (b.at a (.code c:: .inLoop c::k)) cs w) b k cs e a' w':=by
  intro m
  induction m using Nat.strongRecOn with
  | _ m ih =>
    intro x F1 a w hm hI hF hs
    obtain⟨e,a₁,w₁,hq,Gy⟩:=round x hI w0 M F1 a w hs b (.inLoop c::k) cs
    obtain⟨ex,σ1,F2,rfl,hF2,hs1,hK⟩:=hq
    cases ex with
    | normal=>
      obtain⟨y,hI2,hlt,xX⟩:=hK
      have Fs:=O0 xX
      obtain⟨e₂,a₂,w₂,hq₂,aHD⟩:=ih (μ y) (hm▸hlt) y F2 a₁ w₁ rfl hI2 (fun b hb=>hF2 b (hF b hb)) (hs1.le Fs)
      exact⟨e₂,a₂,w₂,hq₂,.of_steps (Steps.trans Gy (.one step_inLoop)) aHD⟩
    | exit id=>exact⟨.exit id,a₁,w₁,⟨.exit id,σ1,F2,rfl,fun b hb=>hF2 b (hF b hb),hs1,hK⟩,.pass (x:= .inLoop c) rfl (fun _ _=> .inl (by simp)) Gy⟩
    | ret=>exact⟨.ret,a₁,w₁,⟨.ret,σ1,F2,rfl,fun b hb=>hF2 b (hF b hb),hs1,hK⟩,.pass (x:= .inLoop c) rfl (fun _ _=> .inl (by simp)) Gy⟩
 obtain⟨e,a',w',hq,Gy⟩:=key _ a0 F a w rfl h0 (fun _ h=>h) hs
 exact⟨e,a',w',hq,.of_steps (.one step_loop) Gy⟩
theorem aB {α:Type} (S:α→List (Nat×V)) (B:α→Int→Option Blk) (I:α→Prop) (μ:α→Nat) (n m:Nat) (K:Ex→St→Prop) (σ:St):Z3 S B I μ n m K .normal σ= ∃a,I a∧μ a<m∧Fit (S a) n (B a) σ:=rfl
theorem T7 {α:Type} (S:α→List (Nat×V)) (B:α→Int→Option Blk) (I:α→Prop) (μ:α→Nat) (n m:Nat) (K:Ex→St→Prop) (i:Nat) (σ:St):Z3 S B I μ n m K (.exit i) σ=K (.exit i) σ:=rfl
theorem Ct {α:Type} (S:α→List (Nat×V)) (B:α→Int→Option Blk) (I:α→Prop) (μ:α→Nat) (n m:Nat) (K:Ex→St→Prop) (σ:St):Z3 S B I μ n m K .ret σ=K .ret σ:=rfl
section
variable {P : Program} {σ : St} {K : Ex → St → Prop}
def ROk (bl:Int→Option Blk) (r:V) (v:V) (bl':Int→Option Blk):Prop:= ∃n,frz (dropB bl' bl) n v=some r∧Sub bl bl'
theorem aI {f : FuncId} {fn : Func} {c : Code} {xs : List V} {r : V} (hf : P.funcs[f]? = some fn) (hb : fn.body = some c) (hn : (fn.name == "runtime.NumGoroutine") = false) (hl : xs.length ≤ fn.ntmps)
  (h: ∀bl,AW P c (B9 P fn.results.toList (ROk bl r)) ⟨fn.ntmps,fun t=>xs.getD t .junk,bl⟩):RO P f xs r:=aE3 hf hb hn hl h
theorem aN {rs:List ResultVar} {bl:Int→Option Blk} {r:V} (vs:List V) (n:Nat) (h:resV P σ rs=some vs) (hf:frz (dropB σ.bl bl) n (retV vs)=some r) (hs:Sub bl σ.bl):
  B9 P rs (ROk bl r) .ret σ:=by rw[aX];exact⟨vs,h,n,hf,hs⟩
theorem aM {rs:List ResultVar} {bl:Int→Option Blk} {r:V} (h:resV P σ rs=some [r]) (hb:σ.bl=bl) (hf:frz (dropB bl bl) 0 r=some r):B9 P rs (ROk bl r) .ret σ:=
 aN [r] 0 h (by rw[hb];exact hf) (by rw[hb];exact Sub.refl _)
end
attribute [simp] St.ev St.put J5 Cr Ft yB tK W6 F4 X6 Bs ofValue ofCell retV resV rdP loadV pickV intV binV unV lenV Q1 fldV idxV idsV zM fieldV extV cvtV callV frzL jn fillV splice
attribute [simp] Ig eqA eqV eq1 qval aA hv T7 Ct
@[simp] theorem Vb  : V.cells .junk = [.junk] := rfl
@[simp] theorem aER  : V.one .junk = false := rfl
@[simp] theorem Vu (b : Bool) : V.cells (.bool b) = [.bool b] := rfl
@[simp] theorem aFW (b : Bool) : V.one (.bool b) = true := rfl
@[simp] theorem Xi (k : IntKind) (n : Int) : V.cells (.int k n) = [.int k n] := rfl
@[simp] theorem aIP (k : IntKind) (n : Int) : V.one (.int k n) = true := rfl
@[simp] theorem Yt (s : ByteArray) : V.cells (.str s) = [.str s] := rfl
@[simp] theorem aIE (s : ByteArray) : V.one (.str s) = true := rfl
@[simp] theorem Tv  : V.cells .nilp = [.nilp] := rfl
@[simp] theorem aC1  : V.one .nilp = true := rfl
@[simp] theorem aAR (cs : List V) : V.cells (.ptr cs) = [.ptr cs] := rfl
@[simp] theorem aIN (cs : List V) : V.one (.ptr cs) = true := rfl
@[simp] theorem Rq  : V.cells .nils = [.nils] := rfl
@[simp] theorem aF9  : V.one .nils = true := rfl
@[simp] theorem aAF  : V.cells .sle = [.sle] := rfl
@[simp] theorem aIZ  : V.one .sle = true := rfl
@[simp] theorem aD5 (xs : List (List V)) : V.cells (.sl xs) = [.sl xs] := rfl
@[simp] theorem aMM (xs : List (List V)) : V.one (.sl xs) = true := rfl
@[simp] theorem Ys (g : Int) (sz k j : Nat) : V.cells (.loc g sz k j) = [.loc g sz k j] := rfl
@[simp] theorem aH0 (g : Int) (sz k j : Nat) : V.one (.loc g sz k j) = true := rfl
@[simp] theorem Xk (g : Int) (sz o n : Nat) : V.cells (.lsl g sz o n) = [.lsl g sz o n] := rfl
@[simp] theorem aJH (g : Int) (sz o n : Nat) : V.one (.lsl g sz o n) = true := rfl
@[simp] theorem aAW (cs : List V) : V.cells (.agg cs) = cs := rfl
@[simp] theorem aHM (cs : List V) : V.one (.agg cs) = false := rfl
@[simp] theorem Xs (vs : List V) : V.cells (.tup vs) = [.tup vs] := rfl
@[simp] theorem aI2 (vs : List V) : V.one (.tup vs) = false := rfl
@[simp] theorem aCQ (f : FuncId) (cap : List V) : V.cells (.fn f cap) = [.fn f cap] := rfl
@[simp] theorem aLV (f : FuncId) (cap : List V) : V.one (.fn f cap) = true := rfl
section
variable {P : Program} {ops : Array Oper} {blK : Int → Option Blk} {tl : Nat → Bool} {K : St → Prop} {fuel : Nat} {l : Array Bool} {σ : St}
theorem Dz (i:Nat) {o:Oper} (h:T P o (fun σ'=>Sub blK σ'.bl∧iM P ops blK tl K fuel (l.setIfInBounds i true) σ') σ) (hr:Region.ready .any ops l= [i]:=by kernel_rfl) (ho:ops[i]? =some o:=by exact rfl) (hg:o.guard=none:=by exact rfl):iM P ops blK tl K (fuel+1) l σ:=rC hr ho hg h
end
section
variable {P : Program} {ops : Array Oper} {blK : Int → Option Blk} {tl : Nat → Bool} {K : St → Prop} {fuel : Nat} {l : Array Bool} {σ : St}
theorem Dy (h:K σ) (hr:Region.ready .any ops l= []:=by kernel_rfl):iM P ops blK tl K fuel l σ:=Cs hr h
end
end Go.Proofs.YticmgmemnpcbbaaGreat.Vm

namespace Go.Proofs.YticmgmemnpcbbaaGreat.Vm
set_option linter.unusedSimpArgs false
set_option linter.unusedVariables false
def LB :Nat:=1000000000
theorem gU :0<LB:=by decide
def lim (n:Nat):List Int:=if h:n=0 then [] else((n % LB:Nat):Int)::lim (n / LB)
termination_by n
decreasing_by exact Nat.div_lt_self (Nat.pos_of_ne_zero h) (by decide)
def val :List Int→Nat
 | [] => 0
 | d :: ds => d.toNat + LB * val ds
def Dig (l:List Int):Prop:= ∀d,d∈l→0≤d∧d<1000000000
theorem aU :lim 0= []:=by rw[lim,dif_pos rfl]
theorem lQ {n:Nat} (h:n≠0):lim n=((n % LB:Nat):Int)::lim (n / LB):=by rw[lim,dif_neg h]
@[simp] theorem dE (n : Nat) : val (lim n) = n := by
 induction n using Nat.strongRecOn with
 | _ n ih =>
   by_cases h:n=0
   ·subst h;rw[aU];rfl
   ·rw[lQ h,val,ih _ (Nat.div_lt_self (Nat.pos_of_ne_zero h) (by decide)),Int.toNat_natCast,Nat.mod_add_div]
theorem eR (n:Nat):Dig (lim n):=by
 induction n using Nat.strongRecOn with
 | _ n ih =>
   by_cases h:n=0
   ·subst h;rw[aU];intro d hd;cases hd
   ·rw[lQ h]
    intro d hd
    rcases List.mem_cons.1 hd with rfl | hd
    ·have:n % LB<1000000000:=Nat.mod_lt _ gU
     omega
    ·exact ih _ (Nat.div_lt_self (Nat.pos_of_ne_zero h) (by decide)) d hd
theorem At {a b:Nat} (h:lim a=lim b):a=b:=by rw[←dE a,←dE b,h]
@[simp] theorem Sh {a b : Nat} : lim a = lim b ↔ a = b := ⟨At, fun h => by rw [h]⟩
theorem cW {n:Nat} :lim n= [] ↔ n=0:=by rw[←aU,Sh]
theorem Dig.tail {d:Int} {l:List Int} (h:Dig (d::l)):Dig l:=fun x hx=>h x (List.mem_cons_of_mem _ hx)
theorem Dig.append {a b:List Int} :Dig (a++b) ↔ Dig a∧Dig b:=by
 constructor
 ·intro h;exact⟨fun d hd=>h d (List.mem_append_left _ hd),fun d hd=>h d (List.mem_append_right _ hd)⟩
 ·rintro⟨h1,h2⟩ d hd
  rcases List.mem_append.1 hd with hd | hd
  ·exact h1 d hd
  ·exact h2 d hd
theorem fU (a b:List Int):val (a++b)=val a+LB^a.length*val b:=by
 induction a with
 | nil => simp [val]
 | cons d a ih => rw [List.cons_append, val, ih, val, List.length_cons, Nat.pow_succ, Nat.mul_add, Nat.add_assoc, Nat.mul_comm (LB ^ a.length) LB, Nat.mul_assoc]
theorem vD {l:List Int} (h:Dig l):val l<LB^l.length:=by
 induction l with
 | nil => simp [val]
 | cons d l ih =>
   have h1:=h d List.mem_cons_self
   have h2:=ih h.tail
   rw[val,List.length_cons,Nat.pow_succ]
   have:LB*(val l+1)≤LB*LB^l.length:=Nat.mul_le_mul_left _ h2
   have h3:d.toNat<LB:=by unfold LB;omega
   rw[Nat.mul_comm (LB^l.length)]
   rw[Nat.mul_add] at this
   omega
theorem E2 {l:List Int} (h:Dig l) (hz: ∀d,l.getLast? =some d→d≠0):lim (val l)=l:=by
 induction l with
 | nil => exact aU
 | cons d l ih =>
   have h1:=h d List.mem_cons_self
   have hd:d.toNat<LB:=by unfold LB;omega
   have e1:(d.toNat+LB*val l) % LB=d.toNat:=by rw[Nat.add_mul_mod_self_left,Nat.mod_eq_of_lt hd]
   have e2:(d.toNat+LB*val l) / LB=val l:=by rw[Nat.add_mul_div_left _ _ gU,Nat.div_eq_of_lt hd,Nat.zero_add]
   have hl:lim (val l)=l:=ih h.tail fun x hx=>hz x (by
    cases l with
    | nil => cases hx
    | cons y l => rw [List.getLast?_cons_cons]; exact hx)
   have hne:d.toNat+LB*val l≠0:=by
    intro h0
    have hv:val l=0:=by
     have:LB*val l=0:=by omega
     rcases Nat.mul_eq_zero.1 this with h | h
     ·exact absurd h (by decide)
     ·exact h
    rw[hv,aU] at hl
    subst hl
    have:d=0:=by omega
    exact hz d rfl this
   rw[val,lQ hne,e1,e2,hl]
   congr 1
   omega
theorem I3 (n:Nat) (d:Int) (h:(lim n).getLast? =some d):d≠0:=by
 induction n using Nat.strongRecOn generalizing d with
 | _ n ih =>
   by_cases h0:n=0
   ·subst h0;rw[aU] at h;cases h
   ·rw[lQ h0] at h
    have hlt:=Nat.div_lt_self (Nat.pos_of_ne_zero h0) (show 1<LB by decide)
    cases hq:lim (n / LB) with
    | nil =>
      rw[hq] at h
      simp at h
      subst h
      have hq0:=cW.1 hq
      have:=Nat.mod_add_div n LB
      rw[hq0] at this
      omega
    | cons y l =>
      rw[hq,List.getLast?_cons_cons,←hq] at h
      exact ih _ hlt d h
theorem aF {n k:Nat} :(lim n).length≤k ↔ n<LB^k:=by
 constructor
 ·intro h
  have h1:=vD (eR n)
  rw[dE] at h1
  exact Nat.lt_of_lt_of_le h1 (Nat.pow_le_pow_right gU h)
 ·intro h
  induction k generalizing n with
  | zero => have : n = 0 := by simpa using h
            subst this;rw[aU];simp
  | succ k ih =>
    by_cases h0:n=0
    ·subst h0;rw[aU];simp
    ·rw[lQ h0,List.length_cons]
     have:n / LB<LB^k:=by
      rw[Nat.div_lt_iff_lt_mul gU,←Nat.pow_succ];exact h
     have:=ih this
     omega
theorem jW {a b:Nat} (h:(lim a).length<(lim b).length):a<b:=by
 have h1:a<LB^(lim a).length:=aF.1 (Nat.le_refl _)
 have h2: ¬ b<LB^(lim a).length:=fun hh=>by have:=aF.2 hh;omega
 omega
theorem bI {a b:Nat} (h:a≤b):(lim a).length≤(lim b).length:=by
 rcases Nat.lt_or_ge (lim b).length (lim a).length with hh | hh
 ·have:=jW hh;omega
 ·exact hh
theorem oV {l:List Int} {n:Nat} (h: ∀i (hi:i<l.length),n≤i→l[i]=0):val (l.take n)=val l:=by
 induction l generalizing n with
 | nil => simp
 | cons d l ih =>
   cases n with
   | zero=>
     have hd:d=0:=by have:=h 0 (by simp) (Nat.le_refl _);simpa using this
     have:=ih (n:=0) fun i hi _=>by have:=h (i+1) (by simpa using hi) (by omega);simpa using this
     simp[val] at this ⊢
     subst hd;rw[←this];simp
   | succ n=>
     rw[List.take_succ_cons,val,val,ih fun i hi hn=>by have:=h (i+1) (by simpa using hi) (by omega);simpa using this]
theorem xO {l:List Int} (h:Dig l) (n:Nat):Dig (l.take n):=fun d hd=>h d (List.mem_of_mem_take hd)
theorem wE {l:List Int} {n:Nat} (h:Dig l) (hn:n≤l.length) (hz: ∀i (hi:i<l.length),n≤i→l[i]=0) (hl: ∀i (hi:i<l.length),n=i+1→l[i]≠0):l.take n=lim (val l):=by
 rw[←oV hz,E2 (xO h n)]
 intro d hd
 rw[List.getLast?_eq_getElem?] at hd
 have hlen:(l.take n).length=n:=by simp;omega
 rw[hlen] at hd
 obtain⟨h1,h2⟩:=List.getElem?_eq_some_iff.1 hd
 rw[hlen] at h1
 rw[List.getElem_take] at h2
 rw[←h2]
 exact hl (n - 1) (by omega) (by omega)

theorem iI {l:List Int} {i:Nat} (h:i<l.length):val (l.take (i+1))=val (l.take i)+LB^i*l[i].toNat:=by
 rw[List.take_add_one,List.getElem?_eq_getElem h,fU]
 have:(l.take i).length=i:=by simp;omega
 rw[this]
 simp[val]
theorem rV : ∀ {a b:List Int} {i:Nat} (ha:Dig a) (hb:Dig b) (hl:a.length=b.length) (hi:i<a.length),(∀j (h1:j<a.length),i<j→a[j]=b[j]'(hl▸h1))→a[i]<b[i]'(hl▸hi)→val a<val b
 | [], b, i, _, _, _, hi, _, _ => by simp at hi
 | x :: a, [], i, _, _, hl, _, _, _ => by simp at hl
 | x :: a, y :: b, 0, ha, hb, hl, _, he, hlt => by
   have hx:=ha x List.mem_cons_self
   have hy:=hb y List.mem_cons_self
   have hab:a=b:=by
    apply List.ext_getElem
    ·simpa using hl
    ·intro j h1 h2
     have:=he (j+1) (by simpa using h1) (by omega)
     simpa using this
   subst hab
   simp at hlt
   simp only[val]
   omega
 | x :: a, y :: b, i + 1, ha, hb, hl, hi, he, hlt => by
   have hx:=ha x List.mem_cons_self
   have hy:=hb y List.mem_cons_self
   have:=rV (a:=a) (b:=b) (i:=i) ha.tail hb.tail (by simpa using hl) (by simpa using hi) (fun j h1 h2=>by have:=he (j+1) (by simpa using h1) (by omega);simpa using this) (by simpa using hlt)
   simp only[val]
   have h2:LB*(val a+1)≤LB*val b:=Nat.mul_le_mul_left _ this
   rw[Nat.mul_add] at h2
   have:LB=1000000000:=rfl
   omega
def iE (a b:Nat):Int:=if a<b then -1 else if a=b then 0 else 1
theorem Bj {o:List Int} {i A S:Nat} {c x:Int} {P:Nat} (hP:P=LB^i) (ho:o.length=i) (hx0:0≤x) (hc:(val o:Int)+c*P=S) (hA:x=c+A):
  (val (o++ [x.tmod 1000000000]):Int)+x.tdiv 1000000000*(LB^(i+1):Nat)=(S+P*A:Nat):=by
 obtain⟨n,rfl⟩: ∃n:Nat,x=n:=⟨x.toNat,by omega⟩
 have e1:(n:Int).tmod 1000000000=(n % 1000000000:Nat):=by rw[Int.tmod_eq_emod_of_nonneg (by omega)];omega
 have e2:(n:Int).tdiv 1000000000=(n / 1000000000:Nat):=by rw[Int.tdiv_eq_ediv_of_nonneg (by omega)];omega
 rw[e1,e2,fU,ho,Nat.pow_succ,←hP]
 simp only[val,Int.toNat_natCast,Nat.mul_zero,Nat.add_zero]
 have h3:n % 1000000000+1000000000*(n / 1000000000)=n:=Nat.mod_add_div n _
 have h4:P*(n % 1000000000)+P*(1000000000*(n / 1000000000))=P*n:=by rw[←Nat.mul_add,h3]
 have h5:n / 1000000000*(P*LB)=P*(1000000000*(n / 1000000000)):=by
  show n / 1000000000*(P*1000000000)=_
  rw[Nat.mul_comm,Nat.mul_assoc]
 have h6:(P:Int)*n=P*c+P*A:=by rw[hA,Int.mul_add]
 have h7:(c:Int)*P=P*c:=Int.mul_comm _ _
 rw[←Int.natCast_mul,h5]
 have h8:((P*(n % 1000000000)+P*(1000000000*(n / 1000000000)):Nat):Int)=(P:Int)*n:=by rw[h4];simp
 rw[h6] at h8
 simp only[Int.natCast_add] at h8 ⊢
 have h9:((P*A:Nat):Int)=(P:Int)*A:=by simp
 rw[h9]
 omega

theorem nY : ∀ {l:List Int} {k:Nat} (h:k<l.length) (d:Int),val (l.set k d)+LB^k*l[k].toNat=val l+LB^k*d.toNat
 | [], k, h, d => by simp at h
 | x :: l, 0, h, d => by simp [val]; omega
 | x :: l, k + 1, h, d => by
   have hk:k<l.length:=by simpa using h
   have ih:=nY (l:=l) (k:=k) hk d
   have e:LB*(val (l.set k d)+LB^k*l[k].toNat)=LB*(val l+LB^k*d.toNat):=by rw[ih]
   rw[Nat.mul_add,Nat.mul_add,←Nat.mul_assoc,←Nat.mul_assoc,Nat.mul_comm LB (LB^k),←Nat.pow_succ] at e
   simp only[List.set_cons_succ,val,List.getElem_cons_succ]
   rw[Nat.succ_eq_add_one] at e
   omega
theorem Dig.set {l:List Int} (h:Dig l) {k:Nat} {d:Int} (hd:0≤d∧d<1000000000):Dig (l.set k d):=by
 intro x hx
 rcases List.mem_or_eq_of_mem_set hx with hx | rfl
 ·exact h x hx
 ·exact hd
theorem Dig.at {l:List Int} (h:Dig l) {k:Nat} (hk:k<l.length):0≤l[k]∧l[k]<1000000000:=h _ (List.getElem_mem hk)
theorem oY (n:Nat):Dig (List.replicate n 0):=by
 intro d hd
 rw[(List.mem_replicate.1 hd).2];decide
theorem oU (n:Nat):val (List.replicate n 0)=0:=by
 induction n with
 | zero => rfl
 | succ n ih => rw [List.replicate_succ, val, ih]; rfl
theorem vM {o:List Int} {i A B Sa Sb br br':Nat} {x:Int} (ho:o.length=i) (hI:val o+Sb=Sa+br*LB^i) (hx:x=(A:Int) - br - B+br'*1000000000) (hx0:0≤x):
  val (o++ [x])+(Sb+LB^i*B)=(Sa+LB^i*A)+br'*LB^(i+1):=by
 obtain⟨n,rfl⟩: ∃n:Nat,x=n:=⟨x.toNat,by omega⟩
 have hn:n+br+B=A+br'*LB:=by
  show n+br+B=A+br'*1000000000
  omega
 rw[fU,ho]
 simp only[val,Int.toNat_natCast,Nat.mul_zero,Nat.add_zero]
 have h1:LB^i*(n+br+B)=LB^i*(A+br'*LB):=by rw[hn]
 rw[Nat.mul_add,Nat.mul_add,Nat.mul_add] at h1
 have h2:br'*LB^(i+1)=LB^i*(br'*LB):=by rw[Nat.pow_succ,←Nat.mul_assoc,Nat.mul_comm br',Nat.mul_assoc]
 have h3:br*LB^i=LB^i*br:=Nat.mul_comm _ _
 omega
theorem xG {O:List Int} {k:Nat} (hk:k<O.length) (hO:Dig O) {n m c S:Nat} (hI:val O+c*LB^k=S):
  val (O.set k ((O[k]+n*m+c).tmod 1000000000))+((O[k]+n*m+c).tdiv 1000000000).toNat*LB^(k+1)=S+LB^k*(n*m):=by
 have h0:=hO.at hk
 obtain⟨o,ho⟩: ∃o:Nat,O[k]=o:=⟨O[k].toNat,by omega⟩
 have hv:=nY hk ((O[k]+n*m+c).tmod 1000000000)
 rw[ho] at hv ⊢
 obtain⟨x,hx⟩: ∃x:Nat,x=o+n*m+c:=⟨_,rfl⟩
 have hxi:(o:Int)+n*m+c=(x:Nat):=by rw[hx];simp
 rw[hxi] at hv ⊢
 have e1:(x:Int).tmod 1000000000=(x % 1000000000:Nat):=by rw[Int.tmod_eq_emod_of_nonneg (by omega)];omega
 have e2:(x:Int).tdiv 1000000000=(x / 1000000000:Nat):=by rw[Int.tdiv_eq_ediv_of_nonneg (by omega)];omega
 rw[e1] at hv ⊢
 rw[e2,Int.toNat_natCast]
 simp only[Int.toNat_natCast] at hv
 have h3:LB^k*(x % 1000000000+1000000000*(x / 1000000000))=LB^k*x:=by rw[Nat.mod_add_div]
 rw[Nat.mul_add] at h3
 have h4:x / 1000000000*LB^(k+1)=LB^k*(1000000000*(x / 1000000000)):=by
  rw[Nat.pow_succ,Nat.mul_comm,Nat.mul_assoc];rfl
 have h5:LB^k*x=LB^k*o+LB^k*(n*m)+LB^k*c:=by rw[hx,Nat.mul_add,Nat.mul_add]
 have h6:c*LB^k=LB^k*c:=Nat.mul_comm _ _
 omega
theorem K5 {o n m c:Int} (ho:0≤o∧o<1000000000) (hn:0≤n∧n<1000000000) (hm:0≤m∧m<1000000000) (hc:0≤c∧c<1000000000):
  0≤o+n*m+c∧o+n*m+c<1000000000000000000∧0≤(o+n*m+c).tdiv 1000000000∧(o+n*m+c).tdiv 1000000000<1000000000:=by
 have h1:0≤n*m:=Int.mul_nonneg hn.1 hm.1
 have h2:n*m≤999999999*999999999:=Int.mul_le_mul (by omega) (by omega) hm.1 (by omega)
 have h3:0≤o+n*m+c:=by omega
 rw[Int.tdiv_eq_ediv_of_nonneg h3]
 omega
theorem Q9 {Q A r b a:Nat} {L:Nat} (hI:A=Q*b+r) (hb:0<b):(a+L*A)=((r*L+a) / b+L*Q)*b+(r*L+a) % b:=by
 have h:=Nat.div_add_mod (r*L+a) b
 rw[hI,Nat.mul_add,Nat.add_mul]
 have h1:(r*L+a) / b*b=b*((r*L+a) / b):=Nat.mul_comm _ _
 have h2:L*(Q*b)=L*Q*b:=(Nat.mul_assoc _ _ _).symm
 have h3:L*r=r*L:=Nat.mul_comm _ _
 omega

theorem Ci {g v t T ul vl:Nat} (hT:0<T) (hu:ul<T) (hv:0<v) (h:t<g*v):(t*T+ul) / (v*T+vl)<g:=by
 have hV:0<v*T+vl:=by have:=Nat.mul_pos hv hT;omega
 rw[Nat.div_lt_iff_lt_mul hV,Nat.mul_add,←Nat.mul_assoc]
 have h1:(t+1)*T≤g*v*T:=Nat.mul_le_mul_right _ h
 rw[Nat.add_mul] at h1
 omega
theorem Y9 {g U V:Nat} (hV:0<V) (h:U<LB*V) (hg:LB≤g):U / V<g:=by
 rw[Nat.div_lt_iff_lt_mul hV]
 exact Nat.lt_of_lt_of_le h (Nat.mul_le_mul_right _ hg)
theorem zW {g v1 v2 t T ul vl:Nat} (hvl:vl<T) (hv:0<v1) (hg:g<LB) (h:g*(v1*LB+v2)≤t):g≤(t*T+ul) / ((v1*LB+v2)*T+vl)+1:=by
 have hT:0<T:=by omega
 have hV:0<(v1*LB+v2)*T+vl:=by
  have:0<v1*LB+v2:=by have:=Nat.mul_pos hv gU;omega
  have:=Nat.mul_pos this hT
  omega
 by_cases h0:g=0
 ·rw[h0];exact Nat.zero_le _
 have h1:g - 1≤(t*T+ul) / ((v1*LB+v2)*T+vl):=by
  rw[Nat.le_div_iff_mul_le hV]
  have e1:(g - 1)*((v1*LB+v2)*T+vl)+((v1*LB+v2)*T+vl)=g*((v1*LB+v2)*T+vl):=by
   obtain⟨k,rfl⟩: ∃k,g=k+1:=⟨g - 1,by omega⟩
   rw[Nat.add_sub_cancel,Nat.add_mul k 1,Nat.one_mul]
  have e2:g*((v1*LB+v2)*T+vl)=g*(v1*LB+v2)*T+g*vl:=by rw[Nat.mul_add,Nat.mul_assoc]
  have e3:g*(v1*LB+v2)*T≤t*T:=Nat.mul_le_mul_right _ h
  have e4:g*vl≤LB*T:=Nat.mul_le_mul (by omega) (by omega)
  have e5:LB*T≤(v1*LB+v2)*T:=Nat.mul_le_mul_right _ (by have:=Nat.mul_le_mul_right LB hv;omega)
  omega
 omega
theorem L9 {g r v1 v2 top u:Nat} (ht:top=g*v1+r) (hr:LB≤r) (pZ:top≤v1*LB+(LB - 1)) (hv2:v2<LB) (hv1:0<v1):g<LB∧g*(v1*LB+v2)≤top*LB+u:=by
 have hb:=gU
 have hg:g<LB:=by
  rcases Nat.lt_or_ge g LB with h | h
  ·exact h
  ·have:=Nat.mul_le_mul_right v1 h
   have e:v1*LB=LB*v1:=Nat.mul_comm _ _
   omega
 refine⟨hg,?_⟩
 have h1:g*v2≤LB*LB:=Nat.mul_le_mul (by omega) (by omega)
 have h2:LB*LB≤r*LB:=Nat.mul_le_mul_right _ hr
 have h3:top*LB=g*v1*LB+r*LB:=by rw[ht,Nat.add_mul]
 have h4:g*(v1*LB+v2)=g*v1*LB+g*v2:=by rw[Nat.mul_add,Nat.mul_assoc]
 omega
theorem vT {g r v1 v2 top u:Nat} (ht:top=g*v1+r):r*LB+u<g*v2 ↔ top*LB+u<g*(v1*LB+v2):=by
 have h3:top*LB=g*v1*LB+r*LB:=by rw[ht,Nat.add_mul]
 have h4:g*(v1*LB+v2)=g*v1*LB+g*v2:=by rw[Nat.mul_add,Nat.mul_assoc]
 omega

theorem Dk (n:Int) {d:Nat} (hd:d≠0):(mkRat n d).num.natAbs=n.natAbs / Nat.gcd n.natAbs d∧(mkRat n d).den=d / Nat.gcd n.natAbs d∧((mkRat n d).num<0 ↔ n<0):=by
 rw[←Rat.normalize_eq_mkRat hd,Rat.normalize_eq hd]
 have hg:0<Nat.gcd n.natAbs d:=Nat.gcd_pos_of_pos_right _ (Nat.pos_of_ne_zero hd)
 obtain⟨k,hk⟩:(Nat.gcd n.natAbs d:Int)∣n:=by
  exact Int.ofNat_dvd_left.2 (Nat.gcd_dvd_left _ _)
 show(n / ((Nat.gcd n.natAbs d:Nat):Int)).natAbs=_∧d / Nat.gcd n.natAbs d=_∧(n / ((Nat.gcd n.natAbs d:Nat):Int)<0 ↔ n<0)
 generalize Nat.gcd n.natAbs d=g at *
 have e:n / (g:Int)=k:=by rw[hk,Int.mul_ediv_cancel_left _ (by omega)]
 have ea:n.natAbs / g=k.natAbs:=by rw[hk,Int.natAbs_mul,Int.natAbs_natCast,Nat.mul_div_cancel_left _ hg]
 refine⟨by rw[e,ea],rfl,?_⟩
 show n / (g:Int)<0 ↔ n<0
 rw[e,hk]
 constructor
 ·intro h;exact Int.mul_neg_of_pos_of_neg (by omega) h
 ·intro h
  by_cases h1:k<0
  ·exact h1
  ·have:=Int.mul_nonneg (show 0≤(g:Int) by omega) (show 0≤k by omega);omega

theorem Gz {x t T rl bl:Nat} (hb:bl<T) (ht:0<t):x / (t+1)≤(x*T+rl) / (t*T+bl):=by
 have hT:0<T:=by omega
 have hV:0<t*T+bl:=by have:=Nat.mul_pos ht hT;omega
 rw[Nat.le_div_iff_mul_le hV]
 have h1:t*T+bl≤(t+1)*T:=by rw[Nat.add_mul];omega
 have h2:x / (t+1)*(t*T+bl)≤x / (t+1)*((t+1)*T):=Nat.mul_le_mul_left _ h1
 have h3:x / (t+1)*(t+1)≤x:=Nat.div_mul_le_self _ _
 have h4:x / (t+1)*((t+1)*T)≤x*T:=by rw[←Nat.mul_assoc];exact Nat.mul_le_mul_right _ h3
 omega
theorem N4 {x t T rl bl:Nat} (hr:rl<T) (ht:0<t):(x*T+rl) / (t*T+bl)≤x / t:=by
 have hT:0<T:=by omega
 have hV:0<t*T:=Nat.mul_pos ht hT
 have h1:(x*T+rl) / (t*T+bl)≤(x*T+rl) / (t*T):=Nat.div_le_div_left (by omega) hV
 have h2:(x*T+rl) / (t*T)=x / t:=by
  rw[Nat.mul_comm t T,←Nat.div_div_eq_div_mul,Nat.mul_comm x T,Nat.mul_add_div hT,Nat.div_eq_of_lt hr,Nat.add_zero]
 omega
theorem W0 {b r q:Nat} (hb:0<b):b*q≤r ↔ q≤r / b:=by
 rw[Nat.le_div_iff_mul_le hb,Nat.mul_comm]

theorem take_set {O:List Int} {k:Nat} (hk:k<O.length) (hO:Dig O) {m c c' S A:Nat} {x:Int} (hI:val O+S=A+c*LB^k) (hx:x=O[k] - m - c+c'*1000000000) (hx0:0≤x):
  val (O.set k x)+(S+LB^k*m)=A+c'*LB^(k+1):=by
 have h0:=hO.at hk
 have hv:=nY hk x
 obtain⟨o,ho⟩: ∃o:Nat,O[k]=o:=⟨O[k].toNat,by omega⟩
 obtain⟨n,rfl⟩: ∃n:Nat,x=n:=⟨x.toNat,by omega⟩
 rw[ho] at hv hx
 simp only[Int.toNat_natCast] at hv
 have hn:n+m+c=o+c'*LB:=by
  show n+m+c=o+c'*1000000000
  omega
 have h1:LB^k*(n+m+c)=LB^k*(o+c'*LB):=by rw[hn]
 rw[Nat.mul_add,Nat.mul_add,Nat.mul_add] at h1
 have h2:c'*LB^(k+1)=LB^k*(c'*LB):=by rw[Nat.pow_succ,←Nat.mul_assoc,Nat.mul_comm c',Nat.mul_assoc]
 have h3:c*LB^k=LB^k*c:=Nat.mul_comm _ _
 omega
theorem W9 {o x c:Int} (hx:x<0) (hc:c=(1000000000 - 1 - x).tdiv 1000000000):0≤x+c*1000000000∧x+c*1000000000<1000000000∧0≤c:=by
 rw[Int.tdiv_eq_ediv_of_nonneg (by omega)] at hc
 omega
theorem Ev {O:List Int} {k:Nat} (hk:k<O.length) (hO:Dig O) {m c S:Nat} (hI:val O+c*LB^k=S):
  val (O.set k ((O[k]+m+c).tmod 1000000000))+((O[k]+m+c).tdiv 1000000000).toNat*LB^(k+1)=S+LB^k*m:=by
 have:=xG hk hO (n:=m) (m:=1) hI
 simpa using this

theorem wC {a b:Nat} (h:(lim a).length<(lim b).length):iE a b= -1:=by
 have:=jW h
 unfold iE;rw[if_pos this]
theorem vF {a b:Nat} (h:(lim b).length<(lim a).length):iE a b=1:=by
 have:=jW h
 unfold iE;rw[if_neg (by omega),if_neg (by omega)]
theorem Bw {a b i:Nat} (hl:(lim a).length=(lim b).length) (h1:i<(lim a).length) (h2:i<(lim b).length) (he: ∀j (h1:j<(lim a).length) (h2:j<(lim b).length),i<j→(lim a)[j]=(lim b)[j]) (h:(lim a)[i]<(lim b)[i]):iE a b= -1:=by
 have:=rV (eR a) (eR b) hl h1 (fun j hj hij=>he j hj _ hij) h
 rw[dE,dE] at this
 unfold iE;rw[if_pos this]
theorem Cm {a b i:Nat} (hl:(lim a).length=(lim b).length) (h1:i<(lim a).length) (h2:i<(lim b).length) (he: ∀j (h1:j<(lim a).length) (h2:j<(lim b).length),i<j→(lim a)[j]=(lim b)[j]) (h:(lim b)[i]<(lim a)[i]):iE a b=1:=by
 have:=rV (eR b) (eR a) hl.symm h2 (fun j hj hij=>(he j (hl▸hj) hj hij).symm) h
 rw[dE,dE] at this
 unfold iE;rw[if_neg (by omega),if_neg (by omega)]
theorem Fu {a b:Nat} (hl:(lim a).length=(lim b).length) (he: ∀j (h1:j<(lim a).length) (h2:j<(lim b).length),(lim a)[j]=(lim b)[j]):iE a b=0:=by
 have:a=b:=At (List.ext_getElem hl fun j h1 h2=>he j h1 h2)
 subst this
 unfold iE;rw[if_neg (by omega),if_pos rfl]
def pv (a i:Nat):Nat:=val ((lim a).take i)
def dg (a i:Nat):Nat:=(((lim a)[i]?).getD 0).toNat
theorem dQ (a i:Nat):dg a i<1000000000:=by
 unfold dg
 rcases h:(lim a)[i]? with _ | d
 ·simp
 ·have:=eR a d (List.mem_of_getElem? h)
  simp;omega
theorem fA {a i:Nat} (h:i<(lim a).length):(lim a)[i]=(dg a i:Nat):=by
 have:=(eR a).at h
 unfold dg
 rw[List.getElem?_eq_getElem h]
 simp;omega
theorem kV {a i:Nat} (h:(lim a).length≤i):dg a i=0:=by
 unfold dg
 rw[List.getElem?_eq_none h];rfl
theorem Kf {a b i:Nat} (hl:(lim a).length=(lim b).length) (hi:i<(lim a).length) (he: ∀j,i<j→dg a j=dg b j) (h:dg a i<dg b i):iE a b= -1:=
 Bw hl hi (hl▸hi) (fun j h1 h2 hj=>by rw[fA h1,fA h2,he j hj]) (by rw[fA hi,fA (hl▸hi)];omega)
theorem Fg {a b i:Nat} (hl:(lim a).length=(lim b).length) (hi:i<(lim a).length) (he: ∀j,i<j→dg a j=dg b j) (h:dg b i<dg a i):iE a b=1:=
 Cm hl hi (hl▸hi) (fun j h1 h2 hj=>by rw[fA h1,fA h2,he j hj]) (by rw[fA hi,fA (hl▸hi)];omega)
theorem Ku {a b:Nat} (hl:(lim a).length=(lim b).length) (he: ∀j,dg a j=dg b j):iE a b=0:=
 Fu hl fun j h1 h2=>by rw[fA h1,fA h2,he j]
@[simp] theorem aH8 (a : Nat) : pv a 0 = 0 := by simp [pv, val]
theorem cX (a i:Nat):pv a (i+1)=pv a i+LB^i*dg a i:=by
 rcases Nat.lt_or_ge i (lim a).length with h | h
 ·unfold pv
  rw[iI h,fA h,Int.toNat_natCast]
 ·unfold pv
  rw[kV h,List.take_of_length_le h,List.take_of_length_le (by omega)];simp
theorem gE {a i:Nat} (h:(lim a).length≤i):pv a i=a:=by
 unfold pv;rw[List.take_of_length_le h,dE]
theorem O8 (a i:Nat):pv a i<LB^i:=by
 have h1:=vD (xO (eR a) i)
 refine Nat.lt_of_lt_of_le h1 (Nat.pow_le_pow_right gU ?_)
 simp;omega
theorem wS {n:Nat} (h:n≠0):LB^((lim n).length - 1)≤n:=by
 rcases Nat.lt_or_ge n (LB^((lim n).length - 1)) with hh | hh
 ·have:=aF.2 hh
  have:(lim n).length≠0:=fun h0=>h (cW.1 (List.length_eq_zero_iff.1 h0))
  omega
 ·exact hh
theorem Rr {o:List Int} {n:Nat} (ho:Dig o) (hv:val o=n) (hn:o.length=0∨LB^(o.length - 1)≤n):lim n=o:=by
 rw[←hv]
 refine E2 ho fun d hd h0=> ?_
 subst h0
 rcases o.eq_nil_or_concat with rfl | ⟨o',x,e⟩
 ·cases hd
 ·rw[List.concat_eq_append] at e
  subst e
  simp at hd;subst hd
  simp[fU,val] at hv hn
  have:=vD (Dig.append.1 ho).1
  omega
structure mA (a b i : Nat) (o : List Int) (c : Int) : Prop where
 len:o.length=i
 dig:Dig o
 c0:0≤c
 c1:c≤1
 v:(val o:Int)+c*(LB^i:Nat)=(pv a i+pv b i:Nat)
theorem mA.start (a b:Nat):mA a b 0 [] 0:=⟨rfl,(fun _ h=>by cases h),by decide,by decide,by simp[val]⟩
theorem mA.x {a b i:Nat} {o:List Int} {c:Int} (h:mA a b i o c):0≤c+dg a i+dg b i∧c+dg a i+dg b i≤1999999999:=by
 have:=dQ a i;have:=dQ b i;have:=h.c0;have:=h.c1;omega
theorem mA.next {a b i:Nat} {o:List Int} {c x:Int} (h:mA a b i o c) (hx:x=c+dg a i+dg b i):mA a b (i+1) (o++ [x.tmod 1000000000]) (x.tdiv 1000000000):=by
 have hb:=h.x
 rw[←hx] at hb
 have e1:x.tmod 1000000000=x % 1000000000:=Int.tmod_eq_emod_of_nonneg hb.1
 have e2:x.tdiv 1000000000=x / 1000000000:=Int.tdiv_eq_ediv_of_nonneg hb.1
 refine⟨by simp[h.len],Dig.append.2 ⟨h.dig,fun d hd=> ?_⟩,by omega,by omega,?_⟩
 ·simp at hd;subst hd;omega
 ·rw[Bj (P:=LB^i) (A:=dg a i+dg b i) rfl h.len hb.1 h.v (by rw[hx];simp;omega),cX,cX]
  congr 1
  rw[Nat.mul_add];omega
theorem mA.impl {a b i:Nat} {o:List Int} {c:Int} (h:mA a b i o c) (ha:(lim a).length≤i) (hb:(lim b).length≤i):Dig (o++ [c])∧val (o++ [c])=a+b:=by
 have h0:=h.c0;have h1:=h.c1
 refine⟨Dig.append.2 ⟨h.dig,fun d hd=> ?_⟩,?_⟩
 ·simp at hd;subst hd;omega
 ·have:=h.v
  rw[gE ha,gE hb] at this
  rw[fU,h.len]
  simp only[val,Nat.mul_zero,Nat.add_zero]
  have e:c=0∨c=1:=by omega
  generalize LB^i=P at this ⊢
  rcases e with rfl | rfl
  ·simp at this ⊢;omega
  ·simp at this ⊢;omega
structure fI (a b i : Nat) (o : List Int) (br : Nat) : Prop where
 len:o.length=i
 dig:Dig o
 c1:br≤1
 v:val o+pv b i=pv a i+br*LB^i
theorem fI.start (a b:Nat):fI a b 0 [] 0:=⟨rfl,(fun _ h=>by cases h),by decide,by simp[val]⟩
theorem fI.x {a b i:Nat} {o:List Int} {br:Nat} (h:fI a b i o br): -1000000000≤(dg a i:Int) - br - dg b i∧(dg a i:Int) - br - dg b i≤999999999:=by
 have:=dQ a i;have:=dQ b i;have:=h.c1;omega
theorem fI.zR {a b i:Nat} {o:List Int} {br:Nat} {x:Int} (h:fI a b i o br) (hx:x=(dg a i:Int) - br - dg b i) (h0:0≤x):fI a b (i+1) (o++ [x]) 0:=by
 have hb:=h.x
 refine⟨by simp[h.len],Dig.append.2 ⟨h.dig,fun d hd=> ?_⟩,by decide,?_⟩
 ·simp at hd;subst hd;omega
 ·rw[cX,cX]
  exact vM (br':=0) h.len h.v (by rw[hx];simp) h0
theorem fI.zF {a b i:Nat} {o:List Int} {br:Nat} {x:Int} (h:fI a b i o br) (hx:x=(dg a i:Int) - br - dg b i) (h0:x<0):fI a b (i+1) (o++ [x+1000000000]) 1:=by
 have hb:=h.x
 refine⟨by simp[h.len],Dig.append.2 ⟨h.dig,fun d hd=> ?_⟩,by decide,?_⟩
 ·simp at hd;subst hd;omega
 ·rw[cX,cX]
  exact vM (br':=1) h.len h.v (by rw[hx];simp) (by omega)
theorem fI.done {a b i:Nat} {o:List Int} {br:Nat} (h:fI a b i o br) (hab:b≤a) (ha:(lim a).length≤i):val o=a - b:=by
 have hv:=h.v
 have hb:=bI hab
 rw[gE ha,gE (by omega)] at hv
 have:=vD h.dig
 rw[h.len] at this
 have:br=0∨br=1:=by have:=h.c1;omega
 rcases this with rfl | rfl<;>omega

structure fJ (a b i j : Nat) (O : List Int) (c : Nat) : Prop where
 len:O.length=(lim a).length+(lim b).length
 dig:Dig O
 c1:c<1000000000
 z: ∀k (hk:k<O.length),i+(lim b).length≤k→O[k]=0
 v:val O+c*LB^(i+j)=pv a i*b+LB^i*(dg a i*pv b j)
theorem fJ.start (a b:Nat):fJ a b 0 0 (List.replicate ((lim a).length+(lim b).length) 0) 0:=by
 refine⟨by simp,oY _,by decide,fun k hk _=>by simp,?_⟩
 rw[oU];simp
theorem fJ.next {a b i j:Nat} {O:List Int} {c:Nat} (h:fJ a b i j O c) (hi:i<(lim a).length) (hj:j<(lim b).length) (hk:i+j<O.length):
  0≤(O[i+j]+dg a i*dg b j+c).tdiv 1000000000∧O[i+j]+dg a i*dg b j+c<1000000000000000000∧0≤O[i+j]+dg a i*dg b j+c∧
  fJ a b i (j+1) (O.set (i+j) ((O[i+j]+dg a i*dg b j+c).tmod 1000000000)) ((O[i+j]+dg a i*dg b j+c).tdiv 1000000000).toNat:=by
 have h0:=h.dig.at hk
 have hx:=dQ a i
 have hy:=dQ b j
 have hc:=h.c1
 obtain⟨b1,b2,b3,b4⟩:=K5 (o:=O[i+j]) (n:=dg a i) (m:=dg b j) (c:=c) h0 (by omega) (by omega) (by omega)
 have hs:=xG hk h.dig h.v (n:=dg a i) (m:=dg b j)
 refine⟨b3,b2,b1,by simp[h.len],h.dig.set ?_,by omega,fun k hk2 hz=> ?_,?_⟩
 ·rw[Int.tmod_eq_emod_of_nonneg b1];omega
 ·rw[List.getElem_set_ne (by omega)]
  exact h.z k (by simpa using hk2) hz
 ·rw[←Nat.add_assoc,hs,cX,Nat.pow_add]
  have e:LB^i*(dg a i*(pv b j+LB^j*dg b j))=LB^i*(dg a i*pv b j)+LB^i*LB^j*(dg a i*dg b j):=by
   rw[Nat.mul_add,Nat.mul_add]
   congr 1
   rw[←Nat.mul_assoc,←Nat.mul_assoc,←Nat.mul_assoc,Nat.mul_assoc (LB^i) (dg a i),Nat.mul_comm (dg a i) (LB^j),←Nat.mul_assoc]
  omega
theorem fJ.row {a b i j:Nat} {O:List Int} {c:Nat} (h:fJ a b i j O c) (hi:i<(lim a).length) (hj:(lim b).length≤j) (hj2:j≤(lim b).length) (hk:i+(lim b).length<O.length):fJ a b (i+1) 0 (O.set (i+(lim b).length) c) 0:=by
 have e:j=(lim b).length:=by omega
 subst e
 have hc:=h.c1
 have hv:=nY hk c
 have hz:=h.z _ hk (Nat.le_refl _)
 refine⟨by simp[h.len],h.dig.set (by omega),by decide,fun k hk2 hz=> ?_,?_⟩
 ·rw[List.getElem_set_ne (by omega)]
  exact h.z k (by simpa using hk2) (by omega)
 ·rw[hz] at hv
  have:=h.v
  rw[gE (Nat.le_refl _)] at this
  simp at hv ⊢
  rw[hv,cX,Nat.add_mul,Nat.mul_assoc]
  rw[Nat.mul_comm c] at this
  omega
theorem fJ.done {a b i:Nat} {O:List Int} {c:Nat} (h:fJ a b i 0 O 0) (hi:(lim a).length≤i):val O=a*b:=by
 have:=h.v
 rw[gE hi] at this
 simpa using this
structure nE (a b i : Nat) (Q : List Int) (r : Nat) : Prop where
 le:i≤(lim a).length
 len:Q.length=(lim a).length - i
 dig:Dig Q
 rlt:r<b
 v:val ((lim a).drop i)=val Q*b+r
theorem nE.start (a b:Nat) (hb:0<b):nE a b (lim a).length [] 0:=⟨Nat.le_refl _,by simp,(fun _ h=>by cases h),hb,by simp[val]⟩
theorem nE.quot {b r d:Nat} (hr:r<b) (hd:d<1000000000):(r*1000000000+d) / b<1000000000:=by
 rw[Nat.div_lt_iff_lt_mul (by omega)]
 have:(r+1)*1000000000≤b*1000000000:=Nat.mul_le_mul_right _ hr
 omega
theorem nE.next {a b i:Nat} {Q:List Int} {r:Nat} (h:nE a b (i+1) Q r) {q r':Nat} (hq:q=(r*1000000000+dg a i) / b) (hr:r'=(r*1000000000+dg a i) % b):nE a b i ((q:Int)::Q) r':=by
 have hl:=h.le
 have hb:0<b:=by have:=h.rlt;omega
 have hd:=dQ a i
 have hlt:=nE.quot h.rlt hd
 refine⟨by omega,by simp[h.len];omega,fun d hd=> ?_,?_,?_⟩
 ·rcases List.mem_cons.1 hd with rfl | hd
  ·omega
  ·exact h.dig d hd
 ·subst hr;exact Nat.mod_lt _ hb
 ·rw[List.drop_eq_getElem_cons (by omega),val,val,fA (by omega),h.v]
  simp only[Int.toNat_natCast]
  have:=Q9 (Q:=val Q) (A:=val Q*b+r) (r:=r) (b:=b) (a:=dg a i) (L:=LB) rfl hb
  rw[this,hq,hr]
  rfl
theorem nE.done {a b:Nat} {Q:List Int} {r:Nat} (h:nE a b 0 Q r):val Q=a / b∧r=a % b:=by
 have hv:=h.v
 have hr:=h.rlt
 simp at hv
 rw[hv]
 rw[Nat.mul_comm,Nat.mul_add_div (by omega),Nat.div_eq_of_lt hr,Nat.mul_add_mod,Nat.mod_eq_of_lt hr]
 exact⟨rfl,rfl⟩
theorem mS (i:Nat) (q z:Int) (Q:List Int):(List.replicate (i+1) z++Q).set i q=List.replicate i z++q::Q:=by
 rw[List.replicate_succ',List.append_assoc,List.set_append_right _ _ (by simp)]
 simp
theorem Di (i:Nat) (z:Int) (Q:List Int):List.replicate (i+1) z++Q=List.replicate i z++z::Q:=by
 rw[List.replicate_succ',List.append_assoc];rfl

theorem iG (l:List Int) {k:Nat} (h:k≤l.length):val l=val (l.take k)+LB^k*val (l.drop k):=by
 have:=fU (l.take k) (l.drop k)
 rw[List.take_append_drop,List.length_take,Nat.min_eq_left h] at this
 exact this
theorem kO {l:List Int} (h:Dig l) {k:Nat} :val (l.take k)<LB^k:=by
 refine Nat.lt_of_lt_of_le (vD (xO h k)) (Nat.pow_le_pow_right gU ?_)
 simp;omega
theorem pU : ∀ {l:List Int} {n:Nat} (h:Dig l) (hv:val l<LB^n) (k:Nat) (hk:k<l.length),n≤k→l[k]=0
 | [], n, _, _, k, hk, _ => by simp at hk
 | d :: l, 0, h, hv, 0, hk, _ => by
   have:=h d List.mem_cons_self
   simp[val] at hv ⊢;omega
 | d :: l, 0, h, hv, k + 1, hk, _ => by
   have h0:val l<LB^0:=by
    simp only[val,Nat.pow_zero] at hv ⊢
    rcases Nat.eq_zero_or_pos (val l) with h | h
    ·omega
    ·have:=Nat.mul_le_mul (Nat.le_of_eq (rfl:LB=LB)) h
     have:LB=1000000000:=rfl
     omega
   simpa using pU h.tail h0 k (by simpa using hk) (Nat.zero_le _)
 | d :: l, n + 1, h, hv, 0, hk, hn => by omega
 | d :: l, n + 1, h, hv, k + 1, hk, hn => by
   have h0:val l<LB^n:=by
    simp only[val,Nat.pow_succ] at hv
    rcases Nat.lt_or_ge (val l) (LB^n) with h | h
    ·exact h
    ·have:=Nat.mul_le_mul_left LB h
     rw[Nat.mul_comm LB (LB^n)] at this
     omega
   simpa using pU h.tail h0 k (by simpa using hk) (by omega)
theorem E9 {l:List Int} {n:Nat} (hz: ∀k (hk:k<l.length),n<k→l[k]=0) (hn:n<l.length):val l=val (l.take n)+LB^n*l[n].toNat:=by
 rw[←iI hn,oV fun i hi h=>hz i hi (by omega)]
structure gJ (u : List Int) (V g j i : Nat) (O : List Int) (c : Nat) : Prop where
 len:O.length=u.length
 dig:Dig O
 c1:c<1000000000
 v:val O+LB^j*(g*pv V i)=val u+c*LB^(j+i)
 same: ∀k (h:k<O.length) (h2:k<u.length),k<j∨j+i≤k→O[k]=u[k]
theorem gJ.start {u:List Int} (V g j:Nat) (h:Dig u):gJ u V g j 0 u 0:=⟨rfl,h,by decide,by simp,fun _ _ _ _=>rfl⟩
theorem gJ.acc (V g j i:Nat):LB^j*(g*pv V (i+1))=LB^j*(g*pv V i)+LB^(j+i)*(g*dg V i):=by
 rw[cX,Nat.mul_add,Nat.mul_add,Nat.pow_add]
 congr 1
 rw[←Nat.mul_assoc,←Nat.mul_assoc,←Nat.mul_assoc,Nat.mul_assoc (LB^j) g,Nat.mul_comm g (LB^i),←Nat.mul_assoc]
theorem gJ.x {u:List Int} {V g j i:Nat} {O:List Int} {c:Nat} (h:gJ u V g j i O c) (hg:g<1000000000) (hk:j+i<O.length):
  0≤(g:Int)*dg V i∧(g:Int)*dg V i≤999999998000000001:=by
 have h2:=dQ V i
 refine⟨by rw[←Int.natCast_mul];omega,?_⟩
 have:(g:Int)*dg V i≤999999999*999999999:=Int.mul_le_mul (by omega) (by omega) (by omega) (by omega)
 omega
theorem gJ.zR {u:List Int} {V g j i:Nat} {O:List Int} {c:Nat} (h:gJ u V g j i O c) (hg:g<1000000000) (hk:j+i<O.length) {x:Int} (hx:x=O[j+i] - g*dg V i - c) (h0:0≤x):
  gJ u V g j (i+1) (O.set (j+i) x) 0:=by
 have ho:=h.dig.at hk
 obtain⟨m0,m1⟩:=h.x hg hk
 refine⟨by simp[h.len],h.dig.set (by omega),by decide,?_,fun k h1 h2 h3=> ?_⟩
 ·rw[gJ.acc,←Nat.add_assoc j i 1]
  have:=take_set hk h.dig h.v (m:=g*dg V i) (c':=0) (x:=x) (by rw[hx];simp) h0
  omega
 ·rw[List.getElem_set_ne (by omega)]
  exact h.same k _ h2 (by omega)
theorem gJ.zF {u:List Int} {V g j i:Nat} {O:List Int} {c:Nat} (h:gJ u V g j i O c) (hg:g<1000000000) (hk:j+i<O.length) {x y:Int} (hx:x=O[j+i] - g*dg V i - c) (h0:x<0) (hy:y=(1000000000 - 1 - x).tdiv 1000000000):
  0≤y∧y<1000000000∧gJ u V g j (i+1) (O.set (j+i) (x+y*1000000000)) y.toNat:=by
 have ho:=h.dig.at hk
 have hc:=h.c1
 obtain⟨m0,m1⟩:=h.x hg hk
 obtain⟨c1,c2,c3⟩:=W9 (o:=0) h0 hy
 have c4:y<1000000000:=by
  rw[Int.tdiv_eq_ediv_of_nonneg (by omega)] at hy
  omega
 refine⟨c3,c4,by simp[h.len],h.dig.set ⟨c1,c2⟩,by omega,?_,fun k h1 h2 h3=> ?_⟩
 ·rw[gJ.acc,←Nat.add_assoc j i 1]
  have:=take_set hk h.dig h.v (m:=g*dg V i) (c':=y.toNat) (x:=x+y*1000000000) (by rw[hx];simp;omega) c1
  omega
 ·rw[List.getElem_set_ne (by omega)]
  exact h.same k _ h2 (by omega)
structure qJ (O : List Int) (V j i : Nat) (W : List Int) (c : Nat) : Prop where
 len:W.length=O.length
 dig:Dig W
 c1:c≤1
 v:val W+c*LB^(j+i)=val O+LB^j*pv V i
 same: ∀k (h:k<W.length) (h2:k<O.length),k<j∨j+i≤k→W[k]=O[k]
theorem qJ.start {O:List Int} (V j:Nat) (h:Dig O):qJ O V j 0 O 0:=⟨rfl,h,by decide,by simp,fun _ _ _ _=>rfl⟩
theorem qJ.next {O:List Int} {V j i:Nat} {W:List Int} {c:Nat} (h:qJ O V j i W c) (hk:j+i<W.length):
  0≤W[j+i]+dg V i+c∧W[j+i]+dg V i+c<2000000000∧0≤(W[j+i]+dg V i+c).tdiv 1000000000∧
  qJ O V j (i+1) (W.set (j+i) ((W[j+i]+dg V i+c).tmod 1000000000)) ((W[j+i]+dg V i+c).tdiv 1000000000).toNat:=by
 have ho:=h.dig.at hk
 have hd:=dQ V i
 have hc:=h.c1
 have b1:0≤W[j+i]+dg V i+c:=by omega
 have e2:(W[j+i]+dg V i+c).tdiv 1000000000=(W[j+i]+dg V i+c) / 1000000000:=Int.tdiv_eq_ediv_of_nonneg b1
 have e1:(W[j+i]+dg V i+c).tmod 1000000000=(W[j+i]+dg V i+c) % 1000000000:=Int.tmod_eq_emod_of_nonneg b1
 refine⟨b1,by omega,by omega,by simp[h.len],h.dig.set (by omega),by omega,?_,fun k h1 h2 h3=> ?_⟩
 ·have:=Ev hk h.dig h.v (m:=dg V i)
  rw[←Nat.add_assoc j i 1,this,cX,Nat.mul_add,Nat.pow_add]
  have:LB^j*(LB^i*dg V i)=LB^j*LB^i*dg V i:=(Nat.mul_assoc _ _ _).symm
  omega
 ·rw[List.getElem_set_ne (by omega)]
  exact h.same k _ h2 (by omega)
theorem S2 {u O:List Int} {V g j n c:Nat} (hu:Dig u) (h:gJ u V g j n O c) (hn:(lim V).length=n) (hk:j+n<O.length) (hg:g=val (u.drop j) / V∨g=val (u.drop j) / V+1) (hV:0<V) (hc:(c:Int)≤O[j+n]):
  Dig (O.set (j+n) (O[j+n] - c))∧g=val (u.drop j) / V∧val (O.set (j+n) (O[j+n] - c))+LB^j*(val (u.drop j) / V*V)=val u:=by
 have ho:=h.dig.at hk
 have hv:=nY hk (O[j+n] - c)
 have h1:=h.v
 rw[gE (by omega)] at h1
 have hl:=h.len
 have h2:=iG u (k:=j) (by omega)
 have h3:=kO hu (k:=j)
 obtain⟨o,ho2⟩: ∃o:Nat,O[j+n]=o:=⟨O[j+n].toNat,by omega⟩
 rw[ho2] at hv hc ⊢
 have e:((o:Int) - c).toNat=o - c:=by omega
 rw[e] at hv
 simp only[Int.toNat_natCast] at hv
 have e2:LB^(j+n)*(o - c)+LB^(j+n)*c=LB^(j+n)*o:=by rw[←Nat.mul_add];congr 1;omega
 have e3:c*LB^(j+n)=LB^(j+n)*c:=Nat.mul_comm _ _
 have h4:val (O.set (j+n) ((o:Int) - c))+LB^j*(g*V)=val u:=by omega
 have h5:g*V≤val (u.drop j):=by
  rcases Nat.lt_or_ge (val (u.drop j)) (g*V) with hh | hh
  ·have:=Nat.mul_le_mul_left (LB^j) (Nat.succ_le_of_lt hh)
   rw[Nat.mul_succ] at this
   omega
  ·exact hh
 have h6:g=val (u.drop j) / V:=by
  have:=(Nat.le_div_iff_mul_le hV).2 h5
  omega
 refine⟨h.dig.set (by rw[ho2] at ho;omega),h6,?_⟩
 rw[←h6];exact h4
theorem S6 {u O:List Int} {V g j n c:Nat} (hu:Dig u) (h:gJ u V g j n O c) (hn:(lim V).length=n) (hk:j+n<O.length) (hz: ∀k (hk:k<u.length),j+n<k→u[k]=0) (hg:g=val (u.drop j) / V∨g=val (u.drop j) / V+1) (hV:0<V) (hc:O[j+n]<c):
  g=val (u.drop j) / V+1:=by
 have ho:=h.dig.at hk
 have h1:=h.v
 rw[gE (by omega)] at h1
 have hl:=h.len
 have h2:=iG u (k:=j) (by omega)
 have h3:=E9 (l:=O) (n:=j+n) (fun k hk2 hjk=>by rw[h.same k hk2 (by omega) (by omega)];exact hz k (by omega) hjk) hk
 obtain⟨o,ho2⟩: ∃o:Nat,O[j+n]=o:=⟨O[j+n].toNat,by omega⟩
 rw[ho2] at h3 hc
 simp only[Int.toNat_natCast] at h3
 have h4:=kO h.dig (k:=j+n)
 rcases hg with hg | hg
 ·exfalso
  have h5:g*V≤val (u.drop j):=by rw[hg];exact Nat.div_mul_le_self _ _
  have h6:=Nat.mul_le_mul_left (LB^j) h5
  have h7:LB^(j+n)*(o+1)≤LB^(j+n)*c:=Nat.mul_le_mul_left _ (by omega)
  rw[Nat.mul_add] at h7
  have e3:c*LB^(j+n)=LB^(j+n)*c:=Nat.mul_comm _ _
  omega
 ·exact hg
theorem R2 {u O W:List Int} {V g j n c d:Nat} (hu:Dig u) (h:gJ u V g j n O c) (hw:qJ O V j n W d) (hn:(lim V).length=n) (hk:j+n<O.length) (hk2:j+n<W.length) (hz: ∀k (hk:k<u.length),j+n<k→u[k]=0) (hg:g=val (u.drop j) / V+1) (hV:0<V):
  O[j+n] - c+d=0∧Dig (W.set (j+n) 0)∧val (W.set (j+n) 0)+LB^j*(val (u.drop j) / V*V)=val u:=by
 have h1:=h.v
 have h1w:=hw.v
 rw[gE (by omega)] at h1 h1w
 have hl:=h.len
 have hlw:=hw.len
 have e0:W[j+n]=O[j+n]:=hw.same _ hk2 hk (by omega)
 have ho:=h.dig.at hk
 have h2:=iG u (k:=j) (by omega)
 have h3:=E9 (l:=W) (n:=j+n) (fun k hk2 hjk=>by rw[hw.same k hk2 (by omega) (by omega),h.same k (by omega) (by omega) (by omega)];exact hz k (by omega) hjk) hk2
 have hs:=nY hk2 0
 rw[e0] at h3 hs
 obtain⟨o,ho2⟩: ∃o:Nat,O[j+n]=o:=⟨O[j+n].toNat,by omega⟩
 rw[ho2] at h3 hs ⊢
 simp only[Int.toNat_natCast,Int.toNat_zero,Nat.mul_zero,Nat.add_zero] at h3 hs
 have h4:=kO hw.dig (k:=j+n)
 have h5:=kO hu (k:=j)
 have hVn:V<LB^n:=aF.1 (by omega)
 generalize hU:val (u.drop j)=U at *
 have hm:=Nat.div_add_mod U V
 have hlt:=Nat.mod_lt U hV
 have hR:val (u.take j)+LB^j*(U % V)<LB^(j+n):=by
  rw[Nat.pow_add]
  have:LB^j*(U % V+1)≤LB^j*LB^n:=Nat.mul_le_mul_left _ (by omega)
  rw[Nat.mul_add] at this
  omega
 have eU:LB^j*U=LB^j*(U / V*V)+LB^j*(U % V):=by
  rw[←Nat.mul_add,Nat.mul_comm (U / V) V,hm]
 have eg:LB^j*(g*V)=LB^j*(U / V*V)+LB^j*V:=by rw[hg,Nat.add_mul,Nat.one_mul,Nat.mul_add]
 have As:val (W.take (j+n))+LB^(j+n)*(o+d)=(val (u.take j)+LB^j*(U % V))+LB^(j+n)*c:=by
  rw[Nat.mul_add,Nat.mul_comm (LB^(j+n)) d,Nat.mul_comm (LB^(j+n)) c]
  omega
 generalize LB^(j+n)=P at *
 have hod:o+d=c:=by
  have a1:=congrArg (fun x=>x / P) As
  try simp only at a1
  rw[Nat.add_mul_div_left _ _ (by omega),Nat.add_mul_div_left _ _ (by omega),Nat.div_eq_of_lt h4,Nat.div_eq_of_lt hR] at a1
  omega
 refine⟨by omega,hw.dig.set (by decide),?_⟩
 rw[hod] at As
 omega
structure KnI (A V L n j : Nat) (u Q : List Int) : Prop where
 len:u.length=L
 dig:Dig u
 le:j+n≤L
 Ui:Q.length=L - n - j
 aC7:Dig Q
 v:val u+LB^j*(val Q*V)=A
 r:val (u.drop j)<V
theorem KnI.U {A V L n j:Nat} {u Q:List Int} (h:KnI A V L n (j+1) u Q):val (u.drop j)<LB*V:=by
 have hj:j<u.length:=by have:=h.len;have:=h.le;omega
 rw[List.drop_eq_getElem_cons hj,val]
 have:=h.dig.at hj
 have h2:=Nat.mul_le_mul_left LB (Nat.succ_le_of_lt h.r)
 have:LB=1000000000:=rfl
 rw[Nat.mul_succ] at h2
 omega
theorem KnI.zero {A V L n j:Nat} {u Q:List Int} (h:KnI A V L n (j+1) u Q) (hn:(lim V).length=n): ∀k (hk:k<u.length),j+n<k→u[k]=0:=by
 intro k hk hjk
 have hV:V<LB^n:=aF.1 (by omega)
 have:=pU (l:=u.drop (j+1)) (n:=n) (fun d hd=>h.dig d (List.mem_of_mem_drop hd)) (Nat.lt_trans h.r hV) (k - (j+1)) (by simp;omega) (by omega)
 rw[List.getElem_drop] at this
 have e:j+1+(k - (j+1))=k:=by omega
 simpa [e] using this
theorem KnI.next {A V L n j:Nat} {u Q O:List Int} (h:KnI A V L n (j+1) u Q) (hl:O.length=L) (hd:Dig O) (hv:val O+LB^j*(val (u.drop j) / V*V)=val u):KnI A V L n j O ((val (u.drop j) / V:Nat)::Q):=by
 have hU:=h.U
 have hV:0<V:=by have:=h.r;omega
 have hq:val (u.drop j) / V<LB:=by rw[Nat.div_lt_iff_lt_mul hV];exact hU
 have hLB:LB=1000000000:=rfl
 have hle:=h.le
 have hlen:=h.len
 refine⟨hl,hd,by omega,by simp[h.Ui];omega,fun d hd=> ?_,?_,?_⟩
 ·rcases List.mem_cons.1 hd with rfl | hd
  ·rw[hLB] at hq
   generalize val (u.drop j) / V=q at hq ⊢
   omega
  ·exact h.aC7 d hd
 ·have:=h.v
  rw[val,Int.toNat_natCast,Nat.add_mul,Nat.mul_add]
  rw[Nat.pow_succ] at this
  have e:LB^j*(LB*val Q*V)=LB^j*LB*(val Q*V):=by rw[Nat.mul_assoc LB,←Nat.mul_assoc]
  omega
 ·have h1:=iG u (k:=j) (by omega)
  have h2:=iG O (k:=j) (by omega)
  have h3:=kO h.dig (k:=j)
  have h4:=kO hd (k:=j)
  have hm:=Nat.div_add_mod (val (u.drop j)) V
  have hlt:=Nat.mod_lt (val (u.drop j)) hV
  have eU:LB^j*val (u.drop j)=LB^j*(val (u.drop j) / V*V)+LB^j*(val (u.drop j) % V):=by
   rw[←Nat.mul_add,Nat.mul_comm (val (u.drop j) / V) V,hm]
  have As:val (O.take j)+LB^j*val (O.drop j)=val (u.take j)+LB^j*(val (u.drop j) % V):=by omega
  have a1:=congrArg (fun x=>x / LB^j) As
  try simp only at a1
  have hP:0<LB^j:=Nat.pow_pos gU
  rw[Nat.add_mul_div_left _ _ hP,Nat.add_mul_div_left _ _ hP,Nat.div_eq_of_lt h4,Nat.div_eq_of_lt h3] at a1
  omega
theorem KnI.done {A V L n:Nat} {u Q:List Int} (h:KnI A V L n 0 u Q):val Q=A / V∧val u=A % V:=by
 have hv:=h.v
 have hr:=h.r
 simp at hv hr
 rw[←hv,Nat.mul_comm (val Q),Nat.add_comm,Nat.mul_add_div (by omega),Nat.div_eq_of_lt hr,Nat.mul_add_mod,Nat.mod_eq_of_lt hr]
 exact⟨rfl,rfl⟩
theorem aCH {V n:Nat} (hn:(lim V).length=n+2):V=(dg V (n+1)*LB+dg V n)*LB^n+pv V n:=by
 have h1:=cX V n
 have h2:=cX V (n+1)
 have e0:pv V (n+1+1)=V:=gE (by omega)
 rw[h2,h1,Nat.pow_succ] at e0
 have e1:dg V (n+1)*LB*LB^n=LB^n*LB*dg V (n+1):=by ac_rfl
 have e2:dg V n*LB^n=LB^n*dg V n:=Nat.mul_comm _ _
 rw[Nat.add_mul]
 omega
theorem D7 {V n:Nat} (hn:(lim V).length=n+1):0<dg V n:=by
 have h:n<(lim V).length:=by omega
 have h1:=fA h
 have h2:=I3 V ((lim V)[n]) (by rw[List.getLast?_eq_getElem?,hn];simp[h])
 omega
theorem Mz (x y z T L:Nat):((x*L+y)*L+z)*T=T*L*L*x+T*L*y+T*z:=by
 rw[Nat.add_mul,Nat.add_mul,Nat.add_mul]
 have e1:x*L*L*T=T*L*L*x:=by ac_rfl
 have e2:y*L*T=T*L*y:=by ac_rfl
 rw[e1,e2,Nat.mul_comm z T]
theorem aDU {u:List Int} {n j:Nat} (hu:Dig u) (hz: ∀k (hk:k<u.length),j+(n+2)<k→u[k]=0) (h2:j+(n+2)<u.length) (h1:j+(n+1)<u.length) (h0:j+n<u.length):
  val (u.drop j)=((u[j+(n+2)].toNat*LB+u[j+(n+1)].toNat)*LB+u[j+n].toNat)*LB^n+val ((u.drop j).take n):=by
 have hd:Dig (u.drop j):=fun d hd=>hu d (List.mem_of_mem_drop hd)
 have e:=E9 (l:=u.drop j) (n:=n+2) (fun k hk hlt=>by rw[List.getElem_drop];exact hz _ (by simp at hk;omega) (by omega)) (by simp;omega)
 have e1:=iI (l:=u.drop j) (i:=n+1) (by simp;omega)
 have e0:=iI (l:=u.drop j) (i:=n) (by simp;omega)
 simp only[List.getElem_drop] at e e1 e0
 have p1:LB^(n+1)=LB^n*LB:=Nat.pow_succ ..
 have p2:LB^(n+2)=LB^n*LB*LB:=by rw[Nat.pow_succ,Nat.pow_succ]
 rw[Mz,e,e1,e0,p1,p2]
 omega
theorem KnI.top {A V L n j:Nat} {u Q:List Int} (h:KnI A V L (n+2) (j+1) u Q) (hn:(lim V).length=n+2) (hk:j+(n+2)<u.length):u[j+(n+2)]≤dg V (n+1):=by
 have hz:=h.zero hn
 have hd:Dig (u.drop (j+1)):=fun d hd=>h.dig d (List.mem_of_mem_drop hd)
 have e:=E9 (l:=u.drop (j+1)) (n:=n+1) (fun k hk hlt=>by rw[List.getElem_drop];exact hz _ (by simp at hk;omega) (by omega)) (by simp;omega)
 simp only[List.getElem_drop] at e
 have e9:j+1+(n+1)=j+(n+2):=by omega
 simp only[e9] at e
 have hr:=h.r
 have hV:=cX V (n+1)
 rw[gE (by omega)] at hV
 have hlt:=O8 V (n+1)
 have ho:=h.dig.at hk
 have h1:LB^(n+1)*u[j+(n+2)].toNat<LB^(n+1)*(dg V (n+1)+1):=by rw[Nat.mul_add];omega
 have:=Nat.lt_of_mul_lt_mul_left h1
 omega
end Go.Proofs.YticmgmemnpcbbaaGreat.Vm

namespace Go.Proofs.YticmgmemnpcbbaaGreat.Vm
open Go Go.Proofs
set_option linter.unusedSimpArgs false
set_option linter.unusedVariables false
def kindName (n:Int):ByteArray:=if n=1 then { data:= #[114,111,112,101] } else if n=2 then { data:= #[115,116,114,117,116] } else if n=3 then { data:= #[98,97,114] } else { data:= #[] }
theorem Ki (n lo hi:Int):RO Tryz.prog 127 [.int .i64 n,.int .i64 lo,.int .i64 hi] (.bool (decide (lo≤n)&& decide (n≤hi))):=by
 refine aI Tryz.func127 rfl rfl (by rw[Tryz.ntmps127];simp) fun bl=> ?_
 rw[Tryz.ntmps127,Tryz.results127]
 refine aC ?_
 simp
 refine dN [(0,.int .i64 n),(1,.int .i64 lo),(2,.int .i64 hi)] _ bl 6 (.bool (decide (lo≤n)&& decide (n≤hi))) bl ⟨rfl,by simp,Sub.refl _⟩ rfl ?_ ?_
 ·simp;grind
 simp
 exact aM (by simp) rfl rfl

theorem Wc {a b:ByteArray} :a.toList=b.toList ↔ a=b:=by
 refine⟨fun h=> ?_,fun h=>by rw[h]⟩
 rw[ByteArray.toList_eq,ByteArray.toList_eq] at h
 exact ByteArray.ext (Array.toList_inj.1 h)
def vV (i:Nat) (c:Nat):Bool:=(decide (97≤c)&& decide (c≤122))|| (decide (i≠0)&& (decide (48≤c)&& decide (c≤57)))
def isName (s:ByteArray):Bool:=decide (1≤s.size)&& decide (s.size≤8)&& decide (∀i (h:i<s.size),vV i s[i].toNat=true)
theorem M5 (c:Nat):RO Tryz.prog 232 [.int .u8 c] (.bool (decide (97≤c)&& decide (c≤122))):=by
 refine aI Tryz.func232 rfl rfl (by rw[Tryz.ntmps232];simp) fun bl=> ?_
 rw[Tryz.ntmps232,Tryz.results232]
 refine aC ?_
 simp
 refine dN [(0,.int .u8 c)] _ bl 2 (.bool (decide (97≤c)&& decide (c≤122))) bl ⟨rfl,by simp,Sub.refl _⟩ rfl ?_ ?_
 ·simp;grind
 simp
 exact aM (by simp) rfl rfl
theorem V2 (c:Nat):RO Tryz.prog 233 [.int .u8 c] (.bool (decide (48≤c)&& decide (c≤57))):=by
 refine aI Tryz.func233 rfl rfl (by rw[Tryz.ntmps233];simp) fun bl=> ?_
 rw[Tryz.ntmps233,Tryz.results233]
 refine aC ?_
 simp
 refine dN [(0,.int .u8 c)] _ bl 2 (.bool (decide (48≤c)&& decide (c≤57))) bl ⟨rfl,by simp,Sub.refl _⟩ rfl ?_ ?_
 ·simp;grind
 simp
 exact aM (by simp) rfl rfl
theorem vC (n:Int):RO Tryz.prog 165 [.int .i64 n] (.bool (decide (-50≤n)&& decide (n≤50))):=by
 refine aI Tryz.func165 rfl rfl (by rw[Tryz.ntmps165];simp) fun bl=> ?_
 rw[Tryz.ntmps165,Tryz.results165]
 refine aC ?_
 simp
 refine dN [(0,.int .i64 n)] _ bl 2 (.bool (decide (-50≤n)&& decide (n≤50))) bl ⟨rfl,by simp,Sub.refl _⟩ rfl ?_ ?_
 ·simp;grind
 simp
 exact aM (by simp) rfl rfl
theorem vW (s:ByteArray) (hs:s.size≤140737488351232):RO Tryz.prog 164 [.str s] (.bool (isName s)):=by
 refine aI Tryz.func164 rfl rfl (by rw[Tryz.ntmps164];simp) fun bl=> ?_
 rw[Tryz.ntmps164,Tryz.results164]
 refine aC ?_
 simp
 refine aK (fun i:Nat=> [(0,.str s),(5,.int .i64 s.size),(6,.int .i64 i)]) (fun _=>bl) (fun i=>i≤s.size∧ ∀j (h:j<s.size),j<i→vV j s[j].toNat=true) (fun i=>s.size - i) _ 0 ⟨Nat.zero_le _,fun j h h0=>by omega⟩ ⟨rfl,by simp,Sub.refl _⟩ ?_
 intro i ⟨hi,hc⟩
 refine aC ?_
 simp
 refine⟨fun h=> ?_,fun h=> ?_⟩
 ·refine dN [(0,.str s),(5,.int .i64 s.size),(6,.int .i64 i),(3,.int .i64 i)] _ bl 24 (.bool (! vV i s[i].toNat)) bl ⟨rfl,by simp,Sub.refl _⟩ rfl ?_ ?_
  ·simp[h]
   refine aD (M5 _) ?_
   simp[h,vV]
   refine⟨fun h1=>⟨fun h2=>⟨h1,.inl h2⟩,fun h2=> ?_⟩,by omega⟩
   refine aD (V2 _) ?_
   simp
   grind
  simp
  refine⟨fun h1=> ?_,fun h1=> ?_⟩
  ·refine aM (by simp[isName];intro _ _;exact⟨i,h,h1⟩) rfl rfl
  ·simp (disch:=omega) [i64_in,aB]
   refine⟨i+1,⟨by omega,fun j hj hji=> ?_⟩,by omega,rfl,by simp,Sub.refl _⟩
   rcases Nat.lt_or_ge j i with hlt | hge
   ·exact hc j hj hlt
   ·obtain rfl:j=i:=by omega
    exact h1
 ·have cO: ∀j (h:j<s.size),vV j s[j].toNat=true:=fun j hj=>hc j hj (by omega)
  refine dN [(0,.str s)] _ bl 2 (.bool (isName s)) bl ⟨rfl,by simp,Sub.refl _⟩ rfl ?_ ?_
  ·by_cases hz:s.size=0
   ·obtain rfl:s=ByteArray.empty:=ByteArray.ext (Array.eq_empty_of_size_eq_zero hz)
    simp[isName]
   ·have h1:s≠ByteArray.empty:=fun h=>hz (by rw[h];rfl)
    have h2:s.toList≠ []:=fun h=>hz (by rw[ByteArray.toList_eq,←List.length_eq_zero_iff,Array.length_toList] at h;exact h)
    simp[isName,cO,h1,h2]
    rw[Bool.eq_iff_iff];simp;omega
  simp
  exact aM (by simp) rfl rfl
structure J where
 name:ByteArray
 x:Int
 y:Int
 fixed:Bool
 deriving DecidableEq
def J.c (j:J):List V:= [.str j.name,.int .i64 j.x,.int .i64 j.y,.bool j.fixed]
def J.fit (j:J):Prop:=j.name.size≤140737488351232∧(-9223372036854775808≤j.x∧j.x≤9223372036854775807)∧(-9223372036854775808≤j.y∧j.y≤9223372036854775807)
def J.ok (j:J):Bool:=isName j.name && (decide (-50≤j.x)&& decide (j.x≤50))&& (decide (-50≤j.y)&& decide (j.y≤50))
theorem tZ (j:J) (hj:j.name.size≤140737488351232):RO Tryz.prog 87 [.agg j.c] (.bool j.ok):=by
 refine aI Tryz.func87 rfl rfl (by rw[Tryz.ntmps87];simp) fun bl=> ?_
 rw[Tryz.ntmps87,Tryz.results87]
 refine aC ?_
 simp[J.c]
 intro g hg0 hg
 refine dN [(1,.loc g 4 0 0)] _ (upd bl g (some ⟨4,[j.c]⟩)) 2 (.bool j.ok) (upd bl g (some ⟨4,[j.c]⟩)) ⟨rfl,by simp,Sub.refl _⟩ rfl ?_ ?_
 ·simp[J.c]
  refine aD (vW _ hj) ?_
  simp
  refine⟨fun h=> ?_,fun h=> ?_⟩
  ·refine aD (vC _) ?_
   simp
   refine⟨fun h1 h2=> ?_,fun h1=> ?_⟩
   ·refine aD (vC _) ?_
    simp[J.ok,h,h1,h2]
   ·simp[J.ok,h]
    grind
  ·simp[J.ok,h]
 simp
 exact aN [_] 0 rfl rfl ((Sub.refl bl).upd hg _)

def less (left:Int) (n:Nat):Int:=if left - n<0 then -1 else left - n

theorem aQ :Tryz.prog.follows .mixedOrders=true:=by kernel_rfl
def iv (ns:List Int):List (List V):=ns.map fun n=> [.int .i64 n]
@[simp] theorem iC (ns : List Int) : (iv ns).length = ns.length := by simp [iv]
@[simp] theorem cH (ns : List Int) (i : Nat) (h : i < ns.length) : (iv ns)[i]? = some [.int .i64 ns[i]] := by simp [iv, h]
@[simp] theorem lB (ns : List Int) (i : Nat) (h : i < (iv ns).length) : (iv ns)[i] = [.int .i64 (ns[i]'(by simpa using h))] := by simp [iv]
theorem lS (ns:List Int):(iv ns).all (fun e=>e.all V.cl)=true:=by simp[iv,V.cl]
theorem oP (a b:List Int) (ha:a.length≤140737488351232):RO Tryz.prog 102 [.sl (iv a),.sl (iv b)] (.bool (decide (a=b))):=by
 refine aI Tryz.func102 rfl rfl (by rw[Tryz.ntmps102];simp) fun bl=> ?_
 rw[Tryz.ntmps102,Tryz.results102]
 refine aC ?_
 simp
 refine⟨fun h=> ?_,fun h=> ?_⟩
 ·exact aM (by simp;rintro rfl;exact h rfl) rfl rfl
 refine aK (fun i:Nat=> [(0,.sl (iv a)),(1,.sl (iv b)),(12,.int .i64 a.length),(13,.int .i64 i)]) (fun _=>bl) (fun i=>i≤a.length∧ ∀j (h1:j<a.length) (h2:j<b.length),j<i→a[j]=b[j]) (fun i=>a.length - i) _ 0 ⟨Nat.zero_le _,fun j _ _ h0=>by omega⟩ ⟨rfl,by simp,Sub.refl _⟩ ?_
 intro i ⟨hi,hc⟩
 refine aC ?_
 simp
 refine⟨fun h1=> ?_,fun h1=> ?_⟩
 ·refine bQ aQ (by kernel_rfl) ?_
  have h2:i<b.length:=by omega
  simp[h1,h2]
  refine⟨fun h3=> ?_,fun h3=> ?_⟩
  ·exact aM (by simp;rintro rfl;exact h3 rfl) rfl rfl
  ·simp (disch:=omega) [i64_in,aB]
   refine⟨i+1,⟨by omega,fun j hj1 hj2 hji=> ?_⟩,by omega,rfl,by simp,Sub.refl _⟩
   rcases Nat.lt_or_ge j i with hlt | hge
   ·exact hc j hj1 hj2 hlt
   ·obtain rfl:j=i:=by omega
    exact h3
 ·refine aM (by simp;exact List.ext_getElem (by omega) fun j hj1 hj2=>hc j hj1 hj2 (by omega)) rfl rfl

structure Mb where
 a:Int
 b:Int
 kind:Int
 deriving DecidableEq
def Mb.c (m:Mb):List V:= [.int .i64 m.a,.int .i64 m.b,.int .i64 m.kind]
def jv (js:List J):List (List V):=js.map J.c
def mv (ms:List Mb):List (List V):=ms.map Mb.c
structure Str where
 js:List J
 ms:List Mb
 deriving DecidableEq
def Str.c (s:Str):List V:= [.sl (jv s.js),.sl (mv s.ms)]
@[simp] theorem Yy (ns : List J) : (jv ns).length = ns.length := by simp [jv]
@[simp] theorem aHR (ns : List J) (i : Nat) (h : i < (jv ns).length) : (jv ns)[i] = (ns[i]'(by simpa using h)).c := by simp [jv]
@[simp] theorem Dh (ns : List Mb) : (mv ns).length = ns.length := by simp [mv]
@[simp] theorem aI7 (ns : List Mb) (i : Nat) (h : i < (mv ns).length) : (mv ns)[i] = (ns[i]'(by simpa using h)).c := by simp [mv]
theorem aDW (ns:List J):(jv ns).all (fun e=>e.all V.cl)=true:=by simp[jv,J.c,V.cl]
theorem aCE (ns:List Mb):(mv ns).all (fun e=>e.all V.cl)=true:=by simp[mv,Mb.c,V.cl]
@[simp] theorem J.Ff (j : J) : j.c.length = 4 := rfl
@[simp] theorem Mb.Ff (j : Mb) : j.c.length = 3 := rfl

def szJs :List J→Int→Int
 | [], left => left
 | j :: js, left => if less left j.name.size < 0 then -1 else szJs js (less left j.name.size)
def Tc (js:List J) (left:Int):Int:=if less left js.length<0 then -1 else szJs js (less left js.length)
def aNF (s:Str) (left:Int):Int:=if Tc s.js left<0 then -1 else if less (Tc s.js left) s.ms.length<0 then -1 else less (Tc s.js left) s.ms.length

theorem Oh (a b:ByteArray):(a.toList==b.toList)=decide (a=b):=by
 rw[Bool.eq_iff_iff];simp[Wc]
def ixf {α:Type} (p:α→Bool) (xs:List α):Int:=match xs.findIdx? p with | some i=>i | none=> -1
theorem nG {α:Type} {p:α→Bool} {xs:List α} {i:Nat} (h:i<xs.length) (hb: ∀j (hj:j<xs.length),j<i→p xs[j]=false) (hp:p xs[i]=true):ixf p xs=i:=by
 unfold ixf
 have:xs.findIdx? p=some i:=by
  rw[List.findIdx?_eq_some_iff_getElem]
  exact⟨h,hp,fun j hj=>by simp[hb j (by omega) hj]⟩
 rw[this]
theorem qR {α:Type} {p:α→Bool} {xs:List α} (hb: ∀j (hj:j<xs.length),p xs[j]=false):ixf p xs= -1:=by
 unfold ixf
 have:xs.findIdx? p=none:=by
  rw[List.findIdx?_eq_none_iff]
  intro x hx
  obtain⟨i,hi,rfl⟩:=List.mem_iff_getElem.1 hx
  exact hb i hi
 rw[this]
theorem oL (a:List J) (f:FuncId) (cap:List V) (p:J→Bool) (ha:a.length≤140737488351232) (hf: ∀j,j∈a→RO Tryz.prog f (.agg j.c::cap) (.bool (p j))):
  RO Tryz.prog 166 [.sl (jv a),.fn f cap] (.int .i64 (ixf p a)):=by
 refine aI Tryz.func166 rfl rfl (by rw[Tryz.ntmps166];simp) fun bl=> ?_
 rw[Tryz.ntmps166,Tryz.results166]
 refine aC ?_
 simp
 refine aK (fun i:Nat=> [(0,.sl (jv a)),(1,.fn f cap),(7,.int .i64 a.length),(8,.int .i64 i)]) (fun _=>bl) (fun i=>i≤a.length∧ ∀j (h1:j<a.length),j<i→p a[j]=false) (fun i=>a.length - i) _ 0 ⟨Nat.zero_le _,fun j _ h0=>by omega⟩ ⟨rfl,by simp,Sub.refl _⟩ ?_
 intro i ⟨hi,hc⟩
 refine aC ?_
 simp
 refine⟨fun h1=> ?_,fun h1=> ?_⟩
 ·simp[h1]
  refine aD (hf _ (List.getElem_mem h1)) ?_
  simp
  refine⟨fun h2=> ?_,fun h2=> ?_⟩
  ·exact aM (by simp[nG h1 hc h2]) rfl rfl
  ·simp (disch:=omega) [i64_in,aB]
   refine⟨i+1,⟨by omega,fun j hj1 hji=> ?_⟩,by omega,rfl,by simp,Sub.refl _⟩
   rcases Nat.lt_or_ge j i with hlt | hge
   ·exact hc j hj1 hlt
   ·obtain rfl:j=i:=by omega
    exact h2
 ·exact aM (by simp[qR fun j hj=>hc j hj (by omega)]) rfl rfl
theorem wI (j:J) (name:ByteArray):RO Tryz.prog 167 [.agg j.c,.ptr [.str name]] (.bool (decide (j.name=name))):=by
 refine aI Tryz.func167 rfl rfl (by rw[Tryz.ntmps167];simp) fun bl=> ?_
 rw[Tryz.ntmps167,Tryz.results167]
 refine aC ?_
 simp[J.c]
 intro g hg0 hg
 exact aN [_] 0 (by simp[Oh];rfl) rfl (by simp[hg])
theorem pL (s:Str) (name:ByteArray) (hj:s.js.length≤140737488351232):RO Tryz.prog 88 [.agg s.c,.str name] (.int .i64 (ixf (fun j=>decide (j.name=name)) s.js)):=by
 refine aI Tryz.func88 rfl rfl (by rw[Tryz.ntmps88];simp) fun bl=> ?_
 rw[Tryz.ntmps88,Tryz.results88]
 refine aC ?_
 simp[Str.c]
 intro g1 hg1 hb1 g2 hg2 h21 hb2
 simp[h21,Ne.symm h21]
 refine bS 2 (ys:= [.sl (jv s.js),.fn 167 [.ptr [.str name]]]) ?_ (oL _ _ _ (fun j=>decide (j.name=name)) hj fun j _=>wI j name) rfl ?_
 ·simp[frz,dropB,V.cl]
 simp
 exact aN [_] 0 rfl rfl (by simp[hb1,hb2])

end Go.Proofs.YticmgmemnpcbbaaGreat.Vm

namespace Go.Proofs.YticmgmemnpcbbaaGreat.Vm
open Go Go.Proofs
set_option linter.unusedSimpArgs false
set_option linter.unusedVariables false
theorem aV {P:Program} {id:Nat} {ops:Array Oper} {K:Ex→St→Prop} {σ:St} (l:List (Nat×V)) (n:Nat) (bl:Int→Option Blk) (t:Nat) (v:V) (hf:Fit l n bl σ) (hd:(l.all fun p=> !(ops.toList.map (·.dst)).contains (some p.1))=true)
  (h1:OpsF P (ops.toList.map (·.dst)) ops.toList (fun σ'=>σ'.sl t=v∧σ'.bl=bl) ⟨n,hv l,bl⟩) (h2:K .normal ⟨n,hv ((t,v)::l),bl⟩):AW P (.region id ops false) K σ:=dN l n bl t v bl hf hd h1 h2
instance : Inhabited J := ⟨⟨⟨#[]⟩, 0, 0, false⟩⟩
def jat (js:List J) (n:Int):J:=js.getD n.toNat default
def mOk (js:List J) (m:Mb):Bool:=
 (decide (0≤m.a)&& decide (m.a<js.length))&& (decide (0≤m.b)&& decide (m.b<js.length))&& (decide (1≤m.kind)&& decide (m.kind≤3))&&
 ((decide ((jat js m.a).x≠(jat js m.b).x)|| decide ((jat js m.a).y≠(jat js m.b).y))&& !((jat js m.a).fixed && (jat js m.b).fixed))
def sOk (s:Str):Bool:=decide (s.js.length≤6)&& decide (s.ms.length≤8)&&
 decide (∀i (h:i<s.js.length),s.js[i].ok=true∧ixf (fun j=>decide (j.name=s.js[i].name)) s.js=i)&& s.ms.all (mOk s.js)
theorem Ax {js:List J} {n:Int} (h0:0≤n) (h1:n<js.length):(jv js)[n.toNat]? =some (jat js n).c:=by
 have:n.toNat<js.length:=by omega
 simp[jv,jat,this]
theorem L5 (s:Str) (m:Mb) (hj:s.js.length≤140737488351232):RO Tryz.prog 91 [.ptr s.c,.agg m.c] (.bool (mOk s.js m)):=by
 refine aI Tryz.func91 rfl rfl (by rw[Tryz.ntmps91];simp) fun bl=> ?_
 rw[Tryz.ntmps91,Tryz.results91]
 refine aC ?_
 simp[Mb.c,Str.c]
 intro g hg0 hg
 refine dN [(0,.ptr s.c),(3,.loc g 3 0 0),(5,.int .i64 s.js.length)] _ (upd bl g (some ⟨3,[m.c]⟩)) 42 (.bool (! ((decide (0≤m.a)&& decide (m.a<s.js.length))&& (decide (0≤m.b)&& decide (m.b<s.js.length))&& (decide (1≤m.kind)&& decide (m.kind≤3))))) (upd bl g (some ⟨3,[m.c]⟩)) ⟨rfl,by simp[Mb.c,Str.c],sub_eq (by simp[Mb.c])⟩ rfl ?_ ?_
 ·simp[Mb.c]
  refine⟨fun h=>by omega,fun h1=>⟨fun h=>by omega,fun h2=>⟨fun h=>by omega,fun h3=>⟨fun h=>by omega,fun h4=>⟨fun h=>by omega,fun h5=> ?_⟩⟩⟩⟩⟩
  rw[Bool.eq_iff_iff];simp;omega
 simp
 refine⟨fun h=> ?_,fun h1 h2 h3 h4 h5 h6=> ?_⟩
 ·refine aN [_] 0 rfl ?_ (by simp[hg])
  simp[frz,mOk]
  intro h1 h2 h3 h4 h5 h6
  omega
 ·refine J7 aQ [0,1,2,3,4,5,6,7,8,9,10,11,12,13,14,15] 4 (by kernel_rfl) ?_
  simp[Str.c,Mb.c,h1,h3,Ax h1 h2,Ax h3 h4,J.c]
  refine vI (i:=16) (j:=17) (by kernel_rfl) rfl rfl rfl rfl ?_ ?_
  ·simp
   intro g1 hg1 h1g hb1
   refine⟨by simp[hg,hb1,h1g],Dz 17 ?_⟩
   simp
   intro g2 hg2 h21 h2g hb2
   refine⟨by simp[hg,hb1,h1g,h21,h2g,hb2],Dz 18 ?_⟩
   simp[h1g,h21,h2g,Ne.symm h1g,Ne.symm h21,Ne.symm h2g]
   refine⟨by simp[hg,hb1,h1g,h21,h2g,hb2],Dz 19 ?_⟩
   simp[h1g,h21,h2g,Ne.symm h1g,Ne.symm h21,Ne.symm h2g]
   refine⟨by simp[hg,hb1,h1g,h21,h2g,hb2],Dy ?_⟩
   simp[h1g,h21,h2g,Ne.symm h1g,Ne.symm h21,Ne.symm h2g]
   refine aV [(6,.loc g1 4 0 0),(7,.loc g2 4 0 0)] _ _ 4 (.bool (mOk s.js m)) ⟨rfl,by simp,Sub.refl _⟩ rfl ?_ ?_
   ·simp[h1g,h21,h2g,Ne.symm h1g,Ne.symm h21,Ne.symm h2g,mOk,h1,h2,h3,h4,h5,h6]
    grind
   simp
   exact aN [_] 0 rfl rfl (by simp[hg,hb1,hb2])
  ·simp
   intro g2 hg2 h2g hb2
   refine⟨by simp[hg,hb2,h2g],Dz 16 ?_⟩
   simp
   intro g1 hg1 h12 h1g hb1
   have h21:=Ne.symm h12
   refine⟨by simp[hg,hb1,h1g,h21,h2g,hb2],Dz 18 ?_⟩
   simp[h1g,h12,h21,h2g,Ne.symm h1g,Ne.symm h2g]
   refine⟨by simp[hg,hb1,h1g,h21,h2g,hb2],Dz 19 ?_⟩
   simp[h1g,h12,h21,h2g,Ne.symm h1g,Ne.symm h2g]
   refine⟨by simp[hg,hb1,h1g,h21,h2g,hb2],Dy ?_⟩
   simp[h1g,h12,h21,h2g,Ne.symm h1g,Ne.symm h2g]
   refine aV [(6,.loc g1 4 0 0),(7,.loc g2 4 0 0)] _ _ 4 (.bool (mOk s.js m)) ⟨rfl,by simp,Sub.refl _⟩ rfl ?_ ?_
   ·simp[h1g,h12,h21,h2g,Ne.symm h1g,Ne.symm h2g,mOk,h1,h2,h3,h4,h5,h6]
    grind
   simp
   exact aN [_] 0 rfl rfl (by simp[hg,hb1,hb2])

theorem mB (a:List Mb) (f:FuncId) (cap:List V) (p:Mb→Bool) (ha:a.length≤140737488351232) (hf: ∀j,j∈a→RO Tryz.prog f (.agg j.c::cap) (.bool (p j))):
  RO Tryz.prog 168 [.sl (mv a),.fn f cap] (.int .i64 (ixf p a)):=by
 refine aI Tryz.func168 rfl rfl (by rw[Tryz.ntmps168];simp) fun bl=> ?_
 rw[Tryz.ntmps168,Tryz.results168]
 refine aC ?_
 simp
 refine aK (fun i:Nat=> [(0,.sl (mv a)),(1,.fn f cap),(7,.int .i64 a.length),(8,.int .i64 i)]) (fun _=>bl) (fun i=>i≤a.length∧ ∀j (h1:j<a.length),j<i→p a[j]=false) (fun i=>a.length - i) _ 0 ⟨Nat.zero_le _,fun j _ h0=>by omega⟩ ⟨rfl,by simp,Sub.refl _⟩ ?_
 intro i ⟨hi,hc⟩
 refine aC ?_
 simp
 refine⟨fun h1=> ?_,fun h1=> ?_⟩
 ·simp[h1]
  refine aD (hf _ (List.getElem_mem h1)) ?_
  simp
  refine⟨fun h2=> ?_,fun h2=> ?_⟩
  ·exact aM (by simp[nG h1 hc h2]) rfl rfl
  ·simp (disch:=omega) [i64_in,aB]
   refine⟨i+1,⟨by omega,fun j hj1 hji=> ?_⟩,by omega,rfl,by simp,Sub.refl _⟩
   rcases Nat.lt_or_ge j i with hlt | hge
   ·exact hc j hj1 hlt
   ·obtain rfl:j=i:=by omega
    exact h2
 ·exact aM (by simp[qR fun j hj=>hc j hj (by omega)]) rfl rfl
theorem tY (s:Str) (m:Mb) (hj:s.js.length≤140737488351232):RO Tryz.prog 90 [.agg m.c,.ptr s.c] (.bool (!mOk s.js m)):=by
 refine aI Tryz.func90 rfl rfl (by rw[Tryz.ntmps90];simp) fun bl=> ?_
 rw[Tryz.ntmps90,Tryz.results90]
 refine aC ?_
 simp[Mb.c]
 intro g hg0 hg
 refine aD (L5 s m hj) ?_
 simp
 exact aN [_] 0 rfl rfl (by simp[hg])
theorem S7 {α:Type} (p:α→Bool) (xs:List α):(decide (0≤ixf p xs))=xs.any p:=by
 unfold ixf
 cases h:xs.findIdx? p with
 | none =>
   rw[List.findIdx?_eq_none_iff] at h
   have:xs.any p=false:=by rw[List.any_eq_false];intro x hx;simp[h x hx]
   simp[this]
 | some i =>
   rw[List.findIdx?_eq_some_iff_getElem] at h
   obtain⟨h1,h2,_⟩:=h
   have:xs.any p=true:=List.any_eq_true.2 ⟨xs[i],List.getElem_mem h1,h2⟩
   rw[this];simp
theorem kG (a:List Mb) (f:FuncId) (cap:List V) (p:Mb→Bool) (ha:a.length≤140737488351232) (hf: ∀j,j∈a→RO Tryz.prog f (.agg j.c::cap) (.bool (p j))):
  RO Tryz.prog 89 [.sl (mv a),.fn f cap] (.bool (a.any p)):=by
 refine aI Tryz.func89 rfl rfl (by rw[Tryz.ntmps89];simp) fun bl=> ?_
 rw[Tryz.ntmps89,Tryz.results89]
 refine aC ?_
 simp
 refine aD (mB a f cap p ha hf) ?_
 simp
 exact aM (by simp[S7]) rfl rfl
def jOk (js:List J) (i:Nat):Bool:=if h:i<js.length then js[i].ok && decide (ixf (fun j=>decide (j.name=js[i].name)) js=i) else false
theorem T1 (s:Str):sOk s=(decide (s.js.length≤6)&& decide (s.ms.length≤8)&& decide (∀i,i<s.js.length→jOk s.js i=true)&& s.ms.all (mOk s.js)):=by
 unfold sOk
 congr 2
 rw[Bool.eq_iff_iff]
 simp only[decide_eq_true_eq]
 constructor
 ·intro h i hi;simp only[jOk,dif_pos hi,Bool.and_eq_true,decide_eq_true_eq];exact h i hi
 ·intro h i hi;have:=h i hi;simp only[jOk,dif_pos hi,Bool.and_eq_true,decide_eq_true_eq] at this;exact this
theorem fK (s:Str) (hj:s.js.length≤140737488351232) (hm:s.ms.length≤140737488351232) (hn: ∀j,j∈s.js→j.name.size≤140737488351232):RO Tryz.prog 24 [.agg s.c] (.bool (sOk s)):=by
 refine aI Tryz.func24 rfl rfl (by rw[Tryz.ntmps24];simp) fun bl=> ?_
 rw[Tryz.ntmps24,Tryz.results24]
 refine aC ?_
 simp[Str.c]
 intro g hg0 hg
 refine dN [(1,.loc g 2 0 0)] _ (upd bl g (some ⟨2,[s.c]⟩)) 14 (.bool (! (decide (s.js.length≤6)&& decide (s.ms.length≤8)))) (upd bl g (some ⟨2,[s.c]⟩)) ⟨rfl,by simp,sub_eq (by simp[Str.c])⟩ rfl ?_ ?_
 ·simp[Str.c]
  refine⟨fun h=> .inl (by omega),fun h=> ?_⟩
  rw[Bool.eq_iff_iff];simp;omega
 simp[Str.c]
 refine⟨fun h=> ?_,fun hl1 hl2=> ?_⟩
 ·refine aN [_] 0 rfl ?_ (by simp[hg])
  simp[frz,T1];omega
 refine aK (fun i:Nat=> [(1,.loc g 2 0 0),(16,.sl (jv s.js)),(17,.int .i64 s.js.length),(18,.int .i64 i)]) (fun _=>upd bl g (some ⟨2,[s.c]⟩)) (fun i=>i≤s.js.length∧ ∀j,j<i→jOk s.js j=true) (fun i=>s.js.length - i) _ 0 ⟨Nat.zero_le _,fun j h0=>by omega⟩ ⟨rfl,by simp,sub_eq (by simp[Str.c])⟩ ?_
 intro i ⟨hi,hc⟩
 refine aC ?_
 simp
 refine⟨fun h1=> ?_,fun h1=> ?_⟩
 ·simp[h1,J.c]
  intro g2 hg2 h2g hb2
  refine dN [(1,.loc g 2 0 0),(3,.int .i64 i),(4,.loc g2 4 0 0),(16,.sl (jv s.js)),(17,.int .i64 s.js.length),(18,.int .i64 i)] _ (upd (upd bl g (some ⟨2,[s.c]⟩)) g2 (some ⟨4,[s.js[i].c]⟩)) 33 (.bool (!jOk s.js i)) (upd (upd bl g (some ⟨2,[s.c]⟩)) g2 (some ⟨4,[s.js[i].c]⟩)) ⟨rfl,by simp,sub_eq (by simp[J.c])⟩ rfl ?_ ?_
  ·simp[J.c,h2g,Ne.symm h2g]
   refine aD (tZ s.js[i] (hn _ (List.getElem_mem h1))) ?_
   simp[h2g,Ne.symm h2g,Str.c]
   refine⟨fun h=>by simp[jOk,h1,h],fun h=> ?_⟩
   refine aD (pL s _ hj) ?_
   simp[jOk,h1,h]
   rw[Bool.eq_iff_iff];simp
  simp
  refine⟨fun h3=> ?_,fun h3=> ?_⟩
  ·refine aN [_] 0 rfl ?_ (by simp[hg,hb2])
   have: ¬ ∀i,i<s.js.length→jOk s.js i=true:=fun hh=>by rw[hh i h1] at h3;cases h3
   simp[frz,T1,this]
  ·simp (disch:=omega) [i64_in,aB]
   refine⟨i+1,⟨by omega,fun j hji=> ?_⟩,by omega,rfl,by simp,by simp[h2g,hb2,hg]⟩
   rcases Nat.lt_or_ge j i with hlt | hge
   ·exact hc j hlt
   ·obtain rfl:j=i:=by omega
    exact h3
 ·have cO: ∀i,i<s.js.length→jOk s.js i=true:=fun j hj=>hc j (by omega)
  simp[Str.c]
  refine bS 2 (ys:= [.sl (mv s.ms),.fn 90 [.ptr s.c]]) ?_ (kG s.ms _ _ (fun m=> !mOk s.js m) hm fun m _=>tY s m hj) rfl ?_
  ·simp[frz,dropB,V.cl,Str.c]
  simp
  have hd:decide (∀i,i<s.js.length→jOk s.js i=true)=true:=decide_eq_true cO
  have hs:sOk s= !s.ms.any fun m=> !mOk s.js m:=by
   rw[T1]
   simp only[hl1,hl2,hd,decide_true,Bool.true_and]
   rw[Bool.eq_iff_iff];simp
  exact aN [_] 0 rfl (by rw[hs];rfl) (by simp[hg])

end Go.Proofs.YticmgmemnpcbbaaGreat.Vm

namespace Go.Proofs.YticmgmemnpcbbaaGreat.Vm
open Go Go.Proofs
set_option linter.unusedSimpArgs false
set_option linter.unusedVariables false

theorem rA (a:List Int) (f:FuncId) (cap:List V) (p:Int→Bool) (ha:a.length≤140737488351232) (hf: ∀j,j∈a→RO Tryz.prog f (V.int .i64 j::cap) (.bool (p j))):
  RO Tryz.prog 225 [.sl (iv a),.fn f cap] (.int .i64 (ixf p a)):=by
 refine aI Tryz.func225 rfl rfl (by rw[Tryz.ntmps225];simp) fun bl=> ?_
 rw[Tryz.ntmps225,Tryz.results225]
 refine aC ?_
 simp
 refine aK (fun i:Nat=> [(0,.sl (iv a)),(1,.fn f cap),(7,.int .i64 a.length),(8,.int .i64 i)]) (fun _=>bl) (fun i=>i≤a.length∧ ∀j (h1:j<a.length),j<i→p a[j]=false) (fun i=>a.length - i) _ 0 ⟨Nat.zero_le _,fun j _ h0=>by omega⟩ ⟨rfl,by simp,Sub.refl _⟩ ?_
 intro i ⟨hi,hc⟩
 refine aC ?_
 simp
 refine⟨fun h1=> ?_,fun h1=> ?_⟩
 ·simp[h1]
  refine aD (hf _ (List.getElem_mem h1)) ?_
  simp
  refine⟨fun h2=> ?_,fun h2=> ?_⟩
  ·exact aM (by simp[nG h1 hc h2]) rfl rfl
  ·simp (disch:=omega) [i64_in,aB]
   refine⟨i+1,⟨by omega,fun j hj1 hji=> ?_⟩,by omega,rfl,by simp,Sub.refl _⟩
   rcases Nat.lt_or_ge j i with hlt | hge
   ·exact hc j hj1 hlt
   ·obtain rfl:j=i:=by omega
    exact h2
 ·exact aM (by simp[qR fun j hj=>hc j hj (by omega)]) rfl rfl
theorem iK (a:List Int) (f:FuncId) (cap:List V) (p:Int→Bool) (ha:a.length≤140737488351232) (hf: ∀j,j∈a→RO Tryz.prog f (V.int .i64 j::cap) (.bool (p j))):
  RO Tryz.prog 154 [.sl (iv a),.fn f cap] (.bool (a.any p)):=by
 refine aI Tryz.func154 rfl rfl (by rw[Tryz.ntmps154];simp) fun bl=> ?_
 rw[Tryz.ntmps154,Tryz.results154]
 refine aC ?_
 simp
 refine aD (rA a f cap p ha hf) ?_
 simp
 exact aM (by simp[S7]) rfl rfl
def iJ (n:Int):Bool:=decide (-100≤n)&& decide (n≤100)
def jJ (js:List J) (l:List Int):Bool:=decide (l.length=2*js.length)&& l.all iJ
def lOk (s:Str) (l:List Int):Bool:=sOk s && jJ s.js l
theorem T0 (n:Int):RO Tryz.prog 156 [.int .i64 n] (.bool (iJ n)):=by
 refine aI Tryz.func156 rfl rfl (by rw[Tryz.ntmps156];simp) fun bl=> ?_
 rw[Tryz.ntmps156,Tryz.results156]
 refine aC ?_
 simp
 refine dN [(0,.int .i64 n)] _ bl 2 (.bool (iJ n)) bl ⟨rfl,by simp,Sub.refl _⟩ rfl ?_ ?_
 ·simp[iJ];grind
 simp
 exact aM (by simp) rfl rfl
theorem D5 (n:Int):RO Tryz.prog 155 [.int .i64 n] (.bool (!iJ n)):=by
 refine aI Tryz.func155 rfl rfl (by rw[Tryz.ntmps155];simp) fun bl=> ?_
 rw[Tryz.ntmps155,Tryz.results155]
 refine aC ?_
 simp
 refine aD (T0 n) ?_
 simp
 exact aM (by simp) rfl rfl
theorem P6 (s:Str) (l:List Int) (hj:s.js.length≤140737488351232) (hl:l.length≤140737488351232):RO Tryz.prog 79 [.ptr s.c,.sl (iv l)] (.bool (jJ s.js l)):=by
 refine aI Tryz.func79 rfl rfl (by rw[Tryz.ntmps79];simp) fun bl=> ?_
 rw[Tryz.ntmps79,Tryz.results79]
 refine aC ?_
 simp
 refine dN [(0,.ptr s.c),(1,.sl (iv l))] _ bl 4 (.bool (jJ s.js l)) bl ⟨rfl,by simp,Sub.refl _⟩ rfl ?_ ?_
 ·simp[Str.c]
  simp (disch:=omega) [i64_in]
  refine⟨fun h=> ?_,fun h=> ?_⟩
  ·refine aD (iK l _ [] (fun n=> !iJ n) hl fun n _=>D5 n) ?_
   simp
   have:l.length=2*s.js.length:=by omega
   simp[jJ,this]
   rw[Bool.eq_iff_iff];simp
  ·have: ¬ l.length=2*s.js.length:=by omega
   simp[jJ,this]
 simp
 exact aM (by simp) rfl rfl
theorem jE (s:Str) (l:List Int) (hj:s.js.length≤140737488351232) (hm:s.ms.length≤140737488351232) (hn: ∀j,j∈s.js→j.name.size≤140737488351232) (hl:l.length≤140737488351232):RO Tryz.prog 23 [.agg s.c,.sl (iv l)] (.bool (lOk s l)):=by
 refine aI Tryz.func23 rfl rfl (by rw[Tryz.ntmps23];simp) fun bl=> ?_
 rw[Tryz.ntmps23,Tryz.results23]
 refine aC ?_
 simp[Str.c]
 intro g hg0 hg
 refine aV [(1,.sl (iv l)),(2,.loc g 2 0 0)] _ _ 4 (.bool (lOk s l)) ⟨rfl,by simp,Sub.refl _⟩ rfl ?_ ?_
 ·simp
  refine aD (fK s hj hm hn) ?_
  simp
  refine⟨fun h=> ?_,fun h=> ?_⟩
  ·refine bS 2 (ys:= [.ptr s.c,.sl (iv l)]) ?_ (P6 s l hj hl) rfl ?_
   ·simp[frz,dropB,V.cl,Str.c]
   simp[lOk,h]
  ·simp[lOk,h]
 simp
 exact aN [_] 0 rfl rfl (by simp[hg])

structure SOk (s : Str) : Prop where
 nj:s.js.length≤6
 nm:s.ms.length≤8
 pl: ∀i,i<s.js.length→(-50≤(s.js.getD i default).x∧(s.js.getD i default).x≤50)∧(-50≤(s.js.getD i default).y∧(s.js.getD i default).y≤50)
 ix: ∀m,m∈s.ms→(0≤m.a∧m.a<s.js.length)∧(0≤m.b∧m.b<s.js.length)
 kd: ∀m,m∈s.ms→1≤m.kind∧m.kind≤3
theorem rZ {s:Str} (h:sOk s=true):SOk s:=by
 unfold sOk at h
 simp only[Bool.and_eq_true,decide_eq_true_eq] at h
 obtain⟨⟨⟨h1,h2⟩,h3⟩,h4⟩:=h
 refine⟨h1,h2,fun i hi=> ?_,fun m hm=> ?_,fun m hm=> ?_⟩
 ·have:=(h3 i hi).1
  simp[J.ok] at this
  simp[hi]
  omega
 ·have:=List.all_eq_true.1 h4 m hm
  simp[mOk] at this
  omega
 ·have:=List.all_eq_true.1 h4 m hm
  simp[mOk] at this
  omega
theorem SOk.at {s:Str} (h:SOk s) {n:Int} (h0:0≤n) (h1:n<s.js.length):(-50≤(jat s.js n).x∧(jat s.js n).x≤50)∧(-50≤(jat s.js n).y∧(jat s.js n).y≤50):=h.pl n.toNat (by omega)
instance : Inhabited Mb := ⟨⟨0, 0, 0⟩⟩
def vx (s:Str) (m:Mb):Int:=(jat s.js m.b).x - (jat s.js m.a).x
def vy (s:Str) (m:Mb):Int:=(jat s.js m.b).y - (jat s.js m.a).y
def mat (s:Str) (k:Int):Mb:=s.ms.getD k.toNat default
theorem Oi {s:Str} {k:Int} (h0:0≤k) (h1:k<s.ms.length):mat s k∈s.ms:=by
 have:k.toNat<s.ms.length:=by omega
 simp[mat,this]
theorem aBO {s:Str} {k:Int} (h0:0≤k) (h1:k<s.ms.length):(mv s.ms)[k.toNat]? =some (mat s k).c:=by
 have:k.toNat<s.ms.length:=by omega
 simp[mv,mat,this]
theorem nU (s:Str) (k:Int) (hs:SOk s) (h0:0≤k) (h1:k<s.ms.length):RO Tryz.prog 157 [.ptr s.c,.int .i64 k] (.tup [.int .i64 (vx s (mat s k)),.int .i64 (vy s (mat s k))]):=by
 obtain⟨⟨a1,a2⟩,⟨b1,b2⟩⟩:=hs.ix _ (Oi h0 h1)
 have ca:=hs.at a1 a2
 have cb:=hs.at b1 b2
 refine aI Tryz.func157 rfl rfl (by rw[Tryz.ntmps157];simp) fun bl=> ?_
 rw[Tryz.ntmps157,Tryz.results157]
 refine aC ?_
 simp[Str.c,h0,aBO h0 h1,Mb.c]
 intro g hg0 hg
 refine bQ aQ (by kernel_rfl) ?_
 simp[a1,b1,Ax a1 a2,Ax b1 b2,J.c]
 simp (disch:=omega) [i64_in]
 exact aN [_,_] 1 rfl rfl (by simp[hg])
def aDM (s:Str) (k:Int):Int:=if(decide (0≤k)&& decide (k<s.ms.length)&& sOk s)=true then vx s (mat s k) else 0
def aGW (s:Str) (k:Int):Int:=if(decide (0≤k)&& decide (k<s.ms.length)&& sOk s)=true then vy s (mat s k) else 0
def eqX (s:Str) (j:Int) (m:Mb):Int:=if j=m.a then vx s m else if j=m.b then -vx s m else 0
def eqY (s:Str) (j:Int) (m:Mb):Int:=if j=m.a then vy s m else if j=m.b then -vy s m else 0
end Go.Proofs.YticmgmemnpcbbaaGreat.Vm

namespace Go.Proofs.YticmgmemnpcbbaaGreat.Vm
open Go Go.RowKit
set_option linter.unusedSimpArgs false
set_option linter.unusedVariables false
inductive D where
 | c (x : V)
 | s (sz : Nat) (rows : List (List D))
 | p (row : List D)
 | a (cs : List D)
 | t (cs : List D)
 deriving Inhabited
mutual
def OwnD (bl:Int→Option Blk):D→V→List Int→Prop
 | .c x, v, gs => v = x ∧ x.cl = true ∧ gs = []
 | .s sz rows, v, gs => (rows = [] ∧ v = .nils ∧ gs = []) ∨ ∃ g els gs', v = .lsl g sz 0 rows.length ∧ gs = g :: gs' ∧ g ∉ gs' ∧ bl g = some ⟨sz, els⟩ ∧ (g < 0 → els = []) ∧ OwnR bl sz rows els gs'
 | .p row, v, gs => ∃ g e gs', v = .loc g row.length 0 0 ∧ gs = g :: gs' ∧ g ∉ gs' ∧ 0 ≤ g ∧ bl g = some ⟨row.length, [e]⟩ ∧ OwnL bl row e gs'
 | .a cs, v, gs => ∃ vs, v = .agg vs ∧ OwnL bl cs vs gs
 | .t cs, v, gs => ∃ vs, v = .tup vs ∧ OwnL bl cs vs gs
def OwnL (bl:Int→Option Blk):List D→List V→List Int→Prop
 | [], vs, gs => vs = [] ∧ gs = []
 | d :: ds, vs, gs => ∃ v vs' g1 g2, vs = v :: vs' ∧ gs = g1 ++ g2 ∧ (∀ g, g ∈ g1 → g ∉ g2) ∧ OwnD bl d v g1 ∧ OwnL bl ds vs' g2
def OwnR (bl:Int→Option Blk) (sz:Nat):List (List D)→List (List V)→List Int→Prop
 | [], els, gs => els = [] ∧ gs = []
 | r :: rs, els, gs => ∃ e jK g1 g2, els = e :: jK ∧ gs = g1 ++ g2 ∧ (∀ g, g ∈ g1 → g ∉ g2) ∧ e.length = sz ∧ (e.all V.one = true) ∧ OwnL bl r e g1 ∧ OwnR bl sz rs jK g2
end
mutual
def D.fz :D→V
 | .c x => x
 | .s _ rows => .sl (D.fzR rows)
 | .p row => .ptr (D.fzL row)
 | .a cs => .agg (D.fzL cs)
 | .t cs => .tup (D.fzL cs)
def D.fzL :List D→List V
 | [] => []
 | d :: ds => d.fz :: D.fzL ds
def D.fzR :List (List D)→List (List V)
 | [] => []
 | r :: rs => D.fzL r :: D.fzR rs
end
theorem qA : ∀(ds:List D),D.fzL ds=ds.map D.fz
 | [] => by simp [D.fzL]
 | d :: ds => by simp [D.fzL, qA ds]
theorem uI : ∀(rs:List (List D)),D.fzR rs=rs.map fun r=>r.map D.fz
 | [] => by simp [D.fzR]
 | r :: rs => by simp [D.fzR, uI rs, qA]
mutual
theorem OwnD.frame {bl bl':Int→Option Blk} : ∀ {d:D} {v:V} {gs:List Int},OwnD bl d v gs→(∀g,g∈gs→bl' g=bl g)→OwnD bl' d v gs
 | .c x, v, gs, h, _ => by rw [OwnD] at h ⊢; exact h
 | .s sz rows, v, gs, h, hg => by
   rw[OwnD] at h ⊢
   rcases h with h | ⟨g,els,gs',h1,h2,h3,h4,h5,h6⟩
   ·exact .inl h
   ·subst h2
    exact .inr ⟨g,els,gs',h1,rfl,h3,by rw[hg g (by simp)];exact h4,h5,OwnR.frame h6 fun g' hg'=>hg g' (by simp[hg'])⟩
 | .p row, v, gs, h, hg => by
   rw[OwnD] at h ⊢
   obtain⟨g,e,gs',h1,h2,h3,h0,h4,h5⟩:=h
   subst h2
   exact⟨g,e,gs',h1,rfl,h3,h0,by rw[hg g (by simp)];exact h4,OwnL.frame h5 fun g' hg'=>hg g' (by simp[hg'])⟩
 | .a cs, v, gs, h, hg => by
   rw[OwnD] at h ⊢
   obtain⟨vs,h1,h2⟩:=h
   exact⟨vs,h1,OwnL.frame h2 hg⟩
 | .t cs, v, gs, h, hg => by
   rw[OwnD] at h ⊢
   obtain⟨vs,h1,h2⟩:=h
   exact⟨vs,h1,OwnL.frame h2 hg⟩
theorem OwnL.frame {bl bl':Int→Option Blk} : ∀ {ds:List D} {vs:List V} {gs:List Int},OwnL bl ds vs gs→(∀g,g∈gs→bl' g=bl g)→OwnL bl' ds vs gs
 | [], vs, gs, h, _ => by rw [OwnL] at h ⊢; exact h
 | d :: ds, vs, gs, h, hg => by
   rw[OwnL] at h ⊢
   obtain⟨v,vs',g1,g2,h1,h2,h3,h4,h5⟩:=h
   subst h2
   exact⟨v,vs',g1,g2,h1,rfl,h3,OwnD.frame h4 fun g hgg=>hg g (by simp[hgg]),OwnL.frame h5 fun g hgg=>hg g (by simp[hgg])⟩
theorem OwnR.frame {bl bl':Int→Option Blk} {sz:Nat} : ∀ {rs:List (List D)} {els:List (List V)} {gs:List Int},OwnR bl sz rs els gs→(∀g,g∈gs→bl' g=bl g)→OwnR bl' sz rs els gs
 | [], vs, gs, h, _ => by rw [OwnR] at h ⊢; exact h
 | r :: rs, els, gs, h, hg => by
   rw[OwnR] at h ⊢
   obtain⟨e,jK,g1,g2,h1,h2,h3,h4,h4',h5,h6⟩:=h
   subst h2
   exact⟨e,jK,g1,g2,h1,rfl,h3,h4,h4',OwnL.frame h5 fun g hgg=>hg g (by simp[hgg]),OwnR.frame h6 fun g hgg=>hg g (by simp[hgg])⟩
end
mutual
theorem OwnD.has {bl:Int→Option Blk} : ∀ {d:D} {v:V} {gs:List Int},OwnD bl d v gs→ ∀g,g∈gs→ ∃b,bl g=some b
 | .c x, v, gs, h, g, hg => by rw [OwnD] at h; rw [h.2.2] at hg; cases hg
 | .s sz rows, v, gs, h, g, hg => by
   rw[OwnD] at h
   rcases h with ⟨_,_,h⟩| ⟨g0,els,gs',h1,h2,h3,h4,h5,h6⟩
   ·rw[h] at hg;cases hg
   ·subst h2
    rcases List.mem_cons.1 hg with rfl | hg
    ·exact⟨_,h4⟩
    ·exact OwnR.has h6 g hg
 | .p row, v, gs, h, g, hg => by
   rw[OwnD] at h
   obtain⟨g0,e,gs',h1,h2,h3,h0,h4,h5⟩:=h
   subst h2
   rcases List.mem_cons.1 hg with rfl | hg
   ·exact⟨_,h4⟩
   ·exact OwnL.has h5 g hg
 | .a cs, v, gs, h, g, hg => by
   rw[OwnD] at h
   obtain⟨vs,h1,h2⟩:=h
   exact OwnL.has h2 g hg
 | .t cs, v, gs, h, g, hg => by
   rw[OwnD] at h
   obtain⟨vs,h1,h2⟩:=h
   exact OwnL.has h2 g hg
theorem OwnL.has {bl:Int→Option Blk} : ∀ {ds:List D} {vs:List V} {gs:List Int},OwnL bl ds vs gs→ ∀g,g∈gs→ ∃b,bl g=some b
 | [], vs, gs, h, g, hg => by rw [OwnL] at h; rw [h.2] at hg; cases hg
 | d :: ds, vs, gs, h, g, hg => by
   rw[OwnL] at h
   obtain⟨v,vs',g1,g2,h1,h2,h3,h4,h5⟩:=h
   subst h2
   rcases List.mem_append.1 hg with hg | hg
   ·exact OwnD.has h4 g hg
   ·exact OwnL.has h5 g hg
theorem OwnR.has {bl:Int→Option Blk} {sz:Nat} : ∀ {rs:List (List D)} {els:List (List V)} {gs:List Int},OwnR bl sz rs els gs→ ∀g,g∈gs→ ∃b,bl g=some b
 | [], vs, gs, h, g, hg => by rw [OwnR] at h; rw [h.2] at hg; cases hg
 | r :: rs, els, gs, h, g, hg => by
   rw[OwnR] at h
   obtain⟨e,jK,g1,g2,h1,h2,h3,h4,h4',h5,h6⟩:=h
   subst h2
   rcases List.mem_append.1 hg with hg | hg
   ·exact OwnL.has h5 g hg
   ·exact OwnR.has h6 g hg
end
theorem OwnD.sub {bl bl':Int→Option Blk} {d:D} {v:V} {gs:List Int} (h:OwnD bl d v gs) (hs:Sub bl bl'):OwnD bl' d v gs:=h.frame fun g hg=>by
 obtain⟨b,hb⟩:=h.has g hg
 rw[hb,hs g b hb]
theorem OwnL.sub {bl bl':Int→Option Blk} {d:List D} {v:List V} {gs:List Int} (h:OwnL bl d v gs) (hs:Sub bl bl'):OwnL bl' d v gs:=h.frame fun g hg=>by
 obtain⟨b,hb⟩:=h.has g hg
 rw[hb,hs g b hb]
theorem OwnL.length {bl:Int→Option Blk} : ∀ {ds:List D} {vs:List V} {gs:List Int},OwnL bl ds vs gs→vs.length=ds.length
 | [], vs, gs, h => by rw [OwnL] at h; simp [h.1]
 | d :: ds, vs, gs, h => by
   rw[OwnL] at h
   obtain⟨v,vs',g1,g2,h1,h2,h3,h4,h5⟩:=h
   rw[h1];simp[OwnL.length h5]
theorem OwnR.length {bl:Int→Option Blk} {sz:Nat} : ∀ {ds:List (List D)} {vs:List (List V)} {gs:List Int},OwnR bl sz ds vs gs→vs.length=ds.length
 | [], vs, gs, h => by rw [OwnR] at h; simp [h.1]
 | d :: ds, vs, gs, h => by
   rw[OwnR] at h
   obtain⟨v,vs',g1,g2,h1,h2,h3,h4,h4',h5,h6⟩:=h
   rw[h1];simp[OwnR.length h6]
theorem W8 {bl:Int→Option Blk} {n:Nat} {x:V} (h:x.cl=true):frz bl n x=some x:=by
 cases x<;>first | (simp[V.cl] at h;done)| (unfold frz;rfl)
theorem qO {bl:Int→Option Blk} {n:Nat} : ∀ {xs:List V},xs.all V.cl=true→xs.mapM (frz bl n)=some xs
 | [], _ => rfl
 | x :: xs, h => by
   simp only[List.all_cons,Bool.and_eq_true] at h
   rw[List.mapM_cons,W8 h.1,qO h.2];rfl
theorem fP {bl:Int→Option Blk} {n:Nat} : ∀ {xs:List (List V)},xs.all (fun e=>e.all V.cl)=true→xs.mapM (fun e:List V=>e.mapM (frz bl n))=some xs
 | [], _ => rfl
 | x :: xs, h => by
   simp only[List.all_cons,Bool.and_eq_true] at h
   rw[List.mapM_cons,qO h.1,fP h.2];rfl
theorem uP {bl:Int→Option Blk} {n:Nat} {cs:List V} :frz bl (n+1) (.agg cs)=(cs.mapM (frz bl n)).map .agg:=by
 simp only[frz]
 split
 ·rename_i h;rw[qO h];rfl
 ·rfl
theorem A4 {bl:Int→Option Blk} {n:Nat} {cs:List V} :frz bl (n+1) (.tup cs)=(cs.mapM (frz bl n)).map .tup:=by
 simp only[frz]
 split
 ·rename_i h;rw[qO h];rfl
 ·rfl
theorem kH {bl:Int→Option Blk} {n sz:Nat} {g:Int} {e:List V} (hb:bl g=some ⟨sz,[e]⟩):frz bl (n+1) (.loc g sz 0 0)=(e.mapM (frz bl n)).map .ptr:=by
 simp only[frz,hb]
 simp only[if_true,List.getElem?_cons_zero,List.drop_zero]
 split
 ·rename_i h;rw[qO h];rfl
 ·rfl
theorem gQ {bl:Int→Option Blk} {n sz:Nat} {g:Int} {els:List (List V)} (h0:0≤g) (hb:bl g=some ⟨sz,els⟩):frz bl (n+1) (.lsl g sz 0 els.length)=(els.mapM (fun e:List V=>e.mapM (frz bl n))).map .sl:=by
 simp only[frz,hb]
 rw[if_neg (by omega),if_pos (by simp)]
 simp only[List.drop_zero,List.take_length]
 split
 ·rename_i h;rw[fP h];rfl
 ·rfl
mutual
def D.dep :Nat→D→Prop
 | _, .c _ => True
 | n, .s _ rows => 1 ≤ n ∧ D.depR (n - 1) rows
 | n, .p row => 1 ≤ n ∧ D.depL (n - 1) row
 | n, .a cs => 1 ≤ n ∧ D.depL (n - 1) cs
 | n, .t cs => 1 ≤ n ∧ D.depL (n - 1) cs
def D.depL :Nat→List D→Prop
 | _, [] => True
 | n, d :: ds => d.dep n ∧ D.depL n ds
def D.depR :Nat→List (List D)→Prop
 | _, [] => True
 | n, r :: rs => D.depL n r ∧ D.depR n rs
end
mutual
theorem OwnD.frz {bl:Int→Option Blk} : ∀ {d:D} {n:Nat} {v:V} {gs:List Int},OwnD bl d v gs→d.dep n→Vm.frz bl n v=some d.fz
 | .c x, n, v, gs, h, _ => by rw [OwnD] at h; rw [h.1, W8 h.2.1, D.fz]
 | .s sz rows, n, v, gs, h, hn => by
   rw[OwnD] at h;rw[D.dep] at hn;rw[D.fz]
   obtain⟨n,rfl⟩: ∃m,n=m+1:=⟨n - 1,by omega⟩
   rw[Nat.add_sub_cancel] at hn
   rcases h with ⟨rfl,rfl,_⟩| ⟨g0,els,gs',h1,h2,h3,h4,h5,h6⟩
   ·simp[Vm.frz,D.fzR]
   ·have hl:=OwnR.length h6
    rw[h1,←hl]
    rcases Int.lt_or_le g0 0 with hg | hg
    ·have:=h5 hg
     subst this
     have:rows= []:=List.eq_nil_of_length_eq_zero (by simpa using hl.symm)
     subst this
     simp[Vm.frz,hg,D.fzR]
    ·rw[gQ hg h4,OwnR.frz h6 hn.2];rfl
 | .p row, n, v, gs, h, hn => by
   rw[OwnD] at h;rw[D.dep] at hn;rw[D.fz]
   obtain⟨n,rfl⟩: ∃m,n=m+1:=⟨n - 1,by omega⟩
   rw[Nat.add_sub_cancel] at hn
   obtain⟨g0,e,gs',h1,h2,h3,h0,h4,h5⟩:=h
   rw[h1,kH h4,OwnL.frz h5 hn.2];rfl
 | .a cs, n, v, gs, h, hn => by
   rw[OwnD] at h;rw[D.dep] at hn;rw[D.fz]
   obtain⟨n,rfl⟩: ∃m,n=m+1:=⟨n - 1,by omega⟩
   rw[Nat.add_sub_cancel] at hn
   obtain⟨vs,h1,h2⟩:=h
   rw[h1,uP,OwnL.frz h2 hn.2];rfl
 | .t cs, n, v, gs, h, hn => by
   rw[OwnD] at h;rw[D.dep] at hn;rw[D.fz]
   obtain⟨n,rfl⟩: ∃m,n=m+1:=⟨n - 1,by omega⟩
   rw[Nat.add_sub_cancel] at hn
   obtain⟨vs,h1,h2⟩:=h
   rw[h1,A4,OwnL.frz h2 hn.2];rfl
theorem OwnL.frz {bl:Int→Option Blk} : ∀ {ds:List D} {n:Nat} {vs:List V} {gs:List Int},OwnL bl ds vs gs→D.depL n ds→vs.mapM (Vm.frz bl n)=some (D.fzL ds)
 | [], n, vs, gs, h, _ => by rw [OwnL] at h; rw [h.1, D.fzL]; rfl
 | d :: ds, n, vs, gs, h, hn => by
   rw[OwnL] at h;rw[D.depL] at hn;rw[D.fzL]
   obtain⟨v,vs',g1,g2,h1,h2,h3,h4,h5⟩:=h
   rw[h1,List.mapM_cons,OwnD.frz h4 hn.1,OwnL.frz h5 hn.2];rfl
theorem OwnR.frz {bl:Int→Option Blk} {sz:Nat} : ∀ {rs:List (List D)} {n:Nat} {els:List (List V)} {gs:List Int},OwnR bl sz rs els gs→D.depR n rs→els.mapM (fun e:List V=>e.mapM (Vm.frz bl n))=some (D.fzR rs)
 | [], n, vs, gs, h, _ => by rw [OwnR] at h; rw [h.1, D.fzR]; rfl
 | r :: rs, n, els, gs, h, hn => by
   rw[OwnR] at h;rw[D.depR] at hn;rw[D.fzR]
   obtain⟨e,jK,g1,g2,h1,h2,h3,h4,h4',h5,h6⟩:=h
   rw[h1,List.mapM_cons,OwnL.frz h5 hn.1,OwnR.frz h6 hn.2];rfl
end
mutual
def V.ow :V→Bool
 | .bool _ | .int _ _ | .str _ | .nilp | .nils | .sle | .lsl _ _ _ _ | .loc _ _ _ _ => true
 | .agg vs => V.owL vs
 | .tup vs => V.owL vs
 | _ => false
def V.owL :List V→Bool
 | [] => true
 | v :: vs => v.ow && V.owL vs
end
theorem S1 : ∀ {vs:List V},(∀v,v∈vs→v.ow=true)→V.owL vs=true
 | [], _ => by rw [V.owL]
 | x :: vs, h => by
   rw[V.owL,Bool.and_eq_true]
   exact⟨h x List.mem_cons_self,S1 fun v hv=>h v (List.mem_cons_of_mem _ hv)⟩
section
variable {P : Program} {w0 : World} {M F : Nat → Prop} {w : World} {bl : Int → Option Blk}
mutual
def D.sc :D→Bool
 | .c x => x.ow
 | .s _ rows => D.scR rows
 | .p row => D.scL row
 | .a cs => D.scL cs
 | .t cs => D.scL cs
def D.scL :List D→Bool
 | [] => true
 | d :: ds => d.sc && D.scL ds
def D.scR :List (List D)→Bool
 | [] => true
 | r :: rs => D.scL r && D.scR rs
end
def owB (bl:Int→Option Blk) (g:Int):Prop:= ∃sz els,bl g=some ⟨sz,els⟩∧ ∀e,e∈els→ ∀x,x∈e→x.ow=true
mutual
theorem OwnD.ow : ∀ {d:D} {v:V} {gs:List Int},OwnD bl d v gs→d.sc=true→v.ow=true∧ ∀g,g∈gs→owB bl g
 | .c x, v, gs, h, hs => by
   rw[OwnD] at h;rw[D.sc] at hs
   obtain⟨rfl,h2,rfl⟩:=h
   exact⟨hs,fun g hg=>by cases hg⟩
 | .s sz rows, v, gs, h, hs => by
   rw[OwnD] at h;rw[D.sc] at hs
   rcases h with ⟨rfl,rfl,rfl⟩| ⟨g0,els,gs',rfl,rfl,h3,h4,h5,h6⟩
   ·exact⟨by rw[V.ow],fun g hg=>by cases hg⟩
   ·obtain⟨k1,k2⟩:=OwnR.ow h6 hs
    refine⟨by rw[V.ow],fun g hg=> ?_⟩
    rcases List.mem_cons.1 hg with rfl | hg
    ·exact⟨sz,els,h4,k1⟩
    ·exact k2 g hg
 | .p row, v, gs, h, hs => by
   rw[OwnD] at h;rw[D.sc] at hs
   obtain⟨g0,e,gs',rfl,rfl,h3,h0,h4,h5⟩:=h
   obtain⟨k1,k3⟩:=OwnL.ow h5 hs
   refine⟨by rw[V.ow],fun g hg=> ?_⟩
   rcases List.mem_cons.1 hg with rfl | hg
   ·exact⟨_,_,h4,fun e' he'=>by
     obtain rfl:e'=e:=by simpa using he'
     exact k1⟩
   ·exact k3 g hg
 | .a cs, v, gs, h, hs => by
   rw[OwnD] at h;rw[D.sc] at hs
   obtain⟨vs,rfl,h2⟩:=h
   obtain⟨k1,k3⟩:=OwnL.ow h2 hs
   exact⟨by rw[V.ow];exact S1 k1,k3⟩
 | .t cs, v, gs, h, hs => by
   rw[OwnD] at h;rw[D.sc] at hs
   obtain⟨vs,rfl,h2⟩:=h
   obtain⟨k1,k3⟩:=OwnL.ow h2 hs
   exact⟨by rw[V.ow];exact S1 k1,k3⟩
theorem OwnL.ow : ∀ {ds:List D} {vs:List V} {gs:List Int},OwnL bl ds vs gs→D.scL ds=true→(∀x,x∈vs→x.ow=true)∧ ∀g,g∈gs→owB bl g
 | [], vs, gs, h, _ => by
   rw[OwnL] at h
   obtain⟨rfl,rfl⟩:=h
   exact⟨fun x hx=>(by cases hx),fun g hg=>by cases hg⟩
 | d :: ds, vs, gs, h, hs => by
   rw[OwnL] at h;rw[D.scL,Bool.and_eq_true] at hs
   obtain⟨v,vs',g1,g2,rfl,rfl,h3,h4,h5⟩:=h
   obtain⟨a1,a4⟩:=OwnD.ow h4 hs.1
   obtain⟨b1,b3⟩:=OwnL.ow h5 hs.2
   refine⟨fun x hx=> ?_,fun g hg=> ?_⟩
   ·rcases List.mem_cons.1 hx with rfl | hx
    ·exact a1
    ·exact b1 x hx
   ·rcases List.mem_append.1 hg with hg | hg
    ·exact a4 g hg
    ·exact b3 g hg
theorem OwnR.ow {sz:Nat} : ∀ {rs:List (List D)} {els:List (List V)} {gs:List Int},OwnR bl sz rs els gs→D.scR rs=true→(∀e,e∈els→ ∀x,x∈e→x.ow=true)∧ ∀g,g∈gs→owB bl g
 | [], vs, gs, h, _ => by
   rw[OwnR] at h
   obtain⟨rfl,rfl⟩:=h
   exact⟨fun e he=>(by cases he),fun g hg=>by cases hg⟩
 | r :: rs, els, gs, h, hs => by
   rw[OwnR] at h;rw[D.scR,Bool.and_eq_true] at hs
   obtain⟨e,jK,g1,g2,rfl,rfl,h3,h4,h4',h5,h6⟩:=h
   obtain⟨a1,a3⟩:=OwnL.ow h5 hs.1
   obtain⟨b1,b2⟩:=OwnR.ow h6 hs.2
   refine⟨fun e' he=> ?_,fun g hg=> ?_⟩
   ·rcases List.mem_cons.1 he with rfl | he
    ·exact a1
    ·exact b1 e' he
   ·rcases List.mem_append.1 hg with hg | hg
    ·exact a3 g hg
    ·exact b2 g hg
end
theorem Mem.sub {bl2:Int→Option Blk} (h:Mem w0 M F bl w) (hs:Sub bl2 bl):Mem w0 M F bl2 w:=by
 refine⟨h.os,h.tape,h.output,h.size,h.frame,h.gP,h.fr,?_,fun g b hb=>h.own g b (hs g b hb),fun g b hb=>h.blk g b (hs g b hb)⟩
 obtain⟨n,hn⟩:=h.fin
 refine⟨n,fun g hg=> ?_⟩
 cases hb:bl2 g with
 | none => rfl
 | some b => have := hs g b hb; rw [hn g hg] at this; cases this
def Made (bl:Int→Option Blk) (d:D) (v:V) (bl':Int→Option Blk):Prop:= ∃gs,OwnD bl' d v gs∧(∀g,g∈gs→bl g=none)∧ ∀g,g∉gs→bl' g=bl g
def NW (P:Program) (f:FuncId) (xs:List V) (d:D):Prop:= ∀bl,bJ P f xs bl (Made bl d)
def Ik (bl:Int→Option Blk) (d:D) (v:V) (bl':Int→Option Blk):Prop:= ∃gs,OwnD bl' d v gs∧(∀g,g∈gs→bl g=none)∧Sub bl bl'
theorem pN {f:FuncId} {xs:List V} {d:D} (h:bJ P f xs bl (Ik bl d)):bJ P f xs bl (Made bl d):=
 ⟨h.1,fun w0 M F w vs hm hr=>(h.2 w0 M F w vs hm hr).mono fun e w' ⟨v,x,bl',F',h1,h2,h3,h4,h5,h6,gs,h7,h8,h9⟩=>by
   refine⟨v,x,fun g=>if g∈gs then bl' g else bl g,F',h1,h2,h3,h4,h5.sub fun g b hb=> ?_,h6,gs,h7.frame fun g hg=>by simp[hg],h8,fun g hg=>by simp[hg]⟩
   split at hb
   ·exact hb
   ·exact h9 g b hb⟩
theorem iQ {f : FuncId} {fn : Func} {c : Code} {xs : List V} {d : D} (hf : P.funcs[f]? = some fn) (hb : fn.body = some c) (hn : (fn.name == "runtime.NumGoroutine") = false) (hl : xs.length ≤ fn.ntmps)
  (h: ∀bl,AW P c (B9 P fn.results.toList (Ik bl d)) ⟨fn.ntmps,fun t=>xs.getD t .junk,bl⟩):NW P f xs d:=fun bl=>pN (aZ hf hb hn hl (h bl))
theorem eE {rs:List ResultVar} {d:D} {σ:St} (vs:List V) (gs:List Int) (h:resV P σ rs=some vs) (ho:OwnD σ.bl d (retV vs) gs) (hf: ∀g,g∈gs→bl g=none) (hs:Sub bl σ.bl):
  B9 P rs (Ik bl d) .ret σ:=by rw[aX];exact⟨vs,h,gs,ho,hf,hs⟩
theorem gG {f:FuncId} {xs:List V} {d:D} {k:V→(Int→Option Blk)→Prop} (h:NW P f xs d)
  (hk: ∀v gs bl',OwnD bl' d v gs→(∀g,g∈gs→bl g=none)→(∀g,g∉gs→bl' g=bl g)→k v bl'):bJ P f xs bl k:=
 (h bl).mono fun v bl' ⟨gs,h1,h2,h3⟩=>hk v gs bl' h1 h2 h3
theorem Made.sub {d:D} {v:V} {gs:List Int} {bl':Int→Option Blk} (h2: ∀g,g∈gs→bl g=none) (h3: ∀g,g∉gs→bl' g=bl g):Sub bl bl':=fun g b hb=>by
 rw[h3 g (fun hg=>by rw[h2 g hg] at hb;cases hb)];exact hb
theorem eH {f:FuncId} {xs:List V} {d:D} (n:Nat) (h:NW P f xs d) (hn:d.dep n):RO P f xs d.fz:=fun bl=>
 sI ((h bl).mono fun v bl' ⟨gs,h1,h2,h3⟩=>⟨n,(OwnD.frame h1 fun g hg=>by unfold dropB;rw[h2 g hg]).frz hn,Made.sub (d:=d) (v:=v) h2 h3⟩) ⟨rfl,rfl⟩
end
theorem cP {bl bl':Int→Option Blk} {g:Int} (hs:Sub bl bl') (h:bl' g=none):bl g=none:=by
 cases hb:bl g with
 | none => rfl
 | some b => have := hs g b hb; rw [h] at this; cases this
@[simp] theorem aIG {bl bl' : Int → Option Blk} {g : Int} (h : bl g = none) : Sub bl (rem bl' g) = Sub bl bl' := by
 apply propext
 constructor
 ·intro hs g' b' hb
  have:=hs g' b' hb
  unfold rem at this
  split at this
  ·cases this
  ·exact this
 ·intro hs;exact hs.rem h
@[simp] theorem aJ (f : Int → Option Blk) (g x : Int) : rem f g x = if x = g then none else f x := rfl
theorem M7 {bl bl':Int→Option Blk} {g:Int} {b:Option Blk} (hs:Sub bl bl'):Sub (upd bl g b) (upd bl' g b):=fun g' b' hb=>by
 rw[aA] at hb ⊢
 split
 ·rename_i h;rw[if_pos h] at hb;exact hb
 ·rename_i h;rw[if_neg h] at hb;exact hs g' b' hb
theorem eP {bl bl':Int→Option Blk} {g:Int} {sz:Nat} {els jK:List (List V)} (he:els=jK) (hs:Sub bl bl'):Sub (upd bl g (some ⟨sz,els⟩)) (upd bl' g (some ⟨sz,jK⟩)):=by
 subst he;exact M7 hs
theorem bZ {P:Program} {c:Code} {K:Ex→St→Prop} {σ:St} (n t:Nat) (v:V) (bl2:Int→Option Blk) (hs:Sub bl2 σ.bl) (hv:frz (dropB σ.bl bl2) n (σ.sl t)=some v) (h:AW P c K ⟨σ.n,upd σ.sl t v,bl2⟩):AW P c K σ:=by
 refine Rp n _ bl2 hs (fun t'=> ?_) h
 by_cases e:t'=t
 ·subst e;right;rw[bO];exact hv
 ·left;exact aL _ _ _ _ e
theorem vG {P:Program} {f:FuncId} {post:List V} {bl:Int→Option Blk} {k:V→(Int→Option Blk)→Prop} (h1:bJ P f (.nils::post) bl k) (h2:bJ P f (.sle::post) bl k):bJ P f (.sl []::post) bl k:=by
 refine⟨h1.1,fun w0 M F w vs hm hr=> ?_⟩
 have key: ∀v,(∀w,Rep F w (.sl []) v→Rep F w .nils v∨Rep F w .sle v):=by
  intro v w h
  generalize hx:V.sl []=x at h
  cases h<;>cases hx
  ·rename_i a cap ha
   cases a with
   | none => rw [ha rfl]; exact .inl .nils
   | some a => exact .inr (.sle a cap)
  ·exact .inr (.sle _ _)
 have h0:=hr.2 0 _ rfl
 have put: ∀y,Rep F w y (vs.getD 0 undef)→Mr F w (y::post) vs:=fun y hy=>⟨by rw[hr.1];rfl,fun i x hx=>by
  cases i with
  | zero => cases hx; exact hy
  | succ i => exact hr.2 (i + 1) x (by simpa using hx)⟩
 rcases key _ w h0 with h | h
 ·exact h1.2 w0 M F w vs hm (put _ h)
 ·exact h2.2 w0 M F w vs hm (put _ h)
theorem qY {P:Program} {c:Code} {K:Ex→St→Prop} {σ:St} {g:Int} {s:Nat} {els:List (List V)} {e:List V} (k j sz:Nat) (hb:σ.bl g=some ⟨s,els⟩) (he:els[k]? =some e) (hj:e[j]? =some .nils)
  (h: ∀g':Int,σ.bl g'=none→g'≠g→AW P c K ⟨σ.n,σ.sl,upd (upd σ.bl g (some ⟨s,els.set k (e.set j (.lsl g' sz 0 0))⟩)) g' (some ⟨sz,[]⟩)⟩):AW P c K σ:=by
 intro w0 M F a w hs
 obtain⟨g',hg0,hgn,hm⟩:=hs.mem.ghost sz
 have hne:g'≠g:=fun h=>by rw[h,hb] at hgn;cases hgn
 have hB:=hs.mem.blk g _ hb
 unfold cA at hB
 have hge: ¬ g<0:=fun h=>by rw[if_pos h] at hB;simp only at hB;rw[hB] at he;cases he
 rw[if_neg hge] at hB
 obtain⟨h1,cs,t,h2,h3,h4⟩:=hB
 refine h g' hgn hne w0 M F a w ⟨?_,hs.size,hs.sl,hs.defers⟩
 have hkl:=(List.getElem?_eq_some_iff.1 he).1
 have hjl:=(List.getElem?_eq_some_iff.1 hj).1
 refine⟨hm.os,hm.tape,hm.output,hm.size,hm.frame,hm.gP,hm.fr,?_,fun x b hx h0=> ?_,fun x b hx=> ?_⟩
 ·obtain⟨n,hn⟩:=hm.fin
  refine⟨min n 0,fun x hx=> ?_⟩
  have:=hn x (by omega)
  show upd _ _ _ x=none
  simp only[aA] at this ⊢
  split
  ·rename_i hh;rw[if_pos hh] at this;exact this
  ·rename_i hh
   rw[if_neg hh] at this
   rw[if_neg (by omega)];exact this
 ·by_cases hxg:x=g
  ·subst hxg;exact hs.mem.own x _ hb h0
  ·refine hm.own x b ?_ h0
   simp only[aA] at hx ⊢
   rw[if_neg hxg] at hx
   exact hx
 ·by_cases hxg:x=g
  ·subst hxg
   simp only[aA] at hx
   rw[if_neg (Ne.symm hne),if_pos trivial] at hx
   cases hx
   unfold cA
   rw[if_neg hge]
   refine⟨h1,cs,t,h2,by simpa using h3,fun k' e' he'=> ?_⟩
   simp only at he' ⊢
   by_cases hkk:k'=k
   ·subst hkk
    rw[List.getElem?_set_self hkl] at he'
    cases he'
    obtain⟨h5,h6⟩:=h4 k' e he
    refine⟨by rw[List.length_set];exact h5,fun j' x' hx'=> ?_⟩
    by_cases hjj:j'=j
    ·subst hjj
     rw[List.getElem?_set_self hjl] at hx'
     cases hx'
     obtain⟨h7,v,h8,h9⟩:=h6 j' _ hj
     refine⟨rfl,v,h8,?_⟩
     cases h9
     exact .lsln g' sz hg0
    ·rw[List.getElem?_set_ne (Ne.symm hjj)] at hx'
     exact h6 j' x' hx'
   ·rw[List.getElem?_set_ne (Ne.symm hkk)] at he'
    exact h4 k' e' he'
  ·refine hm.blk x b ?_
   simp only[aA] at hx ⊢
   rw[if_neg hxg] at hx
   exact hx
def fl (sz:Nat) (rows:List (List V)):D:= .s sz (rows.map fun r=>r.map .c)
theorem aE4 (r:List V):D.fzL (r.map .c)=r:=by
 rw[qA,List.map_map]
 conv=>rhs;rw[←List.map_id r]
 exact List.map_congr_left fun x _=>by simp[D.fz]
@[simp] theorem aNC (sz : Nat) (rows : List (List V)) : (fl sz rows).fz = .sl rows := by
 unfold fl
 rw[D.fz,uI,List.map_map]
 congr 1
 conv=>rhs;rw[←List.map_id rows]
 exact List.map_congr_left fun r _=>by
  show List.map D.fz (r.map .c)=r
  rw[←qA,aE4]
theorem Jq (n:Nat): ∀(r:List V),D.depL n (r.map .c)
 | [] => by simp [D.depL]
 | x :: r => by simp [D.depL, D.dep, Jq n r]
theorem Er (n:Nat): ∀(rows:List (List V)),D.depR n (rows.map fun r=>r.map .c)
 | [] => by simp [D.depR]
 | r :: rs => by simp [D.depR, Jq, Er n rs]
theorem kT (sz:Nat) (rows:List (List V)) (n:Nat):(fl sz rows).dep (n+1):=by
 unfold fl
 rw[D.dep]
 exact⟨by omega,Er _ _⟩
theorem V.Db {x:V} (h:x.cl=true):x.one=true:=by cases x<;>first | rfl | (simp[V.cl] at h)
theorem F7 {bl:Int→Option Blk} : ∀ {r vs:List V} {gs:List Int},r.all V.cl=true→(OwnL bl (r.map .c) vs gs ↔ vs=r∧gs= [])
 | [], vs, gs, _ => by rw [List.map_nil, OwnL]
 | x :: r, vs, gs, h => by
   simp only[List.all_cons,Bool.and_eq_true] at h
   rw[List.map_cons,OwnL]
   constructor
   ·rintro⟨v,vs',g1,g2,rfl,rfl,_,h1,h2⟩
    rw[OwnD] at h1
    obtain⟨rfl,_,rfl⟩:=h1
    obtain⟨rfl,rfl⟩:=(F7 h.2).1 h2
    exact⟨rfl,rfl⟩
   ·rintro⟨rfl,rfl⟩
    exact⟨x,r,[],[],rfl,rfl,fun g hg=>(by cases hg),by rw[OwnD];exact⟨rfl,h.1,rfl⟩,(F7 h.2).2 ⟨rfl,rfl⟩⟩
theorem B8 {bl:Int→Option Blk} {sz:Nat} : ∀ {rows els:List (List V)} {gs:List Int},rows.all (fun r=>r.all V.cl)=true→(∀r,r∈rows→r.length=sz)→(OwnR bl sz (rows.map fun r=>r.map .c) els gs ↔ els=rows∧gs= [])
 | [], els, gs, _, _ => by rw [List.map_nil, OwnR]
 | r :: rows, els, gs, h, hl => by
   simp only[List.all_cons,Bool.and_eq_true] at h
   rw[List.map_cons,OwnR]
   constructor
   ·rintro⟨e,jK,g1,g2,rfl,rfl,_,_,_,h1,h2⟩
    obtain⟨rfl,rfl⟩:=(F7 h.1).1 h1
    obtain⟨rfl,rfl⟩:=(B8 h.2 fun r hr=>hl r (List.mem_cons_of_mem _ hr)).1 h2
    exact⟨rfl,rfl⟩
   ·rintro⟨rfl,rfl⟩
    exact⟨r,rows,[],[],rfl,rfl,fun g hg=>(by cases hg),hl r List.mem_cons_self,List.all_eq_true.2 fun x hx=>V.Db (List.all_eq_true.1 h.1 x hx),(F7 h.1).2 ⟨rfl,rfl⟩,(B8 h.2 fun r hr=>hl r (List.mem_cons_of_mem _ hr)).2 ⟨rfl,rfl⟩⟩
theorem wV {bl:Int→Option Blk} {sz:Nat} {rows:List (List V)} {v:V} {gs:List Int} (h:rows.all (fun r=>r.all V.cl)=true) (hl: ∀r,r∈rows→r.length=sz):
  OwnD bl (fl sz rows) v gs ↔ (rows= []∧v= .nils∧gs= [])∨ ∃g,v= .lsl g sz 0 rows.length∧gs= [g]∧bl g=some ⟨sz,rows⟩∧(g<0→rows= []):=by
 unfold fl
 rw[OwnD]
 constructor
 ·rintro(⟨h1,h2,h3⟩| ⟨g,els,gs',h1,h2,h3,h4,h5,h6⟩)
  ·exact .inl ⟨by simpa using h1,h2,h3⟩
  ·obtain⟨rfl,rfl⟩:=(B8 h hl).1 h6
   exact .inr ⟨g,by simpa using h1,h2,h4,h5⟩
 ·rintro(⟨h1,h2,h3⟩| ⟨g,h1,h2,h4,h5⟩)
  ·exact .inl ⟨by simpa using h1,h2,h3⟩
  ·exact .inr ⟨g,rows,[],by simpa using h1,h2,by simp,h4,h5,(B8 h hl).2 ⟨rfl,rfl⟩⟩
end Go.Proofs.YticmgmemnpcbbaaGreat.Vm

namespace Go.Proofs.YticmgmemnpcbbaaGreat.Vm
open Go Go.Proofs
set_option linter.unusedSimpArgs false
set_option linter.unusedVariables false
theorem Z6 (ns:List Int): ∀r,r∈iv ns→r.length=1:=by
 intro r hr
 obtain⟨n,_,rfl⟩:=List.mem_map.1 hr
 rfl
theorem eM (a b:List Int):iv (a++b)=iv a++iv b:=by simp[iv]
theorem eV (ns:List Int):(iv ns).take ns.length=iv ns:=by rw[←iC ns,List.take_length]
theorem fZ {bl:Int→Option Blk} {ns:List Int} {v:V} {gs:List Int} :OwnD bl (fl 1 (iv ns)) v gs ↔ (ns= []∧v= .nils∧gs= [])∨ ∃g,v= .lsl g 1 0 ns.length∧gs= [g]∧bl g=some ⟨1,iv ns⟩∧(g<0→ns= []):=by
 rw[wV (lS ns) (Z6 ns)]
 simp[iv]
def aS (js:List J) (n:Nat):List Int:=((List.range n).filter fun i=> !(js.getD i default).fixed).map fun(i:Nat)=>(i:Int)
def aH (js:List J):List Int:=aS js js.length
theorem dI (js:List J) (n:Nat):aS js (n+1)=aS js n++if(js.getD n default).fixed then [] else [(n:Int)]:=by
 unfold aS
 rw[List.range_succ,List.filter_append,List.map_append]
 congr 1
 cases h:(js.getD n default).fixed<;>simp only[List.filter_cons,List.filter_nil,h]<;>simp
theorem eW (js:List J) (n:Nat):(aS js n).length≤n:=by
 unfold aS
 rw[List.length_map]
 exact Nat.le_trans (List.length_filter_le _ _) (by simp)
theorem jQ {α:Type} (xs:List α) (i:Nat) (d:α) (h:i<xs.length):xs.getD i d=xs[i]:=by simp[h]
theorem xS (s:Str) (hj:s.js.length≤1048576):NW Tryz.prog 74 [.ptr s.c] (fl 1 (iv (aH s.js))):=by
 refine iQ Tryz.func74 rfl rfl (by rw[Tryz.ntmps74];simp) fun bl=> ?_
 rw[Tryz.ntmps74,Tryz.results74]
 refine aC ?_
 simp[Str.c]
 refine qG 3 1 (by simp) fun g00 oN=> ?_
 refine aK (fun p:Nat×Int=> [(3,.lsl p.2 1 0 (aS s.js p.1).length),(9,.sl (jv s.js)),(10,.int .i64 s.js.length),(11,.int .i64 p.1)]) (fun p=>upd bl p.2 (some ⟨1,iv (aS s.js p.1)⟩)) (fun p=>p.1≤s.js.length∧bl p.2=none∧(p.2<0→aS s.js p.1= [])) (fun p=>s.js.length - p.1) _ (0,g00) ⟨Nat.zero_le _,oN,fun _=>rfl⟩ ⟨rfl,by simp[aS],sub_eq (by simp[aS,iv])⟩ ?_
 rintro⟨i,g⟩ ⟨hi,hg,h0⟩
 simp only at hi hg h0
 have hl:=eW s.js i
 refine aC ?_
 simp
 refine⟨fun h=> ?_,fun h=> ?_⟩
 ·simp[h,J.c]
  intro g1 hg1 h1g hb1
  refine⟨fun hf=> ?_,fun hf=> ?_⟩
  ·intro g2 hg2 h21 h2g hb2
   simp[h1g,h21,h2g,Ne.symm h1g,Ne.symm h21,Ne.symm h2g,appV,elsV,Int.not_lt.2 hg2]
   refine⟨by omega,fun g3 hg3 hb3=> ?_⟩
   have gZ:bl g3=none:=by grind
   simp (disch:=omega) [i64_in,aB]
   have hjf:(s.js.getD i default).fixed=false:=by simpa [h] using hf
   have hs1:aS s.js (i+1)=aS s.js i++ [(i:Int)]:=by rw[dI,hjf];rfl
   refine⟨i+1,g3,⟨by omega,gZ,by omega⟩,by omega,rfl,by simp[hs1],?_⟩
   rw[hs1,eM]
   exact eP (by rw[eV];rfl) (by simp[hg,hb1,hb2,h1g,h21,h2g])
  ·simp (disch:=omega) [i64_in,aB]
   have hjf:(s.js.getD i default).fixed=true:=by simpa [h] using hf
   have hs1:aS s.js (i+1)=aS s.js i:=by rw[dI,hjf];simp
   refine⟨i+1,g,⟨by omega,hg,by rw[hs1];exact h0⟩,by omega,rfl,by simp[hs1],?_⟩
   rw[hs1]
   simp[hb1,h1g]
 ·have hi:i=s.js.length:=by omega
  subst hi
  refine eE [.lsl g 1 0 (aS s.js s.js.length).length] [g] (by simp) ?_ (by simpa using hg) (by simp[hg])
  refine fZ.2 (.inr ⟨g,rfl,rfl,by simp[aH],h0⟩)
end Go.Proofs.YticmgmemnpcbbaaGreat.Vm
