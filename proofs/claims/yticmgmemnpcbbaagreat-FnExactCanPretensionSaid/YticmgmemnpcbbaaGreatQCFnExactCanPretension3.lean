import GoSem.ClaimJoined
import Derived.Laws.Strings
import Derived.Test.YticmgmemnpcbbaaGreatQCFnExactCanPretension2

namespace Go.Proofs.YticmgmemnpcbbaaGreat.Vm
open Go Go.RowKit
set_option linter.unusedSimpArgs false
set_option linter.unusedVariables false
section
variable {α : Type} {k : α → Prop}
@[simp high] theorem O5 (c : Prop) [Decidable c] (o : Option α) : bD (if c then o else none) k = (c ∧ bD o k) := by
 by_cases h:c<;>simp[h]
@[simp] theorem aJY {β : Type} (c : Prop) [Decidable c] (b : β) (x : Option β) : ((if c then some b else x) = none) = (¬ c ∧ x = none) := by
 by_cases h:c<;>simp[h]
@[simp] theorem aEK (bl : Int → Option Blk) : Sub bl bl = True := eq_true (Sub.refl bl)
@[simp] theorem aKN {bl bl' : Int → Option Blk} {g : Int} {b : Option Blk} (h : bl g = none) : Sub bl (upd bl' g b) = Sub bl bl' := by
 apply propext
 constructor
 ·intro hs g' b' hb
  have:=hs g' b' hb
  rw[aG _ _ _ _ (fun e=>by subst e;rw[h] at hb;cases hb)] at this
  exact this
 ·intro hs;exact hs.upd h b
theorem i64_in {n:Int} (h1: -9223372036854775808≤n) (h2:n≤9223372036854775807):IntKind.i64.wrap n=n:=IntWalk.i64_in n ⟨h1,h2⟩
end
section
variable (K : St → Prop) (σ : St) (d : Option Tmp)
def lI (o:Option V):Prop:=bD o fun v=>K (σ.put d v)
def Qs (c a b:V):Prop:=onB c fun t=>K (σ.put d (pickV t a b))
def Y5 (o:Option (List V)):Prop:=bD o fun cs=> ∀g:Int,0≤g→σ.bl g=none→K (({ σ with bl:=upd σ.bl g (some ⟨cs.length,[cs]⟩) } :St).put d (.loc g cs.length 0 0))
def Ug (o:Option (List V)):Prop:=bD o fun r=>K (σ.put d (.agg r))
def Lq (P:Program) (t:TypeId) (ps:List (Nat×V)) (o:Option (List V)):Prop:=bD o fun cs=>okF P t=true∧Ug K σ d (fillV (fPl P t) cs ps)
def Sp (n sz:Nat) (o:Option (List V)):Prop:=bD o fun r=> ∀g:Int,0≤g→σ.bl g=none→K (({ σ with bl:=upd σ.bl g (some ⟨sz,(List.range n).map fun i=>(r.drop (i*sz)).take sz⟩) } :St).put d (.lsl g sz 0 n))
def bsQ (P:Program) (n:Nat) (ps:List (Nat×V)) (o:Option (List V)):Prop:=bD o fun cs=>1≤cs.length∧n*cs.length≤16777216∧Sp K σ d n cs.length (fillV (fun i=>some (i*cs.length,cs.length)) (List.replicate n cs).flatten ps)
def Pz (P:Program) (t:TypeId) (o:Option (List V)):Prop:=bD o fun cs=>lI K σ d (loadV P t cs)
def G4 (P:Program) (t:TypeId) (g:Int) (sz k j:Nat) (b:Blk) (y:V) (o:Option (List V)):Prop:=bD o fun e=>b.sz=sz∧csz P t=some y.cells.length∧j+y.cells.length≤sz∧y.cells.all V.one=true∧
 K (({ σ with bl:=upd σ.bl g (some ⟨sz,b.els.set k (splice e j y.cells)⟩) } :St).put d .junk)
def F4 (P:Program) (t:TypeId) (g:Int) (sz k j:Nat) (y:V) (o:Option Blk):Prop:=bD o fun b=>G4 K σ d P t g sz k j b y (b.els[k]?)
def storeQ (P:Program) (t:TypeId) (x y:V):Prop:=match x with | .loc g sz k j=>F4 K σ d P t g sz k j y (σ.bl g)| _=>False
def Z0 (bz:Nat) (l c:V) (cs:List V):Prop:= ∃n:Nat,l= .int .i64 n∧c= .int .i64 n∧bz*n≤281474976710656∧n≤maxLen∧
 ∀g:Int,0≤g→σ.bl g=none→K (({ σ with bl:=upd σ.bl g (some ⟨cs.length,List.replicate n cs⟩) } :St).put d (.lsl g cs.length 0 n))
def Qd (bz:Nat) (l c:V) (o:Option (List V)):Prop:=bD o fun cs=>Z0 K σ d bz l c cs
def slQ (o:Option TypeId) (k:TypeId→Prop):Prop:=bD o k
def Iq (v:V) (bl':Int→Option Blk):Prop:=K (({ σ with bl:=bl' } :St).put d v)
def Rc (P:Program) (o:Option (FuncId×List V)):Prop:=bD o fun p=>cO P p.1 p.2 σ.bl (Iq K σ d)
def aEC (P:Program) (e:Option TypeId) (o:Option ((Int→Option Blk)×Nat×List (List V))):Prop:=bD o fun p=>
 e.elim False (fun e=>p.2.2.length*bsz P e≤140737488355328∧1≤bsz P e∧ ∃z,zeroC P e=some z∧1≤z.length)∧
 ∀g:Int,(0≤g∨p.2.2= [])→p.1 g=none→K (({ σ with bl:=upd p.1 g (some ⟨p.2.1,p.2.2⟩) } :St).put d (.lsl g p.2.1 0 p.2.2.length))
@[simp] theorem Xs (v : V) : lI K σ d (some v) = K (σ.put d v) := bQ _ _
@[simp] theorem Yi : lI K σ d none = False := Y0 _
@[simp high] theorem aI3 (c : Prop) [Decidable c] (o : Option V) : lI K σ d (if c then o else none) = (c ∧ lI K σ d o) := O5 c o
@[simp high] theorem aDP (c : Prop) [Decidable c] (o : Option V) : lI K σ d (if c then none else o) = (¬ c ∧ lI K σ d o) := by
 by_cases h:c<;>simp[h]
@[simp] theorem Tf (t : Bool) (a b : V) : Qs K σ d (.bool t) a b = K (σ.put d (pickV t a b)) := rfl
@[simp] theorem T2 (cs : List V) : Y5 K σ d (some cs) = ∀ g : Int, 0 ≤ g → σ.bl g = none → K (({ σ with bl := upd σ.bl g (some ⟨cs.length, [cs]⟩) } : St).put d (.loc g cs.length 0 0)) := bQ _ _
@[simp] theorem Yq (r : List V) : Ug K σ d (some r) = K (σ.put d (.agg r)) := bQ _ _
@[simp] theorem Rb (P : Program) (t : TypeId) (ps : List (Nat × V)) (cs : List V) : Lq K σ d P t ps (some cs) = (okF P t = true ∧ Ug K σ d (fillV (fPl P t) cs ps)) := bQ _ _
@[simp] theorem aAW (n sz : Nat) (r : List V) : Sp K σ d n sz (some r) = ∀ g : Int, 0 ≤ g → σ.bl g = none → K (({ σ with bl := upd σ.bl g (some ⟨sz, (List.range n).map fun i => (r.drop (i * sz)).take sz⟩) } : St).put d (.lsl g sz 0 n)) := bQ _ _
@[simp] theorem aH4 (P : Program) (n : Nat) (ps : List (Nat × V)) (cs : List V) : bsQ K σ d P n ps (some cs) = (1 ≤ cs.length ∧ n * cs.length ≤ 16777216 ∧ Sp K σ d n cs.length (fillV (fun i => some (i * cs.length, cs.length)) (List.replicate n cs).flatten ps)) := bQ _ _
@[simp] theorem Tt (P : Program) (t : TypeId) (cs : List V) : Pz K σ d P t (some cs) = lI K σ d (loadV P t cs) := bQ _ _
@[simp] theorem Vh (P : Program) (t : TypeId) (g : Int) (sz k j : Nat) (y : V) : storeQ K σ d P t (.loc g sz k j) y = F4 K σ d P t g sz k j y (σ.bl g) := rfl
@[simp] theorem Ny (P : Program) (t : TypeId) (g : Int) (sz k j : Nat) (y : V) (b : Blk) : F4 K σ d P t g sz k j y (some b) = G4 K σ d P t g sz k j b y (b.els[k]?) := bQ _ _
@[simp] theorem Mz (P : Program) (t : TypeId) (g : Int) (sz k j : Nat) (b : Blk) (y : V) (e : List V) : G4 K σ d P t g sz k j b y (some e) = (b.sz = sz ∧ csz P t = some y.cells.length ∧ j + y.cells.length ≤ sz ∧ y.cells.all V.one = true ∧
 K (({ σ with bl:=upd σ.bl g (some ⟨sz,b.els.set k (splice e j y.cells)⟩) } :St).put d .junk)):=bQ _ _
@[simp] theorem Vv (bz : Nat) (l c : V) (cs : List V) : Qd K σ d bz l c (some cs) = Z0 K σ d bz l c cs := bQ _ _
@[simp] theorem Vq (bz n : Nat) (cs : List V) : Z0 K σ d bz (.int .i64 n) (.int .i64 n) cs = (bz * n ≤ 281474976710656 ∧ n ≤ maxLen ∧
 ∀g:Int,0≤g→σ.bl g=none→K (({ σ with bl:=upd σ.bl g (some ⟨cs.length,List.replicate n cs⟩) } :St).put d (.lsl g cs.length 0 n))):=by
 apply propext
 constructor
 ·rintro⟨m,h1,h2,h3,h4,h5⟩
  have:n=m:=by injection h1 with _ h;omega
  subst this;exact⟨h3,h4,h5⟩
 ·rintro⟨h3,h4,h5⟩;exact⟨n,rfl,rfl,h3,h4,h5⟩
@[simp] theorem aHJ (e : TypeId) (k : TypeId → Prop) : slQ (some e) k = k e := bQ _ _
@[simp] theorem Vr (P : Program) (f : FuncId) (xs : List V) : Rc K σ d P (some (f, xs)) = cO P f xs σ.bl (Iq K σ d) := bQ _ _
@[simp] theorem aBZ (v : V) (bl' : Int → Option Blk) : Iq K σ d v bl' = K (({ σ with bl := bl' } : St).put d v) := rfl
@[simp] theorem Xd (P : Program) (e : TypeId) (b : Int → Option Blk) (sz : Nat) (xs : List (List V)) : aEC K σ d P (some e) (some (b, sz, xs)) = ((xs.length * bsz P e ≤ 140737488355328 ∧ 1 ≤ bsz P e ∧ ∃ z, zeroC P e = some z ∧ 1 ≤ z.length) ∧
 ∀g:Int,(0≤g∨xs= [])→b g=none→K (({ σ with bl:=upd b g (some ⟨sz,xs⟩) } :St).put d (.lsl g sz 0 xs.length))):=bQ _ _
variable (P : Program) (ty : TypeId) (pos : String) (af : Array Edge) (gd : Option (Nat × Bool))
@[simp] theorem aMY (x : Operand) : T P ⟨d, .move x, ty, pos, af, gd⟩ K σ = K (σ.put d (σ.ev x)) := rfl
@[simp] theorem aDC (x : Operand) : T P ⟨d, .assign x, ty, pos, af, gd⟩ K σ = K (σ.put d (σ.ev x)) := rfl
@[simp] theorem aLL (c a b : Operand) : T P ⟨d, .pick c a b, ty, pos, af, gd⟩ K σ = Qs K σ d (σ.ev c) (σ.ev a) (σ.ev b) := rfl
@[simp] theorem aIZ (t : TypeId) : T P ⟨d, .alloc t, ty, pos, af, gd⟩ K σ = Y5 K σ d (zeroC P t) := rfl
@[simp] theorem aON (t : TypeId) (x : Operand) : T P ⟨d, .box t x, ty, pos, af, gd⟩ K σ = ((σ.ev x).cells.all V.one = true ∧ Y5 K σ d (some (σ.ev x).cells)) := by
 rw[T2];rfl
@[simp] theorem aJH (t : TypeId) (ps : Array (Nat × Operand)) : T P ⟨d, .build t ps, ty, pos, af, gd⟩ K σ = Lq K σ d P t (ps.toList.map fun p => (p.1, σ.ev p.2)) (zeroC P t) := rfl
@[simp] theorem Ml (t : TypeId) (n : Nat) (ps : Array (Nat × Operand)) : T P ⟨d, .buildSlice t n ps, ty, pos, af, gd⟩ K σ = slQ (slE P t) fun e => bsQ K σ d P n (ps.toList.map fun p => (p.1, σ.ev p.2)) (zeroC P e) := rfl
@[simp] theorem aNG (t : TypeId) (x : Operand) : T P ⟨d, .load t x, ty, pos, af, gd⟩ K σ = Pz K σ d P t (rdP σ.bl (σ.ev x)) := rfl
@[simp] theorem aLA (t : TypeId) (x y : Operand) : T P ⟨d, .store t x y, ty, pos, af, gd⟩ K σ = storeQ K σ d P t (σ.ev x) (σ.ev y) := by
 unfold T storeQ
 simp only
 generalize σ.ev x=v
 cases v<;>rfl
@[simp] theorem Wf (x : Operand) : T P ⟨d, .nilCheck x, ty, pos, af, gd⟩ K σ = lI K σ d (Ar (σ.ev x)) := rfl
@[simp] theorem aIM (op : BinOp) (t : TypeId) (x y : Operand) (t' : TypeId) : T P ⟨d, .binOp op t x y t', ty, pos, af, gd⟩ K σ = lI K σ d (binV P op t (σ.ev x) (σ.ev y)) := rfl
@[simp] theorem aN6 (op : UnOp) (t : TypeId) (x : Operand) : T P ⟨d, .unOp op t x, ty, pos, af, gd⟩ K σ = lI K σ d (unV op (σ.ev x)) := rfl
@[simp] theorem aAP (s t : TypeId) (x : Operand) : T P ⟨d, .convert s t x, ty, pos, af, gd⟩ K σ = lI K σ d (cvtV P σ.bl s t (σ.ev x)) := rfl
@[simp] theorem Wr (f : FuncId) (cap : Array Operand) : T P ⟨d, .makeFunc (.func f) #[] cap, ty, pos, af, gd⟩ K σ = K (σ.put d (.fn f (cap.toList.map σ.ev))) := by
 show(_∧_)=_
 simp
@[simp] theorem Pu (t : TypeId) (l c : Operand) : T P ⟨d, .makeSlice t l c, ty, pos, af, gd⟩ K σ = slQ (slE P t) fun e => Qd K σ d (bsz P e) (σ.ev l) (σ.ev c) (zeroC P e) := rfl
@[simp] theorem aKW (t : TypeId) (x : Operand) (lo hi : Option Operand) : T P ⟨d, .slice t x lo hi none, ty, pos, af, gd⟩ K σ = lI K σ d (sliV P t (σ.ev x) (lo.map σ.ev) (hi.map σ.ev)) := rfl
@[simp] theorem Qx (t : TypeId) (x : Operand) (i : Nat) : T P ⟨d, .fieldAddr t x i, ty, pos, af, gd⟩ K σ = lI K σ d (fldV P t i (σ.ev x)) := rfl
@[simp] theorem aLC (t : TypeId) (x : Operand) (i : Nat) : T P ⟨d, .field t x i, ty, pos, af, gd⟩ K σ = lI K σ d (fieldV P t i (σ.ev x)) := rfl
@[simp] theorem Rf (t : TypeId) (x i : Operand) : T P ⟨d, .indexAddr t x i, ty, pos, af, gd⟩ K σ = lI K σ d (idxV P t (σ.ev x) (σ.ev i)) := rfl
@[simp] theorem aI7 (t : TypeId) (x i : Operand) : T P ⟨d, .index t x i, ty, pos, af, gd⟩ K σ = lI K σ d (idsV P t (σ.ev x) (σ.ev i)) := rfl
@[simp] theorem aAS (x : Operand) (i : Nat) : T P ⟨d, .extract x i, ty, pos, af, gd⟩ K σ = lI K σ d (extV i (σ.ev x)) := rfl
@[simp] theorem aHN (t : TypeId) (x i : Operand) (co : Bool) : T P ⟨d, .lookup t x i co, ty, pos, af, gd⟩ K σ = lI K σ d (lkV P t (σ.ev x) (σ.ev i) co) := rfl
@[simp] theorem aMC (f : Operand) (args : Array Operand) (ats : Array TypeId) : T P ⟨d, .call { callee := .value f, args := args, argTypes := ats }, ty, pos, af, gd⟩ K σ = Rc K σ d P (callV σ f args.toList) := rfl
@[simp] theorem aOH (x : Operand) (t : TypeId) : T P ⟨d, .call { callee := .builtin .len, args := #[x], argTypes := #[t] }, ty, pos, af, gd⟩ K σ = lI K σ d (lenV P t (σ.ev x)) := by
 show(∃v,_∧_∧_∧_)=(∃v,_∧_)
 simp
@[simp] theorem aO8 (x y : Operand) (ts : Array TypeId) : T P ⟨d, .call { callee := .builtin .min, args := #[x, y], argTypes := ts }, ty, pos, af, gd⟩ K σ = lI K σ d (minV (σ.ev x) (σ.ev y)) := by
 show(∃v,_∧_∧_)=(∃v,_∧_)
 simp
@[simp] theorem aHP (x y : Operand) (t tx : TypeId) : T P ⟨d, .call { callee := .builtin .append, args := #[x, y], argTypes := #[t, tx] }, ty, pos, af, gd⟩ K σ = aEC K σ d P (slE P t) (appV P t tx σ.bl (σ.ev x) (σ.ev y)) := by
 show(∃p,_∧_∧_∧_∧_)=(∃p,_∧_∧_)
 simp
end
def OpsF (P:Program) (ds:List (Option Tmp)):List Oper→(St→Prop)→St→Prop
 | [], K, σ => K σ
 | o :: rest, K, σ => match o.guard with
   | none=>T P o (OpsF P ds rest K) σ
   | some (j,b)=>match ds[j]? with
     | some (some d)=>match σ.ev (.tmp d) with
       | .bool q=>(q=true→if b=true then T P o (OpsF P ds rest K) (σ.put (some d) (.bool true)) else OpsF P ds rest K ((σ.put (some d) (.bool true)).put o.dst (.tup [])))∧
          (q=false→if b=false then T P o (OpsF P ds rest K) (σ.put (some d) (.bool false)) else OpsF P ds rest K ((σ.put (some d) (.bool false)).put o.dst (.tup [])))
       | .tup []=>OpsF P ds rest K (σ.put o.dst (.tup []))
       | _=>False
     | _=>False
def iA (P:Program) (ds:List (Option Tmp)) (b:Bool) (o:Oper) (rest:List Oper) (K:St→Prop) (d:Tmp) (σ:St) (x:V):Prop:=match x with
 | .bool q => (q = true → if b = true then T P o (OpsF P ds rest K) (σ.put (some d) (.bool true)) else OpsF P ds rest K ((σ.put (some d) (.bool true)).put o.dst (.tup []))) ∧
    (q=false→if b=false then T P o (OpsF P ds rest K) (σ.put (some d) (.bool false)) else OpsF P ds rest K ((σ.put (some d) (.bool false)).put o.dst (.tup [])))
 | .tup [] => OpsF P ds rest K (σ.put o.dst (.tup []))
 | _ => False
def Gm (P:Program) (ds:List (Option Tmp)) (b:Bool) (o:Oper) (rest:List Oper) (K:St→Prop) (σ:St) (x:Option (Option Tmp)):Prop:=match x with
 | some (some d) => iA P ds b o rest K d σ (σ.ev (.tmp d))
 | _ => False
section
variable (P : Program) (ds : List (Option Tmp)) (K : St → Prop) (σ : St) (d : Option Tmp) (op : Op) (ty : TypeId) (pos : String) (af : Array Edge) (rest : List Oper) (b : Bool) (o : Oper) (t : Tmp)
@[simp] theorem aGM : OpsF P ds [] K σ = K σ := rfl
@[simp] theorem Zm : OpsF P ds (⟨d, op, ty, pos, af, none⟩ :: rest) K σ = T P ⟨d, op, ty, pos, af, none⟩ (OpsF P ds rest K) σ := rfl
@[simp] theorem Uw (j : Nat) : OpsF P ds (⟨d, op, ty, pos, af, some (j, b)⟩ :: rest) K σ = Gm P ds b ⟨d, op, ty, pos, af, some (j, b)⟩ rest K σ (ds[j]?) := rfl
@[simp] theorem Rh : Gm P ds b o rest K σ (some (some t)) = iA P ds b o rest K t σ (σ.ev (.tmp t)) := rfl
@[simp] theorem Yg : iA P ds true o rest K t σ (.bool true) = T P o (OpsF P ds rest K) (σ.put (some t) (.bool true)) := by simp [iA]
@[simp] theorem aAH : iA P ds true o rest K t σ (.bool false) = OpsF P ds rest K ((σ.put (some t) (.bool false)).put o.dst (.tup [])) := by simp [iA]
@[simp] theorem aAU : iA P ds false o rest K t σ (.bool true) = OpsF P ds rest K ((σ.put (some t) (.bool true)).put o.dst (.tup [])) := by simp [iA]
@[simp] theorem aAF : iA P ds false o rest K t σ (.bool false) = T P o (OpsF P ds rest K) (σ.put (some t) (.bool false)) := by simp [iA]
@[simp] theorem Pt : iA P ds b o rest K t σ (.tup []) = OpsF P ds rest K (σ.put o.dst (.tup [])) := rfl
@[simp low] theorem Qn (q : Bool) : iA P ds true o rest K t σ (.bool q) = ((q = true → T P o (OpsF P ds rest K) (σ.put (some t) (.bool true))) ∧ (q = false → OpsF P ds rest K ((σ.put (some t) (.bool false)).put o.dst (.tup [])))) := by simp [iA]
@[simp low] theorem Ly (q : Bool) : iA P ds false o rest K t σ (.bool q) = ((q = true → OpsF P ds rest K ((σ.put (some t) (.bool true)).put o.dst (.tup []))) ∧ (q = false → T P o (OpsF P ds rest K) (σ.put (some t) (.bool false)))) := by simp [iA]
end
theorem vR {P:Program} {ds:List (Option Tmp)} {K:St→Prop} : ∀ {l:List Oper} {σ:St},OpsF P ds l K σ→Ops P ds l K σ
 | [], σ, h => h
 | o :: rest, σ, h => by
   have ih: ∀σ,OpsF P ds rest K σ→Ops P ds rest K σ:=fun σ=>vR
   unfold OpsF at h
   unfold Ops
   split
   ·rename_i hg;simp only[hg] at h;exact iN h ih
   ·rename_i j b hg
    simp only[hg] at h
    split
    ·rename_i d hd
     simp only[hd] at h
     split at h
     ·rename_i q hq
      obtain⟨h1,h2⟩:=h
      rw[hq,yQ]
      refine⟨fun hb=> ?_,fun hb=> ?_⟩
      ·subst hb
       cases q
       ·exact iN (h2 rfl) ih
       ·exact iN (h1 rfl) ih
      ·cases b
       ·subst hb;exact ih _ (h1 rfl)
       ·subst hb;exact ih _ (h2 rfl)
     ·rename_i hq
      rw[hq,vN]
      exact ih _ h
     ·exact h.elim
    ·rename_i hd
     split at h
     ·rename_i d hd2;exact absurd hd2 (hd d)
     ·exact h
def runC (P:Program):Code→(Ex→St→Prop)→St→Prop
 | .skip, K, σ => K .normal σ
 | .seq x y, K, σ => runC P x (fun e σ' => match e with | .normal => runC P y K σ' | .exit i => K (.exit i) σ' | .ret => K .ret σ') σ
 | .region id ops true, K, σ => AW P (.region id ops true) K σ
 | .region id ops false, K, σ => if ops.toList.any (fun o => o.guard.isSome) = true then AW P (.region id ops false) K σ else OpsF P (ops.toList.map (·.dst)) ops.toList (K .normal) σ
 | .cond c x y, K, σ => onB (σ.ev c) fun b => (b = true → runC P x K σ) ∧ (b = false → runC P y K σ)
 | .block id c, K, σ => runC P c (tH id K) σ
 | .loop c, K, σ => AW P (.loop c) K σ
 | .exit i, K, σ => K (.exit i) σ
 | .ret, K, σ => K .ret σ
 | _, _, _ => False
def Hr (P:Program) (y:Code) (K:Ex→St→Prop) (e:Ex) (σ:St):Prop:=match e with | .normal=>runC P y K σ | .exit i=>K (.exit i) σ | .ret=>K .ret σ
@[simp] theorem Qk (P : Program) (y : Code) (K : Ex → St → Prop) (σ : St) : Hr P y K .normal σ = runC P y K σ := rfl
@[simp] theorem Wx (P : Program) (y : Code) (K : Ex → St → Prop) (i : Nat) (σ : St) : Hr P y K (.exit i) σ = K (.exit i) σ := rfl
@[simp] theorem aBW (P : Program) (y : Code) (K : Ex → St → Prop) (σ : St) : Hr P y K .ret σ = K .ret σ := rfl
def xS (P:Program) (x y:Code) (K:Ex→St→Prop) (σ:St) (v:V):Prop:=onB v fun b=>(b=true→runC P x K σ)∧(b=false→runC P y K σ)
@[simp] theorem Ww (P : Program) (K : Ex → St → Prop) (σ : St) : runC P .skip K σ = K .normal σ := rfl
@[simp] theorem aH9 (P : Program) (x y : Code) (K : Ex → St → Prop) (σ : St) : runC P (.seq x y) K σ = runC P x (Hr P y K) σ := rfl
@[simp] theorem Zx (P : Program) (id : Nat) (ops : Array Oper) (K : Ex → St → Prop) (σ : St) : runC P (.region id ops true) K σ = AW P (.region id ops true) K σ := rfl
@[simp] theorem Qh (P : Program) (id : Nat) (ops : Array Oper) (K : Ex → St → Prop) (σ : St) : runC P (.region id ops false) K σ = if ops.toList.any (fun o => o.guard.isSome) = true then AW P (.region id ops false) K σ else OpsF P (ops.toList.map (·.dst)) ops.toList (K .normal) σ := rfl
@[simp] theorem aAN (P : Program) (c : Operand) (x y : Code) (K : Ex → St → Prop) (σ : St) : runC P (.cond c x y) K σ = xS P x y K σ (σ.ev c) := rfl
@[simp] theorem Vx (P : Program) (x y : Code) (K : Ex → St → Prop) (σ : St) : xS P x y K σ (.bool true) = runC P x K σ := by simp [xS]
@[simp] theorem Pp (P : Program) (x y : Code) (K : Ex → St → Prop) (σ : St) : xS P x y K σ (.bool false) = runC P y K σ := by simp [xS]
@[simp low] theorem Uz (P : Program) (x y : Code) (K : Ex → St → Prop) (σ : St) (q : Bool) : xS P x y K σ (.bool q) = ((q = true → runC P x K σ) ∧ (q = false → runC P y K σ)) := by simp [xS]
@[simp] theorem Wm (P : Program) (id : Nat) (c : Code) (K : Ex → St → Prop) (σ : St) : runC P (.block id c) K σ = runC P c (tH id K) σ := rfl
@[simp] theorem Zj (P : Program) (c : Code) (K : Ex → St → Prop) (σ : St) : runC P (.loop c) K σ = AW P (.loop c) K σ := rfl
@[simp] theorem Xi (P : Program) (i : Nat) (K : Ex → St → Prop) (σ : St) : runC P (.exit i) K σ = K (.exit i) σ := rfl
@[simp] theorem aFR (P : Program) (K : Ex → St → Prop) (σ : St) : runC P .ret K σ = K .ret σ := rfl
theorem aC {P:Program} : ∀ {c:Code} {K:Ex→St→Prop} {σ:St},runC P c K σ→AW P c K σ
 | .skip, K, σ, h => Lz h
 | .seq x y, K, σ, h => by
   have h1:AW P x (Hr P y K) σ:=aC h
   refine aM (h1.mono fun e σ' h'=> ?_)
   cases e with
   | normal=>exact aC h'
   | exit i=>exact h'
   | ret=>exact h'
 | .region id ops true, K, σ, h => h
 | .region id ops false, K, σ, h => by
   unfold runC at h
   split at h
   ·exact h
   ·exact sM (vR h)
 | .cond c x y, K, σ, h => by
   unfold runC at h
   obtain⟨q,hq,h1,h2⟩:=lW h
   exact Ot ⟨q,hq,fun h=>aC (h1 h),fun h=>aC (h2 h)⟩
 | .block id c, K, σ, h => aR (aC h)
 | .loop c, K, σ, h => h
 | .exit i, K, σ, h => Oz h
 | .ret, K, σ, h => Wh h
 | .rangeFunc .., _, _, h => h.elim
 | .scope _, _, _, h => h.elim
 | .label _, _, _, h => h.elim
 | .goto _, _, _, h => h.elim
def part (xs:List (List V)) (z:List V) (i:Nat):List (List V):=xs.take i++List.replicate (xs.length - i) z
@[simp] theorem tL (xs : List (List V)) (z : List V) : part xs z 0 = List.replicate xs.length z := by simp [part]
theorem gK (xs:List (List V)) (z:List V) (i:Nat) (h:xs.length≤i):part xs z i=xs:=by simp[part,List.take_of_length_le h,Nat.sub_eq_zero_of_le h]
theorem tR (xs:List (List V)) (z:List V) (i:Nat):(part xs z i).length=xs.length:=by simp[part];omega
theorem fC (xs:List (List V)) (z:List V) (i:Nat) (h:i<xs.length):(part xs z i)[i]? =some z:=by
 unfold part
 rw[List.getElem?_append_right (by simp;omega)]
 rw[List.getElem?_replicate,if_pos (by simp;omega)]
theorem cP (xs:List (List V)) (z:List V) (i:Nat) (h:i<xs.length) (x:List V) (hx:x=xs[i]):(part xs z i).set i x=part xs z (i+1):=by
 subst hx
 apply List.ext_getElem?
 intro j
 have hz: ∀k,k≤xs.length→ ∀j,(part xs z k)[j]? =if j<k then xs[j]? else if j<xs.length then some z else none:=by
  intro k hk j
  unfold part
  by_cases hj:j<k
  ·rw[if_pos hj,List.getElem?_append_left (by simp;omega),List.getElem?_take_of_lt hj]
  ·rw[if_neg hj,List.getElem?_append_right (by simp;omega),List.getElem?_replicate]
   simp only[List.length_take]
   by_cases h2:j<xs.length
   ·rw[if_pos (by omega),if_pos h2]
   ·rw[if_neg (by omega),if_neg h2]
 rw[List.getElem?_set,hz i (by omega),hz (i+1) (by omega),tR]
 by_cases hij:i=j
 ·subst hij;simp[h]
 ·rw[if_neg hij]
  by_cases h1:j<i
  ·simp[h1,show j<i+1 by omega]
  ·simp[h1,show ¬ j<i+1 by omega]
theorem dM {bl bl0:Int→Option Blk} {g:Int} {sz n:Nat} {els:List (List V)} (hg0:0≤g) (hg:bl0 g=none) (hb:bl g=some ⟨sz,els⟩) (hn:els.length=n) (hcl:els.all (fun e=>e.all V.cl)=true):frz (dropB bl bl0) 1 (.lsl g sz 0 n)=some (.sl els):=by
 subst hn
 unfold frz
 rw[if_neg (by omega)]
 unfold dropB
 rw[hg]
 simp only[hb]
 rw[if_pos (by simp),List.drop_zero,List.take_length,if_pos hcl]
theorem sub_eq {bl bl':Int→Option Blk} (h:bl'=bl):Sub bl bl':=by rw[h];exact Sub.refl _
def qval (P:Program) (blK:Int→Option Blk) (σ:St):Op→Option V
 | .move x => some (σ.ev x)
 | .assign x => some (σ.ev x)
 | .pick c a b => match σ.ev c with | .bool t => some (pickV t (σ.ev a) (σ.ev b)) | _ => none
 | .load t x => match rdP blK (σ.ev x) with | some cs => loadV P t cs | none => none
 | .nilCheck x => Ar (σ.ev x)
 | .binOp op t x y _ => binV P op t (σ.ev x) (σ.ev y)
 | .unOp op _ x => unV op (σ.ev x)
 | .convert s d x => cvtV P blK s d (σ.ev x)
 | .slice t x lo hi none => sliV P t (σ.ev x) (lo.map σ.ev) (hi.map σ.ev)
 | .fieldAddr t x i => fldV P t i (σ.ev x)
 | .field t x i => fieldV P t i (σ.ev x)
 | .indexAddr t x i => idxV P t (σ.ev x) (σ.ev i)
 | .index t x i => idsV P t (σ.ev x) (σ.ev i)
 | .extract x i => extV i (σ.ev x)
 | .makeFunc (.func f) first cap => if first = #[] then some (.fn f (cap.toList.map σ.ev)) else none
 | .call c => match c.callee with
   | .builtin .len=>if c.args.size=1∧c.argTypes.size=1 then lenV P (c.argTypes.getD 0 0) (σ.ev (c.args.getD 0 (.const undef))) else none
   | _=>none
 | _ => none
theorem Cj {P:Program} {blK:Int→Option Blk} {o:Oper} {σ:St} {v:V} (h:qval P blK σ o.op=some v):SV P blK o σ v:=by
 have e: ∀x,(σ.fZ blK).ev x=σ.ev x:=fF σ blK
 unfold qval at h
 cases ho:o.op<;>rw[ho] at h<;>(try simp only at h)<;>try (cases h;done)
 case move x=>cases h;exact .inl ⟨by rw[ho];rfl,by unfold T;rw[ho];simp only[e]⟩
 case assign x=>cases h;exact .inl ⟨by rw[ho];rfl,by unfold T;rw[ho];simp only[e]⟩
 case pick c a b=>
  split at h
  ·rename_i t hc;cases h;exact .inl ⟨by rw[ho];rfl,by unfold T;rw[ho];simp only[e,hc,P7]⟩
  ·cases h
 case load t x=>
  split at h
  ·rename_i cs hcs;exact .inl ⟨by rw[ho];rfl,by unfold T;rw[ho];simp only[e];exact⟨cs,hcs,v,h,rfl⟩⟩
  ·cases h
 case nilCheck x=>exact .inl ⟨by rw[ho];rfl,by unfold T;rw[ho];simp only[e];exact⟨v,h,rfl⟩⟩
 case binOp=>exact .inl ⟨by rw[ho];rfl,by unfold T;rw[ho];simp only[e];exact⟨v,h,rfl⟩⟩
 case unOp=>exact .inl ⟨by rw[ho];rfl,by unfold T;rw[ho];simp only[e];exact⟨v,h,rfl⟩⟩
 case convert=>exact .inl ⟨by rw[ho];rfl,by unfold T;rw[ho];simp only[e];exact⟨v,h,rfl⟩⟩
 case fieldAddr=>exact .inl ⟨by rw[ho];rfl,by unfold T;rw[ho];simp only[e];exact⟨v,h,rfl⟩⟩
 case field=>exact .inl ⟨by rw[ho];rfl,by unfold T;rw[ho];simp only[e];exact⟨v,h,rfl⟩⟩
 case indexAddr=>exact .inl ⟨by rw[ho];rfl,by unfold T;rw[ho];simp only[e];exact⟨v,h,rfl⟩⟩
 case index=>exact .inl ⟨by rw[ho];rfl,by unfold T;rw[ho];simp only[e];exact⟨v,h,rfl⟩⟩
 case extract=>exact .inl ⟨by rw[ho];rfl,by unfold T;rw[ho];simp only[e];exact⟨v,h,rfl⟩⟩
 case slice t x lo hi mx=>
  cases mx<;>simp only at h<;>try (cases h;done)
  have e1:lo.map (σ.fZ blK).ev=lo.map σ.ev:=by cases lo<;>simp[fF]
  have e2:hi.map (σ.fZ blK).ev=hi.map σ.ev:=by cases hi<;>simp[fF]
  exact .inl ⟨by rw[ho];rfl,by unfold T;rw[ho];simp only[e,e1,e2];exact⟨v,h,rfl⟩⟩
 case makeFunc f first cap=>
  cases f<;>simp only at h<;>try (cases h;done)
  split at h
  ·rename_i hf
   cases h
   have:(cap.toList.map (σ.fZ blK).ev)=cap.toList.map σ.ev:=List.map_congr_left fun x _=>e x
   exact .inl ⟨by rw[ho];rfl,by unfold T;rw[ho];simp only[this];exact⟨hf,trivial⟩⟩
  ·cases h
 case call c=>
  split at h
  ·rename_i hc
   split at h
   ·rename_i hs
    refine .inl ⟨?_,?_⟩
    ·rw[ho];obtain⟨cal,args,ats⟩:=c;simp only at hc;subst hc;rfl
    ·unfold T;rw[ho];simp only[hc,e];exact⟨v,h,hs.1,hs.2,rfl⟩
   ·cases h
  ·cases h
def HoistF (P:Program) (ds:List (Option Tmp)) (blK:Int→Option Blk):List Oper→(St→Prop)→St→Prop
 | [], K, σ => K σ
 | o :: rest, K, σ => match o.guard with
   | none=>match o.op with
     | .call ⟨.value f,args,_⟩=>bD (callV σ f args.toList) fun p=> ∃v n ys,((frzL blK n p.2=some ys∧RO P p.1 ys v∧v.sc=true)∨RL P blK p.1 p.2 v)∧HoistF P ds blK rest K (σ.put o.dst v)
     | op=>bD (qval P blK σ op) fun v=>HoistF P ds blK rest K (σ.put o.dst v)
   | some (j,b)=>match ds[j]? with
     | some (some d)=>match σ.ev (.tmp d) with
       | .bool q=>if q=b then bD (qval P blK σ o.op) fun v=>HoistF P ds blK rest K (σ.put o.dst v) else HoistF P ds blK rest K (σ.put o.dst (.tup []))
       | .tup []=>HoistF P ds blK rest K (σ.put o.dst (.tup []))
       | _=>False
     | _=>False
def hoQ (P:Program) (ds:List (Option Tmp)) (blK:Int→Option Blk) (rest:List Oper) (K:St→Prop) (σ:St) (d:Option Tmp) (o:Option V):Prop:=bD o fun v=>HoistF P ds blK rest K (σ.put d v)
def hcQ (P:Program) (ds:List (Option Tmp)) (blK:Int→Option Blk) (rest:List Oper) (K:St→Prop) (σ:St) (d:Option Tmp) (o:Option (FuncId×List V)):Prop:=bD o fun p=> ∃v n ys,((frzL blK n p.2=some ys∧RO P p.1 ys v∧v.sc=true)∨RL P blK p.1 p.2 v)∧HoistF P ds blK rest K (σ.put d v)
section
variable (P : Program) (ds : List (Option Tmp)) (blK : Int → Option Blk) (rest : List Oper) (K : St → Prop) (σ : St) (d : Option Tmp) (ty : TypeId) (pos : String) (af : Array Edge)
@[simp] theorem xV : HoistF P ds blK [] K σ = K σ := rfl
@[simp] theorem Pq (f : Operand) (args : Array Operand) (ats : Array TypeId) : HoistF P ds blK (⟨d, .call ⟨.value f, args, ats⟩, ty, pos, af, none⟩ :: rest) K σ = hcQ P ds blK rest K σ d (callV σ f args.toList) := rfl
@[simp] theorem Sc (x : Operand) (t : TypeId) : HoistF P ds blK (⟨d, .call ⟨.builtin .len, #[x], #[t]⟩, ty, pos, af, none⟩ :: rest) K σ = hoQ P ds blK rest K σ d (lenV P t (σ.ev x)) := rfl
@[simp] theorem Qr (x : Operand) : HoistF P ds blK (⟨d, .move x, ty, pos, af, none⟩ :: rest) K σ = HoistF P ds blK rest K (σ.put d (σ.ev x)) := bQ _ _
@[simp] theorem Lw (x : Operand) : HoistF P ds blK (⟨d, .assign x, ty, pos, af, none⟩ :: rest) K σ = HoistF P ds blK rest K (σ.put d (σ.ev x)) := bQ _ _
@[simp] theorem Qj (c a b : Operand) : HoistF P ds blK (⟨d, .pick c a b, ty, pos, af, none⟩ :: rest) K σ = hoQ P ds blK rest K σ d (qval P blK σ (.pick c a b)) := rfl
@[simp] theorem Rk (t : TypeId) (x : Operand) : HoistF P ds blK (⟨d, .load t x, ty, pos, af, none⟩ :: rest) K σ = hoQ P ds blK rest K σ d (qval P blK σ (.load t x)) := rfl
@[simp] theorem Fp (x : Operand) : HoistF P ds blK (⟨d, .nilCheck x, ty, pos, af, none⟩ :: rest) K σ = hoQ P ds blK rest K σ d (Ar (σ.ev x)) := rfl
@[simp] theorem No (op : BinOp) (t : TypeId) (x y : Operand) (t' : TypeId) : HoistF P ds blK (⟨d, .binOp op t x y t', ty, pos, af, none⟩ :: rest) K σ = hoQ P ds blK rest K σ d (binV P op t (σ.ev x) (σ.ev y)) := rfl
@[simp] theorem Qi (op : UnOp) (t : TypeId) (x : Operand) : HoistF P ds blK (⟨d, .unOp op t x, ty, pos, af, none⟩ :: rest) K σ = hoQ P ds blK rest K σ d (unV op (σ.ev x)) := rfl
@[simp] theorem Kv (s t : TypeId) (x : Operand) : HoistF P ds blK (⟨d, .convert s t x, ty, pos, af, none⟩ :: rest) K σ = hoQ P ds blK rest K σ d (cvtV P blK s t (σ.ev x)) := rfl
@[simp] theorem Ov (t : TypeId) (x : Operand) (lo hi : Option Operand) : HoistF P ds blK (⟨d, .slice t x lo hi none, ty, pos, af, none⟩ :: rest) K σ = hoQ P ds blK rest K σ d (sliV P t (σ.ev x) (lo.map σ.ev) (hi.map σ.ev)) := rfl
@[simp] theorem Ei (t : TypeId) (x : Operand) (i : Nat) : HoistF P ds blK (⟨d, .fieldAddr t x i, ty, pos, af, none⟩ :: rest) K σ = hoQ P ds blK rest K σ d (fldV P t i (σ.ev x)) := rfl
@[simp] theorem Ob (t : TypeId) (x : Operand) (i : Nat) : HoistF P ds blK (⟨d, .field t x i, ty, pos, af, none⟩ :: rest) K σ = hoQ P ds blK rest K σ d (fieldV P t i (σ.ev x)) := rfl
@[simp] theorem Ey (t : TypeId) (x i : Operand) : HoistF P ds blK (⟨d, .indexAddr t x i, ty, pos, af, none⟩ :: rest) K σ = hoQ P ds blK rest K σ d (idxV P t (σ.ev x) (σ.ev i)) := rfl
@[simp] theorem Nu (t : TypeId) (x i : Operand) : HoistF P ds blK (⟨d, .index t x i, ty, pos, af, none⟩ :: rest) K σ = hoQ P ds blK rest K σ d (idsV P t (σ.ev x) (σ.ev i)) := rfl
@[simp] theorem Lg (x : Operand) (i : Nat) : HoistF P ds blK (⟨d, .extract x i, ty, pos, af, none⟩ :: rest) K σ = hoQ P ds blK rest K σ d (extV i (σ.ev x)) := rfl
@[simp] theorem aC5 (v : V) : hoQ P ds blK rest K σ d (some v) = HoistF P ds blK rest K (σ.put d v) := bQ _ _
@[simp high] theorem aLP (c : Prop) [Decidable c] (o : Option V) : hoQ P ds blK rest K σ d (if c then o else none) = (c ∧ hoQ P ds blK rest K σ d o) := O5 c o
end
theorem aP {P:Program} {ds:List (Option Tmp)} {blK:Int→Option Blk} {rest:List Oper} {K:St→Prop} {σ:St} {d:Option Tmp} {f:FuncId} {xs:List V} {v:V} (h:RO P f xs v) (hK:HoistF P ds blK rest K (σ.put d v)):hcQ P ds blK rest K σ d (some (f,xs)):=
 ⟨_,rfl,v,0,[],.inr (Py h),hK⟩
theorem K3 {P:Program} {ops:Array Oper} {blK:Int→Option Blk} {K:St→Prop} : ∀(l:List Oper) (k:Nat) (σ:St),(∀j,l[j]? =ops[k+j]?)→HoistF P (ops.toList.map (·.dst)) blK l K σ→Hoist P ops blK (List.range' k l.length) K σ
 | [], k, σ, _, h => h
 | o :: rest, k, σ, hl, h => by
   have h0:ops[k]? =some o:=by simpa using (hl 0).symm
   have ih:=fun σ' (h':HoistF P (ops.toList.map (·.dst)) blK rest K σ')=>K3 rest (k+1) σ' (fun j=>by have:=hl (j+1);simpa [Nat.add_assoc,Nat.add_comm 1 j] using this) h'
   have hds: ∀(j:Nat) d,(ops.toList.map (·.dst))[j]? =some (some d)→(ops[j]?).bind (·.dst)=some d:=by
    intro j d hd
    rw[List.getElem?_map,Array.getElem?_toList] at hd
    rcases h:ops[j]? with _ | o
    ·rw[h] at hd;cases hd
    ·rw[h] at hd;simpa using hd
   show Hoist P ops blK (k::List.range' (k+1) rest.length) K σ
   unfold Hoist
   rw[h0]
   simp only
   have plain:bD (qval P blK σ o.op) (fun v=>HoistF P (ops.toList.map (·.dst)) blK rest K (σ.put o.dst v))→ ∃v,SV P blK o σ v∧Hoist P ops blK (List.range' (k+1) rest.length) K (σ.put o.dst v):=by
    rintro⟨v,h1,h2⟩
    exact⟨v,Cj h1,ih _ h2⟩
   unfold HoistF at h
   unfold DY
   split at h
   ·rename_i hg
    simp only[hg]
    split at h
    ·rename_i f args ats hop
     obtain⟨p,hp,v,n,ys,h1,h4⟩:=h
     exact⟨v,.inr ⟨_,f,p,n,ys,hop,rfl,hp,h1⟩,ih _ h4⟩
    ·exact plain h
   ·rename_i j b hg
    simp only[hg]
    split at h
    ·rename_i d hd
     rw[hds j d hd]
     simp only
     split at h
     ·rename_i q hq
      rw[hq]
      split at h
      ·rename_i hqb
       obtain⟨v,h1,h2⟩:=plain h
       exact⟨v,⟨fun _=>h1,fun hh=>by subst hqb;cases q<;>cases hh⟩,h2⟩
      ·rename_i hqb
       exact⟨.tup [],⟨fun hh=>absurd hh hqb,fun _=>rfl⟩,ih _ h⟩
     ·rename_i hq
      rw[hq]
      exact⟨.tup [],rfl,ih _ h⟩
     ·exact h.elim
    ·exact h.elim
theorem kF {P:Program} {ops:Array Oper} {blK:Int→Option Blk} {K:St→Prop} : ∀(l:List Oper) (is:List Nat) (σ:St),l.map some=is.map (fun i=>ops[i]?)→HoistF P (ops.toList.map (·.dst)) blK l K σ→Hoist P ops blK is K σ
 | [], is, σ, hl, h => by
   cases is with
   | nil=>exact h
   | cons i is=>cases hl
 | o :: rest, [], σ, hl, h => by cases hl
 | o :: rest, k :: is, σ, hl, h => by
   have h0:ops[k]? =some o:=(List.cons.inj hl).1.symm
   have ih:=fun σ' (h':HoistF P (ops.toList.map (·.dst)) blK rest K σ')=>kF rest is σ' (List.cons.inj hl).2 h'
   have hds: ∀(j:Nat) d,(ops.toList.map (·.dst))[j]? =some (some d)→(ops[j]?).bind (·.dst)=some d:=by
    intro j d hd
    rw[List.getElem?_map,Array.getElem?_toList] at hd
    rcases h:ops[j]? with _ | o
    ·rw[h] at hd;cases hd
    ·rw[h] at hd;simpa using hd
   unfold Hoist
   rw[h0]
   simp only
   have plain:bD (qval P blK σ o.op) (fun v=>HoistF P (ops.toList.map (·.dst)) blK rest K (σ.put o.dst v))→ ∃v,SV P blK o σ v∧Hoist P ops blK is K (σ.put o.dst v):=by
    rintro⟨v,h1,h2⟩
    exact⟨v,Cj h1,ih _ h2⟩
   unfold HoistF at h
   unfold DY
   split at h
   ·rename_i hg
    simp only[hg]
    split at h
    ·rename_i f args ats hop
     obtain⟨p,hp,v,n,ys,h1,h4⟩:=h
     exact⟨v,.inr ⟨_,f,p,n,ys,hop,rfl,hp,h1⟩,ih _ h4⟩
    ·exact plain h
   ·rename_i j b hg
    simp only[hg]
    split at h
    ·rename_i d hd
     rw[hds j d hd]
     simp only
     split at h
     ·rename_i q hq
      rw[hq]
      split at h
      ·rename_i hqb
       obtain⟨v,h1,h2⟩:=plain h
       exact⟨v,⟨fun _=>h1,fun hh=>by subst hqb;cases q<;>cases hh⟩,h2⟩
      ·rename_i hqb
       exact⟨.tup [],⟨fun hh=>absurd hh hqb,fun _=>rfl⟩,ih _ h⟩
     ·rename_i hq
      rw[hq]
      exact⟨.tup [],rfl,ih _ h⟩
     ·exact h.elim
    ·exact h.elim
theorem filter_some {ops:Array Oper} : ∀(is:List Nat),is.all (fun i=>decide (i<ops.size))=true→(is.filterMap fun i=>ops[i]?).map some=is.map (fun i=>ops[i]?)
 | [], _ => rfl
 | i :: is, h => by
   simp only[List.all_cons,Bool.and_eq_true,decide_eq_true_eq] at h
   have ih:=filter_some is h.2
   rw[List.filterMap_cons]
   simp only[Array.getElem?_eq_getElem h.1,List.map_cons]
   rw[ih]
theorem nJ {P:Program} {id:Nat} {ops:Array Oper} {K:Ex→St→Prop} {σ:St} (hm:P.follows .mixedOrders=true) (is:List Nat) (fuel:Nat) (hn:(ops.size==fuel+is.length && is.all (fun i=>decide (i<ops.size))&& hoistB ops is (Array.replicate ops.size false))=true)
  (h:HoistF P (ops.toList.map (·.dst)) σ.bl (is.filterMap fun i=>ops[i]?) (kH P ops σ.bl (fun _=>false) (K .normal) fuel (iW is (Array.replicate ops.size false))) σ):AW P (.region id ops true) K σ:=by
 simp only[Bool.and_eq_true,beq_iff_eq] at hn
 exact lO hm is fuel σ.bl (Sub.refl _) hn.1.1 hn.2 (tl:=fun _=>false) (fun _ _ _ _ h=>by cases h) (kF _ is σ (filter_some is hn.1.2) h)
theorem eP {P:Program} {id:Nat} {ops:Array Oper} {K:Ex→St→Prop} {σ:St} (hm:P.follows .mixedOrders=true) (is:List Nat) (fuel n:Nat) (hn:(ops.size==fuel+is.length && is.all (fun i=>decide (i<ops.size))&& hoistB ops is (Array.replicate ops.size false)&& Bt ops (fun j=>decide (n≤j)) is)=true)
  (h:HoistF P (ops.toList.map (·.dst)) σ.bl (is.filterMap fun i=>ops[i]?) (kH P ops σ.bl (fun j=>decide (n≤j)) (K .normal) fuel (iW is (Array.replicate ops.size false))) σ):AW P (.region id ops true) K σ:=by
 simp only[Bool.and_eq_true,beq_iff_eq] at hn
 exact lO hm is fuel σ.bl (Sub.refl _) hn.1.1.1 hn.1.2 (tl:=fun j=>decide (n≤j)) (qL hn.2) (kF _ is σ (filter_some is hn.1.1.2) h)
section
variable {P : Program} {ops : Array Oper} {blK : Int → Option Blk} {tl : Nat → Bool} {K : St → Prop} {fuel : Nat} {l : Array Bool} {σ : St}
theorem Ds (hr:Region.ready .any ops l= []) (h:K σ):kH P ops blK tl K fuel l σ:=by
 cases fuel with
 | zero => exact ⟨hr, h⟩
 | succ n => exact ⟨fun _ => h, fun i hi => by rw [hr] at hi; cases hi⟩
theorem rO {i:Nat} {o:Oper} (hr:Region.ready .any ops l= [i]) (ho:ops[i]? =some o) (hg:o.guard=none) (h:T P o (fun σ'=>Sub blK σ'.bl∧kH P ops blK tl K fuel (l.setIfInBounds i true) σ') σ):kH P ops blK tl K (fuel+1) l σ:=by
 refine⟨fun h0=>(by rw[hr] at h0;cases h0),fun j hj=> ?_⟩
 rw[hr] at hj
 obtain rfl:j=i:=by simpa using hj
 unfold D1;rw[ho];simp only[hg];exact iN h fun _ ⟨h1,h2⟩=>⟨fun _=>h1,h2⟩
theorem eV {i:Nat} {o:Oper} (hr:Region.ready .any ops l= [i]) (ho:ops[i]? =some o) (hg:o.guard=none) (ht:tl i=true) (h:T P o (fun σ'=>kH P ops blK tl K fuel (l.setIfInBounds i true) σ') σ):kH P ops blK tl K (fuel+1) l σ:=by
 refine⟨fun h0=>(by rw[hr] at h0;cases h0),fun j hj=> ?_⟩
 rw[hr] at hj
 obtain rfl:j=i:=by simpa using hj
 unfold D1;rw[ho];simp only[hg];exact iN h fun _ h2=>⟨fun hh=>(by rw[ht] at hh;cases hh),h2⟩
theorem iH {i j:Nat} {o o':Oper} (hr:Region.ready .any ops l= [i,j]) (ho:ops[i]? =some o) (hg:o.guard=none) (ho':ops[j]? =some o') (hg':o'.guard=none)
  (h:T P o (fun σ'=>Sub blK σ'.bl∧kH P ops blK tl K fuel (l.setIfInBounds i true) σ') σ) (h':T P o' (fun σ'=>Sub blK σ'.bl∧kH P ops blK tl K fuel (l.setIfInBounds j true) σ') σ):kH P ops blK tl K (fuel+1) l σ:=by
 refine⟨fun h0=>(by rw[hr] at h0;cases h0),fun k hk=> ?_⟩
 rw[hr] at hk
 rcases List.mem_cons.1 hk with rfl | hk
 ·unfold D1;rw[ho];simp only[hg];exact iN h fun _ ⟨h1,h2⟩=>⟨fun _=>h1,h2⟩
 ·obtain rfl:k=j:=by simpa using hk
  unfold D1;rw[ho'];simp only[hg'];exact iN h' fun _ ⟨h1,h2⟩=>⟨fun _=>h1,h2⟩
end
def yG (ops:Array Oper):Bool:=hoistB ops (List.range ops.size) (Array.replicate ops.size false)&& (Region.ready .any ops (iW (List.range ops.size) (Array.replicate ops.size false))).isEmpty
theorem cN {P:Program} {id:Nat} {ops:Array Oper} {K:Ex→St→Prop} {σ:St} (hm:P.follows .mixedOrders=true) (hB:yG ops=true)
  (h:HoistF P (ops.toList.map (·.dst)) σ.bl ops.toList (K .normal) σ):AW P (.region id ops true) K σ:=by
 simp only[yG,Bool.and_eq_true,List.isEmpty_iff] at hB
 refine pQ hm hB.1 hB.2 ?_
 have:=K3 ops.toList 0 σ (fun j=>by simp) h
 rw[List.range_eq_range',←Array.length_toList]
 exact this
def hv :List (Nat×V)→Nat→V
 | [], _ => .junk
 | (t, v) :: r, x => if x = t then v else hv r x
def Fit (l:List (Nat×V)) (n:Nat) (b:Int→Option Blk) (σ:St):Prop:=σ.n=n∧(∀p,p∈l→σ.sl p.1=p.2)∧Sub b σ.bl
theorem D0 {σ:St} {l:List (Nat×V)} {n:Nat} {b:Int→Option Blk} (h:Fit l n b σ):Le σ ⟨n,hv l,b⟩:=by
 obtain⟨hn,hl,hb⟩:=h
 refine⟨hn.symm,fun t _=> ?_,hb⟩
 show hv l t=σ.sl t∨hv l t= .junk
 clear hn hb
 induction l with
 | nil => exact .inr rfl
 | cons p r ih =>
   obtain⟨u,v⟩:=p
   unfold hv
   split
   ·rename_i ht;subst ht;exact .inl (hl (t,v) List.mem_cons_self).symm
   ·exact ih fun p hp=>hl p (List.mem_cons_of_mem _ hp)
theorem dI {P:Program} {c:Code} {K:Ex→St→Prop} {σ:St} (l:List (Nat×V)) (n:Nat) (b:Int→Option Blk) (hf:Fit l n b σ) (h:AW P c K ⟨n,hv l,b⟩):AW P c K σ:=aGU (D0 hf) h
theorem bW {P:Program} {id:Nat} {ops:Array Oper} {K:Ex→St→Prop} {σ:St} (l:List (Nat×V)) (n:Nat) (bl:Int→Option Blk) (t:Nat) (v:V) (bl':Int→Option Blk) (hf:Fit l n bl σ) (hd:(l.all fun p=> !(ops.toList.map (·.dst)).contains (some p.1))=true)
  (h1:OpsF P (ops.toList.map (·.dst)) ops.toList (fun σ'=>σ'.sl t=v∧σ'.bl=bl') ⟨n,hv l,bl⟩) (h2:K .normal ⟨n,hv ((t,v)::l),bl'⟩):AW P (.region id ops false) K σ:=by
 refine dI l n bl hf ?_
 have hk:jn (hv l) (ops.toList.map (·.dst)) t v=hv ((t,v)::l):=by
  funext x
  show(if x=t then v else if _ then _ else _)=if x=t then v else hv l x
  split
  ·rfl
  ·split
   ·rename_i hx hc
    have: ∀l:List (Nat×V),(l.all fun p=> !(ops.toList.map (·.dst)).contains (some p.1))=true→hv l x= .junk:=by
     intro l
     induction l with
     | nil => intro _; rfl
     | cons p r ih =>
       obtain⟨u,y⟩:=p
       intro ha
       simp only[List.all_cons,Bool.and_eq_true] at ha
       unfold hv
       rw[if_neg (by rintro rfl;rw[hc] at ha;exact absurd ha.1 (by simp)),ih ha.2]
    exact(this l hd).symm
   ·rfl
 refine Od t v bl' (vR h1) ?_
 rw[hk];exact h2
def Bv {α:Type} (S:α→List (Nat×V)) (B:α→Int→Option Blk) (I:α→Prop) (μ:α→Nat) (n m:Nat) (K:Ex→St→Prop):Ex→St→Prop
 | .normal, σ => ∃ a, I a ∧ μ a < m ∧ Fit (S a) n (B a) σ
 | e, σ => K e σ
theorem aI {α:Type} {P:Program} {c:Code} {K:Ex→St→Prop} {σ:St} (S:α→List (Nat×V)) (B:α→Int→Option Blk) (I:α→Prop) (μ:α→Nat) (n:Nat) (a0:α) (h0:I a0) (hσ:Fit (S a0) n (B a0) σ)
  (round: ∀a,I a→AW P c (Bv S B I μ n (μ a) K) ⟨n,hv (S a),B a⟩):AW P (.loop c) K σ:=by
 intro w0 M F a w hs
 have hs:=hs.le (D0 hσ)
 intro b k cs
 have key: ∀m (x:α) F1 a w,μ x=m→I x→(∀b,F b→F1 b)→Sim w0 M F1 ⟨n,hv (S x),B x⟩ a w→
   ∃e a' w',M3 w0 M F K e a' w'∧Arrives P (lone (b.at a (.code c:: .inLoop c::k)) cs w) b k cs e a' w':=by
  intro m
  induction m using Nat.strongRecOn with
  | _ m ih =>
    intro x F1 a w hm hI hF hs
    obtain⟨e,a₁,w₁,hq,Gv⟩:=round x hI w0 M F1 a w hs b (.inLoop c::k) cs
    obtain⟨ex,σ1,F2,rfl,hF2,hs1,hK⟩:=hq
    cases ex with
    | normal=>
      obtain⟨y,hI2,hlt,U4⟩:=hK
      have Ft:=D0 U4
      obtain⟨e₂,a₂,w₂,hq₂,aE6⟩:=ih (μ y) (hm▸hlt) y F2 a₁ w₁ rfl hI2 (fun b hb=>hF2 b (hF b hb)) (hs1.le Ft)
      exact⟨e₂,a₂,w₂,hq₂,.of_steps (Steps.trans Gv (.one step_inLoop)) aE6⟩
    | exit id=>exact⟨.exit id,a₁,w₁,⟨.exit id,σ1,F2,rfl,fun b hb=>hF2 b (hF b hb),hs1,hK⟩,.pass (x:= .inLoop c) rfl (fun _ _=> .inl (by simp)) Gv⟩
    | ret=>exact⟨.ret,a₁,w₁,⟨.ret,σ1,F2,rfl,fun b hb=>hF2 b (hF b hb),hs1,hK⟩,.pass (x:= .inLoop c) rfl (fun _ _=> .inl (by simp)) Gv⟩
 obtain⟨e,a',w',hq,Gv⟩:=key _ a0 F a w rfl h0 (fun _ h=>h) hs
 exact⟨e,a',w',hq,.of_steps (.one step_loop) Gv⟩
theorem aB {α:Type} (S:α→List (Nat×V)) (B:α→Int→Option Blk) (I:α→Prop) (μ:α→Nat) (n m:Nat) (K:Ex→St→Prop) (σ:St):Bv S B I μ n m K .normal σ= ∃a,I a∧μ a<m∧Fit (S a) n (B a) σ:=rfl
theorem V4 {α:Type} (S:α→List (Nat×V)) (B:α→Int→Option Blk) (I:α→Prop) (μ:α→Nat) (n m:Nat) (K:Ex→St→Prop) (i:Nat) (σ:St):Bv S B I μ n m K (.exit i) σ=K (.exit i) σ:=rfl
theorem Cu {α:Type} (S:α→List (Nat×V)) (B:α→Int→Option Blk) (I:α→Prop) (μ:α→Nat) (n m:Nat) (K:Ex→St→Prop) (σ:St):Bv S B I μ n m K .ret σ=K .ret σ:=rfl
section
variable {P : Program} {σ : St} {K : Ex → St → Prop}
def ROk (bl:Int→Option Blk) (r:V) (v:V) (bl':Int→Option Blk):Prop:= ∃n,frz (dropB bl' bl) n v=some r∧Sub bl bl'
theorem aJ {f : FuncId} {fn : Func} {c : Code} {xs : List V} {r : V} (hf : P.funcs[f]? = some fn) (hb : fn.body = some c) (hn : (fn.name == "runtime.NumGoroutine") = false) (hl : xs.length ≤ fn.ntmps)
  (h: ∀bl,AW P c (G3 P fn.results.toList (ROk bl r)) ⟨fn.ntmps,fun t=>xs.getD t .junk,bl⟩):RO P f xs r:=aBF hf hb hn hl h
theorem aK {rs:List ResultVar} {bl:Int→Option Blk} {r:V} (vs:List V) (n:Nat) (h:resV P σ rs=some vs) (hf:frz (dropB σ.bl bl) n (retV vs)=some r) (hs:Sub bl σ.bl):
  G3 P rs (ROk bl r) .ret σ:=by rw[dQ];exact⟨vs,h,n,hf,hs⟩
theorem aS {rs:List ResultVar} {bl:Int→Option Blk} {r:V} (h:resV P σ rs=some [r]) (hb:σ.bl=bl) (hf:frz (dropB bl bl) 0 r=some r):G3 P rs (ROk bl r) .ret σ:=
 aK [r] 0 h (by rw[hb];exact hf) (by rw[hb];exact Sub.refl _)
end
attribute [simp] St.ev St.put P4 Es Kh yV uB Ae H4 W4 Ej ofValue ofCell retV resV rdP loadV pickV intV binV unV lenV Ar fldV idxV idsV B4 fieldV extV cvtV callV frzL jn fillV splice
attribute [simp] yP eqA eqV eq1 qval aA hv V4 Cu
@[simp] theorem Uh  : V.cells .junk = [.junk] := rfl
@[simp] theorem aGQ  : V.one .junk = false := rfl
@[simp] theorem Rq (b : Bool) : V.cells (.bool b) = [.bool b] := rfl
@[simp] theorem aCS (b : Bool) : V.one (.bool b) = true := rfl
@[simp] theorem aAJ (k : IntKind) (n : Int) : V.cells (.int k n) = [.int k n] := rfl
@[simp] theorem aKR (k : IntKind) (n : Int) : V.one (.int k n) = true := rfl
@[simp] theorem Xq (s : ByteArray) : V.cells (.str s) = [.str s] := rfl
@[simp] theorem aJK (s : ByteArray) : V.one (.str s) = true := rfl
@[simp] theorem Tm  : V.cells .nilp = [.nilp] := rfl
@[simp] theorem aA8  : V.one .nilp = true := rfl
@[simp] theorem Yb (cs : List V) : V.cells (.ptr cs) = [.ptr cs] := rfl
@[simp] theorem aKS (cs : List V) : V.one (.ptr cs) = true := rfl
@[simp] theorem Vj  : V.cells .nils = [.nils] := rfl
@[simp] theorem aGF  : V.one .nils = true := rfl
@[simp] theorem Zl  : V.cells .sle = [.sle] := rfl
@[simp] theorem aKQ  : V.one .sle = true := rfl
@[simp] theorem aB3 (xs : List (List V)) : V.cells (.sl xs) = [.sl xs] := rfl
@[simp] theorem aN5 (xs : List (List V)) : V.one (.sl xs) = true := rfl
@[simp] theorem Yz (g : Int) (sz k j : Nat) : V.cells (.loc g sz k j) = [.loc g sz k j] := rfl
@[simp] theorem aIR (g : Int) (sz k j : Nat) : V.one (.loc g sz k j) = true := rfl
@[simp] theorem aAY (g : Int) (sz o n : Nat) : V.cells (.lsl g sz o n) = [.lsl g sz o n] := rfl
@[simp] theorem aI4 (g : Int) (sz o n : Nat) : V.one (.lsl g sz o n) = true := rfl
@[simp] theorem Xx (cs : List V) : V.cells (.agg cs) = cs := rfl
@[simp] theorem aKX (cs : List V) : V.one (.agg cs) = false := rfl
@[simp] theorem Xg (vs : List V) : V.cells (.tup vs) = [.tup vs] := rfl
@[simp] theorem aJ2 (vs : List V) : V.one (.tup vs) = false := rfl
@[simp] theorem aCC (f : FuncId) (cap : List V) : V.cells (.fn f cap) = [.fn f cap] := rfl
@[simp] theorem aLK (f : FuncId) (cap : List V) : V.one (.fn f cap) = true := rfl
section
variable {P : Program} {ops : Array Oper} {blK : Int → Option Blk} {tl : Nat → Bool} {K : St → Prop} {fuel : Nat} {l : Array Bool} {σ : St}
theorem Dz (i:Nat) {o:Oper} (h:T P o (fun σ'=>Sub blK σ'.bl∧kH P ops blK tl K fuel (l.setIfInBounds i true) σ') σ) (hr:Region.ready .any ops l= [i]:=by kernel_rfl) (ho:ops[i]? =some o:=by exact rfl) (hg:o.guard=none:=by exact rfl):kH P ops blK tl K (fuel+1) l σ:=rO hr ho hg h
end
section
variable {P : Program} {ops : Array Oper} {blK : Int → Option Blk} {tl : Nat → Bool} {K : St → Prop} {fuel : Nat} {l : Array Bool} {σ : St}
theorem Dy (h:K σ) (hr:Region.ready .any ops l= []:=by kernel_rfl):kH P ops blK tl K fuel l σ:=Ds hr h
end
end Go.Proofs.YticmgmemnpcbbaaGreat.Vm

namespace Go.Proofs.YticmgmemnpcbbaaGreat.Vm
open Go Go.Proofs
set_option linter.unusedSimpArgs false
set_option linter.unusedVariables false
def kindName (n:Int):ByteArray:=if n=1 then { data:= #[114,111,112,101] } else if n=2 then { data:= #[115,116,114,117,116] } else if n=3 then { data:= #[98,97,114] } else { data:= #[] }
theorem kL (n lo hi:Int):RO Tryz.prog 127 [.int .i64 n,.int .i64 lo,.int .i64 hi] (.bool (decide (lo≤n)&& decide (n≤hi))):=by
 refine aJ Tryz.func127 rfl rfl (by rw[Tryz.ntmps127];simp) fun bl=> ?_
 rw[Tryz.ntmps127,Tryz.results127]
 refine aC ?_
 simp
 refine bW [(0,.int .i64 n),(1,.int .i64 lo),(2,.int .i64 hi)] _ bl 6 (.bool (decide (lo≤n)&& decide (n≤hi))) bl ⟨rfl,by simp,Sub.refl _⟩ rfl ?_ ?_
 ·simp;grind
 simp
 exact aS (by simp) rfl rfl

theorem Jl {a b:ByteArray} :a.toList=b.toList ↔ a=b:=by
 refine⟨fun h=> ?_,fun h=>by rw[h]⟩
 rw[ByteArray.toList_eq,ByteArray.toList_eq] at h
 exact ByteArray.ext (Array.toList_inj.1 h)
def mH (i:Nat) (c:Nat):Bool:=(decide (97≤c)&& decide (c≤122))|| (decide (i≠0)&& (decide (48≤c)&& decide (c≤57)))
def isName (s:ByteArray):Bool:=decide (1≤s.size)&& decide (s.size≤8)&& decide (∀i (h:i<s.size),mH i s[i].toNat=true)
theorem vV (s:ByteArray) (hs:s.size≤140737488351232):RO Tryz.prog 252 [.str s] (.bool (isName s)):=by
 refine aJ Tryz.func252 rfl rfl (by rw[Tryz.ntmps252];simp) fun bl=> ?_
 rw[Tryz.ntmps252,Tryz.results252]
 refine aC ?_
 simp
 refine aI (fun i:Nat=> [(0,.str s),(3,.int .i64 i)]) (fun _=>bl) (fun i=>i≤s.size∧ ∀j (h:j<s.size),j<i→mH j s[j].toNat=true) (fun i=>s.size - i) _ 0 ⟨Nat.zero_le _,fun j h h0=>by omega⟩ ⟨rfl,by simp,Sub.refl _⟩ ?_
 intro i ⟨hi,hc⟩
 refine aC ?_
 simp
 refine⟨fun h=> ?_,fun h=> ?_⟩
 ·refine bW [(0,.str s),(3,.int .i64 i)] _ bl 4 (.bool (decide (97≤s[i].toNat)&& decide (s[i].toNat≤122))) bl ⟨rfl,by simp,Sub.refl _⟩ rfl ?_ ?_
  ·simp[h];grind
  simp
  refine bW [(4,.bool (decide (97≤s[i].toNat)&& decide (s[i].toNat≤122))),(0,.str s),(3,.int .i64 i)] _ bl 38 (.bool (! mH i s[i].toNat)) bl ⟨rfl,by simp,Sub.refl _⟩ rfl ?_ ?_
  ·simp[h,mH];grind
  simp
  refine⟨fun h1=> ?_,fun h1=> ?_⟩
  ·refine aS (by simp[isName];intro _ _;exact⟨i,h,h1⟩) rfl rfl
  ·simp (disch:=omega) [i64_in,aB]
   refine⟨i+1,⟨by omega,fun j hj hji=> ?_⟩,by omega,rfl,by simp,Sub.refl _⟩
   rcases Nat.lt_or_ge j i with hlt | hge
   ·exact hc j hj hlt
   ·obtain rfl:j=i:=by omega
    exact h1
 ·refine aE (kL _ _ _) ?_
  simp
  refine aS ?_ rfl rfl
  have bO: ∀j (h:j<s.size),mH j s[j].toNat=true:=fun j hj=>hc j hj (by omega)
  simp[isName,bO]
  grind
theorem K8 (c:Nat):RO Tryz.prog 232 [.int .u8 c] (.bool (decide (97≤c)&& decide (c≤122))):=by
 refine aJ Tryz.func232 rfl rfl (by rw[Tryz.ntmps232];simp) fun bl=> ?_
 rw[Tryz.ntmps232,Tryz.results232]
 refine aC ?_
 simp
 refine bW [(0,.int .u8 c)] _ bl 2 (.bool (decide (97≤c)&& decide (c≤122))) bl ⟨rfl,by simp,Sub.refl _⟩ rfl ?_ ?_
 ·simp;grind
 simp
 exact aS (by simp) rfl rfl
theorem V2 (c:Nat):RO Tryz.prog 233 [.int .u8 c] (.bool (decide (48≤c)&& decide (c≤57))):=by
 refine aJ Tryz.func233 rfl rfl (by rw[Tryz.ntmps233];simp) fun bl=> ?_
 rw[Tryz.ntmps233,Tryz.results233]
 refine aC ?_
 simp
 refine bW [(0,.int .u8 c)] _ bl 2 (.bool (decide (48≤c)&& decide (c≤57))) bl ⟨rfl,by simp,Sub.refl _⟩ rfl ?_ ?_
 ·simp;grind
 simp
 exact aS (by simp) rfl rfl
theorem xH (n:Int):RO Tryz.prog 165 [.int .i64 n] (.bool (decide (-50≤n)&& decide (n≤50))):=by
 refine aJ Tryz.func165 rfl rfl (by rw[Tryz.ntmps165];simp) fun bl=> ?_
 rw[Tryz.ntmps165,Tryz.results165]
 refine aC ?_
 simp
 refine bW [(0,.int .i64 n)] _ bl 2 (.bool (decide (-50≤n)&& decide (n≤50))) bl ⟨rfl,by simp,Sub.refl _⟩ rfl ?_ ?_
 ·simp;grind
 simp
 exact aS (by simp) rfl rfl
theorem yF (s:ByteArray) (hs:s.size≤140737488351232):RO Tryz.prog 164 [.str s] (.bool (isName s)):=by
 refine aJ Tryz.func164 rfl rfl (by rw[Tryz.ntmps164];simp) fun bl=> ?_
 rw[Tryz.ntmps164,Tryz.results164]
 refine aC ?_
 simp
 refine aI (fun i:Nat=> [(0,.str s),(5,.int .i64 s.size),(6,.int .i64 i)]) (fun _=>bl) (fun i=>i≤s.size∧ ∀j (h:j<s.size),j<i→mH j s[j].toNat=true) (fun i=>s.size - i) _ 0 ⟨Nat.zero_le _,fun j h h0=>by omega⟩ ⟨rfl,by simp,Sub.refl _⟩ ?_
 intro i ⟨hi,hc⟩
 refine aC ?_
 simp
 refine⟨fun h=> ?_,fun h=> ?_⟩
 ·refine bW [(0,.str s),(5,.int .i64 s.size),(6,.int .i64 i),(3,.int .i64 i)] _ bl 24 (.bool (! mH i s[i].toNat)) bl ⟨rfl,by simp,Sub.refl _⟩ rfl ?_ ?_
  ·simp[h]
   refine aE (K8 _) ?_
   simp[h,mH]
   refine⟨fun h1=>⟨fun h2=>⟨h1,.inl h2⟩,fun h2=> ?_⟩,by omega⟩
   refine aE (V2 _) ?_
   simp
   grind
  simp
  refine⟨fun h1=> ?_,fun h1=> ?_⟩
  ·refine aS (by simp[isName];intro _ _;exact⟨i,h,h1⟩) rfl rfl
  ·simp (disch:=omega) [i64_in,aB]
   refine⟨i+1,⟨by omega,fun j hj hji=> ?_⟩,by omega,rfl,by simp,Sub.refl _⟩
   rcases Nat.lt_or_ge j i with hlt | hge
   ·exact hc j hj hlt
   ·obtain rfl:j=i:=by omega
    exact h1
 ·have bO: ∀j (h:j<s.size),mH j s[j].toNat=true:=fun j hj=>hc j hj (by omega)
  refine bW [(0,.str s)] _ bl 2 (.bool (isName s)) bl ⟨rfl,by simp,Sub.refl _⟩ rfl ?_ ?_
  ·by_cases hz:s.size=0
   ·obtain rfl:s=ByteArray.empty:=ByteArray.ext (Array.eq_empty_of_size_eq_zero hz)
    simp[isName]
   ·have h1:s≠ByteArray.empty:=fun h=>hz (by rw[h];rfl)
    have h2:s.toList≠ []:=fun h=>hz (by rw[ByteArray.toList_eq,←List.length_eq_zero_iff,Array.length_toList] at h;exact h)
    simp[isName,bO,h1,h2]
    rw[Bool.eq_iff_iff];simp;omega
  simp
  exact aS (by simp) rfl rfl
structure J where
 name:ByteArray
 x:Int
 y:Int
 fixed:Bool
 deriving DecidableEq
def J.c (j:J):List V:= [.str j.name,.int .i64 j.x,.int .i64 j.y,.bool j.fixed]
def J.fit (j:J):Prop:=j.name.size≤140737488351232∧(-9223372036854775808≤j.x∧j.x≤9223372036854775807)∧(-9223372036854775808≤j.y∧j.y≤9223372036854775807)
def J.ok (j:J):Bool:=isName j.name && (decide (-50≤j.x)&& decide (j.x≤50))&& (decide (-50≤j.y)&& decide (j.y≤50))
theorem uD (j:J) (hj:j.name.size≤140737488351232):RO Tryz.prog 199 [.agg j.c] (.bool j.ok):=by
 refine aJ Tryz.func199 rfl rfl (by rw[Tryz.ntmps199];simp) fun bl=> ?_
 rw[Tryz.ntmps199,Tryz.results199]
 refine aC ?_
 simp[J.c]
 intro g hg0 hg
 refine bW [(1,.loc g 4 0 0)] _ (upd bl g (some ⟨4,[j.c]⟩)) 2 (.bool j.ok) (upd bl g (some ⟨4,[j.c]⟩)) ⟨rfl,by simp,Sub.refl _⟩ rfl ?_ ?_
 ·simp[J.c]
  refine aE (vV _ hj) ?_
  simp
  refine⟨fun h=> ?_,fun h=> ?_⟩
  ·refine aE (kL _ _ _) ?_
   simp
   refine⟨fun h1 h2=> ?_,fun h1=> ?_⟩
   ·refine aE (kL _ _ _) ?_
    simp[J.ok,h,h1,h2]
   ·simp[J.ok,h]
    grind
  ·simp[J.ok,h]
 simp
 exact aK [_] 0 rfl rfl ((Sub.refl bl).upd hg _)
theorem uG (j:J) (hj:j.name.size≤140737488351232):RO Tryz.prog 87 [.agg j.c] (.bool j.ok):=by
 refine aJ Tryz.func87 rfl rfl (by rw[Tryz.ntmps87];simp) fun bl=> ?_
 rw[Tryz.ntmps87,Tryz.results87]
 refine aC ?_
 simp[J.c]
 intro g hg0 hg
 refine bW [(1,.loc g 4 0 0)] _ (upd bl g (some ⟨4,[j.c]⟩)) 2 (.bool j.ok) (upd bl g (some ⟨4,[j.c]⟩)) ⟨rfl,by simp,Sub.refl _⟩ rfl ?_ ?_
 ·simp[J.c]
  refine aE (yF _ hj) ?_
  simp
  refine⟨fun h=> ?_,fun h=> ?_⟩
  ·refine aE (xH _) ?_
   simp
   refine⟨fun h1 h2=> ?_,fun h1=> ?_⟩
   ·refine aE (xH _) ?_
    simp[J.ok,h,h1,h2]
   ·simp[J.ok,h]
    grind
  ·simp[J.ok,h]
 simp
 exact aK [_] 0 rfl rfl ((Sub.refl bl).upd hg _)

def less (left:Int) (n:Nat):Int:=if left - n<0 then -1 else left - n
theorem At (j:J) (left:Int) (hl: -1≤left∧left≤1048576) (hj:j.name.size≤140737488351232):RO Tryz.prog 187 [.agg j.c,.int .i64 left] (.int .i64 (less left j.name.size)):=by
 refine aJ Tryz.func187 rfl rfl (by rw[Tryz.ntmps187];simp) fun bl=> ?_
 rw[Tryz.ntmps187,Tryz.results187]
 refine aC ?_
 simp[J.c]
 intro g hg0 hg
 simp (disch:=omega) [i64_in]
 refine⟨fun h=> ?_,fun h=> ?_⟩
 ·exact aK [_] 0 rfl (by simp[frz,less];omega) ((Sub.refl bl).upd hg _)
 ·exact aK [_] 0 rfl (by simp[frz,less];omega) ((Sub.refl bl).upd hg _)
theorem Ay (j:J):RO Tryz.prog 195 [.agg j.c] (.agg j.c):=by
 refine aJ Tryz.func195 rfl rfl (by rw[Tryz.ntmps195];simp) fun bl=> ?_
 rw[Tryz.ntmps195,Tryz.results195]
 refine aC ?_
 simp[J.c]
 intro g1 hg1 hb1 g2 hg2 h21 hb2
 intro g3 hg3 h32 h31 hb3
 simp[h21,h31,h32,Ne.symm h21,Ne.symm h31,Ne.symm h32]
 refine aK [.agg j.c] 1 ?_ ?_ ?_
 ·simp[h21,h31,h32,Ne.symm h21,Ne.symm h31,Ne.symm h32,J.c]
 ·rfl
 ·simp[hb1,hb2,hb3]

theorem aN :Tryz.prog.follows .mixedOrders=true:=by kernel_rfl
def iv (ns:List Int):List (List V):=ns.map fun n=> [.int .i64 n]
@[simp] theorem iU (ns : List Int) : (iv ns).length = ns.length := by simp [iv]
@[simp] theorem dC (ns : List Int) (i : Nat) (h : i < ns.length) : (iv ns)[i]? = some [.int .i64 ns[i]] := by simp [iv, h]
@[simp] theorem mO (ns : List Int) (i : Nat) (h : i < (iv ns).length) : (iv ns)[i] = [.int .i64 (ns[i]'(by simpa using h))] := by simp [iv]
theorem nE (ns:List Int):(iv ns).all (fun e=>e.all V.cl)=true:=by simp[iv,V.cl]

structure Mb where
 a:Int
 b:Int
 kind:Int
 deriving DecidableEq
def Mb.c (m:Mb):List V:= [.int .i64 m.a,.int .i64 m.b,.int .i64 m.kind]
def jv (js:List J):List (List V):=js.map J.c
def mv (ms:List Mb):List (List V):=ms.map Mb.c
structure Str where
 js:List J
 ms:List Mb
 deriving DecidableEq
def Str.c (s:Str):List V:= [.sl (jv s.js),.sl (mv s.ms)]
@[simp] theorem Yf (ns : List J) : (jv ns).length = ns.length := by simp [jv]
@[simp] theorem aIU (ns : List J) (i : Nat) (h : i < (jv ns).length) : (jv ns)[i] = (ns[i]'(by simpa using h)).c := by simp [jv]
@[simp] theorem Xf (ns : List Mb) : (mv ns).length = ns.length := by simp [mv]
@[simp] theorem aKI (ns : List Mb) (i : Nat) (h : i < (mv ns).length) : (mv ns)[i] = (ns[i]'(by simpa using h)).c := by simp [mv]
theorem aB4 (ns:List J):(jv ns).all (fun e=>e.all V.cl)=true:=by simp[jv,J.c,V.cl]
theorem aGB (ns:List Mb):(mv ns).all (fun e=>e.all V.cl)=true:=by simp[mv,Mb.c,V.cl]
@[simp] theorem J.Kz (j : J) : j.c.length = 4 := rfl
@[simp] theorem Mb.Kz (j : Mb) : j.c.length = 3 := rfl
theorem O1 (m:Mb):RO Tryz.prog 196 [.agg m.c] (.agg m.c):=by
 refine aJ Tryz.func196 rfl rfl (by rw[Tryz.ntmps196];simp) fun bl=> ?_
 rw[Tryz.ntmps196,Tryz.results196]
 refine aC ?_
 simp[Mb.c]
 intro g1 hg1 hb1 g2 hg2 h21 hb2
 intro g3 hg3 h32 h31 hb3
 simp[h21,h31,h32,Ne.symm h21,Ne.symm h31,Ne.symm h32]
 refine aK [.agg m.c] 1 ?_ ?_ ?_
 ·simp[h21,h31,h32,Ne.symm h21,Ne.symm h31,Ne.symm h32,Mb.c]
 ·rfl
 ·simp[hb1,hb2,hb3]
theorem R7 (a:List J) (ha:a.length≤1048576):RO Tryz.prog 118 [.sl (jv a)] (.sl (jv a)):=by
 refine aJ Tryz.func118 rfl rfl (by rw[Tryz.ntmps118];simp) fun bl=> ?_
 rw[Tryz.ntmps118,Tryz.results118]
 refine aC ?_
 simp
 refine⟨by omega,by unfold maxLen;omega,fun g hg0 hg=> ?_⟩
 refine aI (fun i:Nat=> [(0,.sl (jv a)),(3,.lsl g 4 0 a.length),(4,.int .i64 i)]) (fun i=>upd bl g (some ⟨4,part (jv a) [.str { data:= #[] },.int .i64 0,.int .i64 0,.bool false] i⟩)) (fun i=>i≤a.length) (fun i=>a.length - i) _ 0 (Nat.zero_le _) ⟨rfl,by simp,sub_eq (by simp)⟩ ?_
 intro i hi
 refine aC ?_
 simp
 refine⟨fun h=> ?_,fun h=> ?_⟩
 ·have hi':i<(jv a).length:=by simpa using h
  simp[h]
  refine aE (Ay a[i]) ?_
  simp (disch:=omega) [h,fC _ _ _ hi',i64_in,aB,J.c]
  refine⟨i+1,by omega,by omega,rfl,by simp,sub_eq ?_⟩
  simp only[yP]
  rw[cP _ _ _ hi']
  simp[J.c]
 ·refine aK [.lsl g 4 0 a.length] 1 (by simp) ?_ (by simp[hg])
  rw[gK _ _ _ (by simpa using h)]
  exact dM hg0 hg (by simp) (by simp) (aB4 a)
theorem H8 (a:List Mb) (ha:a.length≤1048576):RO Tryz.prog 119 [.sl (mv a)] (.sl (mv a)):=by
 refine aJ Tryz.func119 rfl rfl (by rw[Tryz.ntmps119];simp) fun bl=> ?_
 rw[Tryz.ntmps119,Tryz.results119]
 refine aC ?_
 simp
 refine⟨by omega,by unfold maxLen;omega,fun g hg0 hg=> ?_⟩
 refine aI (fun i:Nat=> [(0,.sl (mv a)),(3,.lsl g 3 0 a.length),(4,.int .i64 i)]) (fun i=>upd bl g (some ⟨3,part (mv a) [.int .i64 0,.int .i64 0,.int .i64 0] i⟩)) (fun i=>i≤a.length) (fun i=>a.length - i) _ 0 (Nat.zero_le _) ⟨rfl,by simp,sub_eq (by simp)⟩ ?_
 intro i hi
 refine aC ?_
 simp
 refine⟨fun h=> ?_,fun h=> ?_⟩
 ·have hi':i<(mv a).length:=by simpa using h
  simp[h]
  refine aE (O1 a[i]) ?_
  simp (disch:=omega) [h,fC _ _ _ hi',i64_in,aB,Mb.c]
  refine⟨i+1,by omega,by omega,rfl,by simp,sub_eq ?_⟩
  simp only[yP]
  rw[cP _ _ _ hi']
  simp[Mb.c]
 ·refine aK [.lsl g 3 0 a.length] 1 (by simp) ?_ (by simp[hg])
  rw[gK _ _ _ (by simpa using h)]
  exact dM hg0 hg (by simp) (by simp) (aGB a)
theorem vK (s:Str) (hj:s.js.length≤1048576) (hm:s.ms.length≤1048576):RO Tryz.prog 48 [.agg s.c] (.agg s.c):=by
 refine aJ Tryz.func48 rfl rfl (by rw[Tryz.ntmps48];simp) fun bl=> ?_
 rw[Tryz.ntmps48,Tryz.results48]
 refine aC ?_
 simp[Str.c]
 intro g1 hg1 hb1 g2 hg2 h21 hb2
 intro g3 hg3 h32 h31 hb3
 simp[h21,h31,h32,Ne.symm h21,Ne.symm h31,Ne.symm h32]
 refine aE (R7 _ hj) ?_
 simp[h21,h31,h32,Ne.symm h21,Ne.symm h31,Ne.symm h32]
 refine aE (H8 _ hm) ?_
 simp[h21,h31,h32,Ne.symm h21,Ne.symm h31,Ne.symm h32]
 refine aK [.agg s.c] 1 ?_ ?_ ?_
 ·simp[h21,h31,h32,Ne.symm h21,Ne.symm h31,Ne.symm h32,Str.c]
 ·rfl
 ·simp[hb1,hb2,hb3]

theorem J.wU {a b:J} :a=b ↔ a.name=b.name∧a.x=b.x∧a.y=b.y∧a.fixed=b.fixed:=by
 cases a;cases b;simp
theorem Mb.wU {a b:Mb} :a=b ↔ a.a=b.a∧a.b=b.b∧a.kind=b.kind:=by
 cases a;cases b;simp
theorem Ao (a b:J):RO Tryz.prog 197 [.agg a.c,.agg b.c] (.bool (decide (a=b))):=by
 refine aJ Tryz.func197 rfl rfl (by rw[Tryz.ntmps197];simp) fun bl=> ?_
 rw[Tryz.ntmps197,Tryz.results197]
 refine aC ?_
 simp[J.c]
 intro g1 hg1 hb1 g2 hg2 h21 hb2
 simp[h21,Ne.symm h21,Jl]
 refine⟨fun h=> ?_,fun h1=>⟨fun h=> ?_,fun h2=>⟨fun h=> ?_,fun h3=>⟨fun h=> ?_,fun h4=> ?_⟩⟩⟩⟩
 all_goals refine aK [_] 0 rfl ?_ ?_
 all_goals first | (simp[frz,J.wU, *];done)| (simp[hb1,hb2];done)
theorem K7 (a b:Mb):RO Tryz.prog 198 [.agg a.c,.agg b.c] (.bool (decide (a=b))):=by
 refine aJ Tryz.func198 rfl rfl (by rw[Tryz.ntmps198];simp) fun bl=> ?_
 rw[Tryz.ntmps198,Tryz.results198]
 refine aC ?_
 simp[Mb.c]
 intro g1 hg1 hb1 g2 hg2 h21 hb2
 simp[h21,Ne.symm h21]
 refine⟨fun h=> ?_,fun h1=>⟨fun h=> ?_,fun h2=>⟨fun h=> ?_,fun h3=> ?_⟩⟩⟩
 all_goals refine aK [_] 0 rfl ?_ ?_
 all_goals first | (simp[frz,Mb.wU, *];done)| (simp[hb1,hb2];done)
theorem T7 (a b:List J) (ha:a.length≤140737488351232):RO Tryz.prog 120 [.sl (jv a),.sl (jv b)] (.bool (decide (a=b))):=by
 refine aJ Tryz.func120 rfl rfl (by rw[Tryz.ntmps120];simp) fun bl=> ?_
 rw[Tryz.ntmps120,Tryz.results120]
 refine aC ?_
 simp
 refine⟨fun h=> ?_,fun h=> ?_⟩
 ·exact aS (by simp;rintro rfl;exact h rfl) rfl rfl
 refine aI (fun i:Nat=> [(0,.sl (jv a)),(1,.sl (jv b)),(5,.int .i64 i)]) (fun _=>bl) (fun i=>i≤a.length∧ ∀j (h1:j<a.length) (h2:j<b.length),j<i→a[j]=b[j]) (fun i=>a.length - i) _ 0 ⟨Nat.zero_le _,fun j _ _ h0=>by omega⟩ ⟨rfl,by simp,Sub.refl _⟩ ?_
 intro i ⟨hi,hc⟩
 refine aC ?_
 simp
 refine⟨fun h1=> ?_,fun h1=> ?_⟩
 ·refine cN aN (by kernel_rfl) ?_
  have h2:i<b.length:=by omega
  simp[h1,h2]
  refine aP (Ao a[i] b[i]) ?_
  simp
  refine⟨fun h3=> ?_,fun h3=> ?_⟩
  ·exact aS (by simp;rintro rfl;exact h3 rfl) rfl rfl
  ·simp (disch:=omega) [i64_in,aB]
   refine⟨i+1,⟨by omega,fun j hj1 hj2 hji=> ?_⟩,by omega,rfl,by simp,Sub.refl _⟩
   rcases Nat.lt_or_ge j i with hlt | hge
   ·exact hc j hj1 hj2 hlt
   ·obtain rfl:j=i:=by omega
    exact h3
 ·refine aS (by simp;exact List.ext_getElem (by omega) fun j hj1 hj2=>hc j hj1 hj2 (by omega)) rfl rfl
theorem I7 (a b:List Mb) (ha:a.length≤140737488351232):RO Tryz.prog 121 [.sl (mv a),.sl (mv b)] (.bool (decide (a=b))):=by
 refine aJ Tryz.func121 rfl rfl (by rw[Tryz.ntmps121];simp) fun bl=> ?_
 rw[Tryz.ntmps121,Tryz.results121]
 refine aC ?_
 simp
 refine⟨fun h=> ?_,fun h=> ?_⟩
 ·exact aS (by simp;rintro rfl;exact h rfl) rfl rfl
 refine aI (fun i:Nat=> [(0,.sl (mv a)),(1,.sl (mv b)),(5,.int .i64 i)]) (fun _=>bl) (fun i=>i≤a.length∧ ∀j (h1:j<a.length) (h2:j<b.length),j<i→a[j]=b[j]) (fun i=>a.length - i) _ 0 ⟨Nat.zero_le _,fun j _ _ h0=>by omega⟩ ⟨rfl,by simp,Sub.refl _⟩ ?_
 intro i ⟨hi,hc⟩
 refine aC ?_
 simp
 refine⟨fun h1=> ?_,fun h1=> ?_⟩
 ·refine cN aN (by kernel_rfl) ?_
  have h2:i<b.length:=by omega
  simp[h1,h2]
  refine aP (K7 a[i] b[i]) ?_
  simp
  refine⟨fun h3=> ?_,fun h3=> ?_⟩
  ·exact aS (by simp;rintro rfl;exact h3 rfl) rfl rfl
  ·simp (disch:=omega) [i64_in,aB]
   refine⟨i+1,⟨by omega,fun j hj1 hj2 hji=> ?_⟩,by omega,rfl,by simp,Sub.refl _⟩
   rcases Nat.lt_or_ge j i with hlt | hge
   ·exact hc j hj1 hj2 hlt
   ·obtain rfl:j=i:=by omega
    exact h3
 ·refine aS (by simp;exact List.ext_getElem (by omega) fun j hj1 hj2=>hc j hj1 hj2 (by omega)) rfl rfl
theorem xA (a b:Str) (ha:a.js.length≤140737488351232) (hm:a.ms.length≤140737488351232):RO Tryz.prog 50 [.agg a.c,.agg b.c] (.bool (decide (a=b))):=by
 refine aJ Tryz.func50 rfl rfl (by rw[Tryz.ntmps50];simp) fun bl=> ?_
 rw[Tryz.ntmps50,Tryz.results50]
 refine aC ?_
 simp[Str.c]
 intro g1 hg1 hb1 g2 hg2 h21 hb2
 simp[h21,Ne.symm h21]
 refine aE (T7 _ _ ha) ?_
 simp
 refine⟨fun h=> ?_,fun h=> ?_⟩
 ·refine aK [_] 0 rfl ?_ (by simp[hb1,hb2])
  simp[frz];rintro rfl;exact h rfl
 simp[h21,Ne.symm h21]
 refine aE (I7 _ _ hm) ?_
 simp
 refine⟨fun h'=> ?_,fun h'=> ?_⟩
 ·refine aK [_] 0 rfl ?_ (by simp[hb1,hb2])
  simp[frz];rintro rfl;exact h' rfl
 ·refine aK [_] 0 rfl ?_ (by simp[hb1,hb2])
  cases a;cases b;simp_all [frz]
theorem J1 {left:Int} {n:Nat} (h: -1≤left∧left≤1048576): -1≤less left n∧less left n≤1048576:=by unfold less;split<;>omega
theorem I8 (a:List Mb) (left:Int) (hl: -1≤left∧left≤1048576) (ha:a.length≤140737488351232):RO Tryz.prog 114 [.sl (mv a),.int .i64 left] (.int .i64 (less left a.length)):=by
 refine aJ Tryz.func114 rfl rfl (by rw[Tryz.ntmps114];simp) fun bl=> ?_
 rw[Tryz.ntmps114,Tryz.results114]
 refine aC ?_
 simp
 simp (disch:=omega) [i64_in]
 refine⟨fun h=> ?_,fun h=> ?_⟩
 ·exact aK [_] 0 rfl (by simp[frz,less];omega) (Sub.refl _)
 ·exact aK [_] 0 rfl (by simp[frz,less];omega) (Sub.refl _)
def szJs :List J→Int→Int
 | [], left => left
 | j :: js, left => if less left j.name.size < 0 then -1 else szJs js (less left j.name.size)
def tC (js:List J) (left:Int):Int:=if less left js.length<0 then -1 else szJs js (less left js.length)
theorem T3 (a:List J) (left:Int) (hl: -1≤left∧left≤1048576) (ha:a.length≤140737488351232) (hn: ∀j,j∈a→j.name.size≤140737488351232):RO Tryz.prog 113 [.sl (jv a),.int .i64 left] (.int .i64 (tC a left)):=by
 refine aJ Tryz.func113 rfl rfl (by rw[Tryz.ntmps113];simp) fun bl=> ?_
 rw[Tryz.ntmps113,Tryz.results113]
 refine aC ?_
 simp
 simp (disch:=omega) [i64_in]
 refine⟨fun h=> ?_,fun h=> ?_⟩
 ·exact aK [_] 0 rfl (by simp[frz,tC,less];omega) (Sub.refl _)
 refine aI (fun p:Nat×Int=> [(0,.sl (jv a)),(1,.int .i64 p.2),(5,.int .i64 p.1)]) (fun _=>bl) (fun p=>p.1≤a.length∧0≤p.2∧p.2≤1048576∧tC a left=szJs (a.drop p.1) p.2) (fun p=>a.length - p.1) _ (0,left - a.length) ⟨Nat.zero_le _,by simp;omega,by simp;omega,?_⟩ ⟨rfl,by simp,Sub.refl _⟩ ?_
 ·have h0: ¬ (left - (a.length:Int)<0):=by omega
  simp only[tC,less,if_neg h0,List.drop_zero]
 intro⟨i,l⟩ ⟨hi,hl0,hl1,hs⟩
 simp at hi hl0 hl1 hs
 refine aC ?_
 simp
 refine⟨fun h1=> ?_,fun h1=> ?_⟩
 ·simp[h1]
  refine aE (At a[i] l (by omega) (hn _ (List.getElem_mem _))) ?_
  simp
  rw[List.drop_eq_getElem_cons h1,szJs] at hs
  have:=J1 (left:=l) (n:=a[i].name.size) (by omega)
  refine⟨fun h2=> ?_,fun h2=> ?_⟩
  ·exact aK [_] 0 rfl (by simp[frz,hs,h2]) (Sub.refl _)
  ·simp (disch:=omega) [i64_in,aB]
   rw[if_neg (by omega)] at hs
   exact⟨i+1,less l a[i].name.size,⟨by omega,by omega,by omega,hs⟩,by omega,rfl,by simp,Sub.refl _⟩
 ·rw[List.drop_eq_nil_of_le h1,szJs] at hs
  exact aK [_] 0 rfl (by simp[frz,hs]) (Sub.refl _)
def rQ (s:Str) (left:Int):Int:=if tC s.js left<0 then -1 else if less (tC s.js left) s.ms.length<0 then -1 else less (tC s.js left) s.ms.length
theorem Cn : ∀(js:List J) (left:Int), -1≤left∧left≤1048576→ -1≤szJs js left∧szJs js left≤left
 | [], left, h => by simp [szJs]; omega
 | j :: js, left, h => by
   unfold szJs
   have:=J1 (left:=left) (n:=j.name.size) h
   split
   ·omega
   ·have h2:=Cn js _ this
    have:less left j.name.size≤left:=by unfold less at *;split<;>split at * <;>omega
    omega
theorem Bk (js:List J) (left:Int) (h: -1≤left∧left≤1048576): -1≤tC js left∧tC js left≤left∧(0≤tC js left→(js.length:Int)≤left):=by
 unfold tC
 split
 ·omega
 ·rename_i hn
  have h1:=J1 (left:=left) (n:=js.length) h
  have h2:=Cn js _ h1
  have:less left js.length=left - js.length:=by unfold less at *;split<;>split at * <;>omega
  omega
theorem wQ (s:Str) (left:Int) (hl: -1≤left∧left≤1048576) (hj:s.js.length≤140737488351232) (hm:s.ms.length≤140737488351232) (hn: ∀j,j∈s.js→j.name.size≤140737488351232):
  RO Tryz.prog 46 [.agg s.c,.int .i64 left] (.int .i64 (rQ s left)):=by
 refine aJ Tryz.func46 rfl rfl (by rw[Tryz.ntmps46];simp) fun bl=> ?_
 rw[Tryz.ntmps46,Tryz.results46]
 refine aC ?_
 simp[Str.c]
 intro g hg0 hg
 refine aE (T3 _ _ hl hj hn) ?_
 have hle:=Bk s.js left hl
 simp
 refine⟨fun h=> ?_,fun h=> ?_⟩
 ·exact aK [_] 0 rfl (by simp[frz,rQ,h]) (by simp[hg])
 refine aE (I8 _ _ (by omega) hm) ?_
 simp
 refine⟨fun h2=> ?_,fun h2=> ?_⟩
 ·exact aK [_] 0 rfl (by simp[frz,rQ,h2]) (by simp[hg])
 ·refine aK [_] 0 rfl ?_ (by simp[hg])
  simp only[rQ,if_neg (show ¬ tC s.js left<0 by omega),if_neg (show ¬ less (tC s.js left) s.ms.length<0 by omega)]
  rfl
theorem Lo {s:Str} {left:Int} (hl: -1≤left∧left≤1048576) (h:0≤rQ s left):(s.js.length:Int)≤left∧(s.ms.length:Int)≤left∧rQ s left≤left:=by
 have hle:=Bk s.js left hl
 unfold rQ at *
 split at h
 ·omega
 ·rename_i h1
  rw[if_neg h1]
  split at h
  ·omega
  ·rename_i h2
   rw[if_neg h2]
   unfold less at *
   split at h2
   ·omega
   ·rename_i h3
    rw[if_neg h3]
    omega

theorem Bw (a b:ByteArray):(a.toList==b.toList)=decide (a=b):=by
 rw[Bool.eq_iff_iff];simp[Jl]
def ixf {α:Type} (p:α→Bool) (xs:List α):Int:=match xs.findIdx? p with | some i=>i | none=> -1
theorem rY {α:Type} {p:α→Bool} {xs:List α} {i:Nat} (h:i<xs.length) (hb: ∀j (hj:j<xs.length),j<i→p xs[j]=false) (hp:p xs[i]=true):ixf p xs=i:=by
 unfold ixf
 have:xs.findIdx? p=some i:=by
  rw[List.findIdx?_eq_some_iff_getElem]
  exact⟨h,hp,fun j hj=>by simp[hb j (by omega) hj]⟩
 rw[this]
theorem sJ {α:Type} {p:α→Bool} {xs:List α} (hb: ∀j (hj:j<xs.length),p xs[j]=false):ixf p xs= -1:=by
 unfold ixf
 have:xs.findIdx? p=none:=by
  rw[List.findIdx?_eq_none_iff]
  intro x hx
  obtain⟨i,hi,rfl⟩:=List.mem_iff_getElem.1 hx
  exact hb i hi
 rw[this]
theorem pJ (a:List J) (f:FuncId) (cap:List V) (p:J→Bool) (ha:a.length≤140737488351232) (hf: ∀j,j∈a→RO Tryz.prog f (.agg j.c::cap) (.bool (p j))):
  RO Tryz.prog 166 [.sl (jv a),.fn f cap] (.int .i64 (ixf p a)):=by
 refine aJ Tryz.func166 rfl rfl (by rw[Tryz.ntmps166];simp) fun bl=> ?_
 rw[Tryz.ntmps166,Tryz.results166]
 refine aC ?_
 simp
 refine aI (fun i:Nat=> [(0,.sl (jv a)),(1,.fn f cap),(7,.int .i64 a.length),(8,.int .i64 i)]) (fun _=>bl) (fun i=>i≤a.length∧ ∀j (h1:j<a.length),j<i→p a[j]=false) (fun i=>a.length - i) _ 0 ⟨Nat.zero_le _,fun j _ h0=>by omega⟩ ⟨rfl,by simp,Sub.refl _⟩ ?_
 intro i ⟨hi,hc⟩
 refine aC ?_
 simp
 refine⟨fun h1=> ?_,fun h1=> ?_⟩
 ·simp[h1]
  refine aE (hf _ (List.getElem_mem h1)) ?_
  simp
  refine⟨fun h2=> ?_,fun h2=> ?_⟩
  ·exact aS (by simp[rY h1 hc h2]) rfl rfl
  ·simp (disch:=omega) [i64_in,aB]
   refine⟨i+1,⟨by omega,fun j hj1 hji=> ?_⟩,by omega,rfl,by simp,Sub.refl _⟩
   rcases Nat.lt_or_ge j i with hlt | hge
   ·exact hc j hj1 hlt
   ·obtain rfl:j=i:=by omega
    exact h2
 ·exact aS (by simp[sJ fun j hj=>hc j hj (by omega)]) rfl rfl
theorem vW (j:J) (name:ByteArray):RO Tryz.prog 167 [.agg j.c,.ptr [.str name]] (.bool (decide (j.name=name))):=by
 refine aJ Tryz.func167 rfl rfl (by rw[Tryz.ntmps167];simp) fun bl=> ?_
 rw[Tryz.ntmps167,Tryz.results167]
 refine aC ?_
 simp[J.c]
 intro g hg0 hg
 exact aK [_] 0 (by simp[Bw];rfl) rfl (by simp[hg])
theorem qI (s:Str) (name:ByteArray) (hj:s.js.length≤140737488351232):RO Tryz.prog 88 [.agg s.c,.str name] (.int .i64 (ixf (fun j=>decide (j.name=name)) s.js)):=by
 refine aJ Tryz.func88 rfl rfl (by rw[Tryz.ntmps88];simp) fun bl=> ?_
 rw[Tryz.ntmps88,Tryz.results88]
 refine aC ?_
 simp[Str.c]
 intro g1 hg1 hb1 g2 hg2 h21 hb2
 simp[h21,Ne.symm h21]
 refine bK 2 (ys:= [.sl (jv s.js),.fn 167 [.ptr [.str name]]]) ?_ (pJ _ _ _ (fun j=>decide (j.name=name)) hj fun j _=>vW j name) rfl ?_
 ·simp[frz,dropB,V.cl]
 simp
 exact aK [_] 0 rfl rfl (by simp[hb1,hb2])
theorem qS (s:Str) (name:ByteArray) (hj:s.js.length≤140737488351232):RO Tryz.prog 200 [.agg s.c,.str name] (.int .i64 (ixf (fun j=>decide (j.name=name)) s.js)):=by
 refine aJ Tryz.func200 rfl rfl (by rw[Tryz.ntmps200];simp) fun bl=> ?_
 rw[Tryz.ntmps200,Tryz.results200]
 refine aC ?_
 simp[Str.c]
 intro g1 hg1 hb1
 refine aI (fun i:Nat=> [(1,.str name),(8,.sl (jv s.js)),(9,.int .i64 s.js.length),(10,.int .i64 i)]) (fun _=>bl) (fun i=>i≤s.js.length∧ ∀j (h1:j<s.js.length),j<i→decide (s.js[j].name=name)=false) (fun i=>s.js.length - i) _ 0 ⟨Nat.zero_le _,fun j _ h0=>by omega⟩ ⟨rfl,by simp,by simp[hb1]⟩ ?_
 intro i ⟨hi,hc⟩
 refine aC ?_
 simp
 refine⟨fun h1=> ?_,fun h1=> ?_⟩
 ·simp[h1]
  intro g hg0 hg
  simp[J.c,Bw]
  refine⟨fun h2=> ?_,fun h2=> ?_⟩
  ·exact aK [_] 0 rfl (by simp[frz];exact(rY (p:=fun j=>decide (j.name=name)) h1 hc (by simpa using h2)).symm) (by simp[hg])
  ·simp (disch:=omega) [i64_in,aB]
   refine⟨i+1,⟨by omega,fun j hj1 hji=> ?_⟩,by omega,rfl,by simp,by simp[hg]⟩
   rcases Nat.lt_or_ge j i with hlt | hge
   ·simpa using hc j hj1 hlt
   ·obtain rfl:j=i:=by omega
    simpa using h2
 ·exact aK [_] 0 rfl (by simp[frz];exact(sJ (p:=fun j=>decide (j.name=name)) fun j hj=>hc j hj (by omega)).symm) (Sub.refl _)

end Go.Proofs.YticmgmemnpcbbaaGreat.Vm

namespace Go.Proofs.YticmgmemnpcbbaaGreat.Vm
open Go Go.Proofs
set_option linter.unusedSimpArgs false
set_option linter.unusedVariables false
theorem bP {P:Program} {id:Nat} {ops:Array Oper} {K:Ex→St→Prop} {σ:St} (l:List (Nat×V)) (n:Nat) (bl:Int→Option Blk) (t:Nat) (v:V) (hf:Fit l n bl σ) (hd:(l.all fun p=> !(ops.toList.map (·.dst)).contains (some p.1))=true)
  (h1:OpsF P (ops.toList.map (·.dst)) ops.toList (fun σ'=>σ'.sl t=v∧σ'.bl=bl) ⟨n,hv l,bl⟩) (h2:K .normal ⟨n,hv ((t,v)::l),bl⟩):AW P (.region id ops false) K σ:=bW l n bl t v bl hf hd h1 h2
instance : Inhabited J := ⟨⟨⟨#[]⟩, 0, 0, false⟩⟩
def jat (js:List J) (n:Int):J:=js.getD n.toNat default
def mOk (js:List J) (m:Mb):Bool:=
 (decide (0≤m.a)&& decide (m.a<js.length))&& (decide (0≤m.b)&& decide (m.b<js.length))&& (decide (1≤m.kind)&& decide (m.kind≤3))&&
 ((decide ((jat js m.a).x≠(jat js m.b).x)|| decide ((jat js m.a).y≠(jat js m.b).y))&& !((jat js m.a).fixed && (jat js m.b).fixed))
def sOk (s:Str):Bool:=decide (s.js.length≤6)&& decide (s.ms.length≤8)&&
 decide (∀i (h:i<s.js.length),s.js[i].ok=true∧ixf (fun j=>decide (j.name=s.js[i].name)) s.js=i)&& s.ms.all (mOk s.js)
theorem pW {js:List J} {n:Int} (h0:0≤n) (h1:n<js.length):(jv js)[n.toNat]? =some (jat js n).c:=by
 have:n.toNat<js.length:=by omega
 simp[jv,jat,this]
theorem O4 (s:Str) (m:Mb) (hj:s.js.length≤140737488351232):RO Tryz.prog 91 [.ptr s.c,.agg m.c] (.bool (mOk s.js m)):=by
 refine aJ Tryz.func91 rfl rfl (by rw[Tryz.ntmps91];simp) fun bl=> ?_
 rw[Tryz.ntmps91,Tryz.results91]
 refine aC ?_
 simp[Mb.c,Str.c]
 intro g hg0 hg
 refine bW [(0,.ptr s.c),(3,.loc g 3 0 0),(5,.int .i64 s.js.length)] _ (upd bl g (some ⟨3,[m.c]⟩)) 42 (.bool (! ((decide (0≤m.a)&& decide (m.a<s.js.length))&& (decide (0≤m.b)&& decide (m.b<s.js.length))&& (decide (1≤m.kind)&& decide (m.kind≤3))))) (upd bl g (some ⟨3,[m.c]⟩)) ⟨rfl,by simp[Mb.c,Str.c],sub_eq (by simp[Mb.c])⟩ rfl ?_ ?_
 ·simp[Mb.c]
  refine⟨fun h=>by omega,fun h1=>⟨fun h=>by omega,fun h2=>⟨fun h=>by omega,fun h3=>⟨fun h=>by omega,fun h4=>⟨fun h=>by omega,fun h5=> ?_⟩⟩⟩⟩⟩
  rw[Bool.eq_iff_iff];simp;omega
 simp
 refine⟨fun h=> ?_,fun h1 h2 h3 h4 h5 h6=> ?_⟩
 ·refine aK [_] 0 rfl ?_ (by simp[hg])
  simp[frz,mOk]
  intro h1 h2 h3 h4 h5 h6
  omega
 ·refine nJ aN [0,1,2,3,4,5,6,7,8,9,10,11,12,13,14,15] 4 (by kernel_rfl) ?_
  simp[Str.c,Mb.c,h1,h3,pW h1 h2,pW h3 h4,J.c]
  refine iH (i:=16) (j:=17) (by kernel_rfl) rfl rfl rfl rfl ?_ ?_
  ·simp
   intro g1 hg1 h1g hb1
   refine⟨by simp[hg,hb1,h1g],Dz 17 ?_⟩
   simp
   intro g2 hg2 h21 h2g hb2
   refine⟨by simp[hg,hb1,h1g,h21,h2g,hb2],Dz 18 ?_⟩
   simp[h1g,h21,h2g,Ne.symm h1g,Ne.symm h21,Ne.symm h2g]
   refine⟨by simp[hg,hb1,h1g,h21,h2g,hb2],Dz 19 ?_⟩
   simp[h1g,h21,h2g,Ne.symm h1g,Ne.symm h21,Ne.symm h2g]
   refine⟨by simp[hg,hb1,h1g,h21,h2g,hb2],Dy ?_⟩
   simp[h1g,h21,h2g,Ne.symm h1g,Ne.symm h21,Ne.symm h2g]
   refine bP [(6,.loc g1 4 0 0),(7,.loc g2 4 0 0)] _ _ 4 (.bool (mOk s.js m)) ⟨rfl,by simp,Sub.refl _⟩ rfl ?_ ?_
   ·simp[h1g,h21,h2g,Ne.symm h1g,Ne.symm h21,Ne.symm h2g,mOk,h1,h2,h3,h4,h5,h6]
    grind
   simp
   exact aK [_] 0 rfl rfl (by simp[hg,hb1,hb2])
  ·simp
   intro g2 hg2 h2g hb2
   refine⟨by simp[hg,hb2,h2g],Dz 16 ?_⟩
   simp
   intro g1 hg1 h12 h1g hb1
   have h21:=Ne.symm h12
   refine⟨by simp[hg,hb1,h1g,h21,h2g,hb2],Dz 18 ?_⟩
   simp[h1g,h12,h21,h2g,Ne.symm h1g,Ne.symm h2g]
   refine⟨by simp[hg,hb1,h1g,h21,h2g,hb2],Dz 19 ?_⟩
   simp[h1g,h12,h21,h2g,Ne.symm h1g,Ne.symm h2g]
   refine⟨by simp[hg,hb1,h1g,h21,h2g,hb2],Dy ?_⟩
   simp[h1g,h12,h21,h2g,Ne.symm h1g,Ne.symm h2g]
   refine bP [(6,.loc g1 4 0 0),(7,.loc g2 4 0 0)] _ _ 4 (.bool (mOk s.js m)) ⟨rfl,by simp,Sub.refl _⟩ rfl ?_ ?_
   ·simp[h1g,h12,h21,h2g,Ne.symm h1g,Ne.symm h2g,mOk,h1,h2,h3,h4,h5,h6]
    grind
   simp
   exact aK [_] 0 rfl rfl (by simp[hg,hb1,hb2])

theorem nU (a:List Mb) (f:FuncId) (cap:List V) (p:Mb→Bool) (ha:a.length≤140737488351232) (hf: ∀j,j∈a→RO Tryz.prog f (.agg j.c::cap) (.bool (p j))):
  RO Tryz.prog 168 [.sl (mv a),.fn f cap] (.int .i64 (ixf p a)):=by
 refine aJ Tryz.func168 rfl rfl (by rw[Tryz.ntmps168];simp) fun bl=> ?_
 rw[Tryz.ntmps168,Tryz.results168]
 refine aC ?_
 simp
 refine aI (fun i:Nat=> [(0,.sl (mv a)),(1,.fn f cap),(7,.int .i64 a.length),(8,.int .i64 i)]) (fun _=>bl) (fun i=>i≤a.length∧ ∀j (h1:j<a.length),j<i→p a[j]=false) (fun i=>a.length - i) _ 0 ⟨Nat.zero_le _,fun j _ h0=>by omega⟩ ⟨rfl,by simp,Sub.refl _⟩ ?_
 intro i ⟨hi,hc⟩
 refine aC ?_
 simp
 refine⟨fun h1=> ?_,fun h1=> ?_⟩
 ·simp[h1]
  refine aE (hf _ (List.getElem_mem h1)) ?_
  simp
  refine⟨fun h2=> ?_,fun h2=> ?_⟩
  ·exact aS (by simp[rY h1 hc h2]) rfl rfl
  ·simp (disch:=omega) [i64_in,aB]
   refine⟨i+1,⟨by omega,fun j hj1 hji=> ?_⟩,by omega,rfl,by simp,Sub.refl _⟩
   rcases Nat.lt_or_ge j i with hlt | hge
   ·exact hc j hj1 hlt
   ·obtain rfl:j=i:=by omega
    exact h2
 ·exact aS (by simp[sJ fun j hj=>hc j hj (by omega)]) rfl rfl
theorem uN (s:Str) (m:Mb) (hj:s.js.length≤140737488351232):RO Tryz.prog 90 [.agg m.c,.ptr s.c] (.bool (!mOk s.js m)):=by
 refine aJ Tryz.func90 rfl rfl (by rw[Tryz.ntmps90];simp) fun bl=> ?_
 rw[Tryz.ntmps90,Tryz.results90]
 refine aC ?_
 simp[Mb.c]
 intro g hg0 hg
 refine aE (O4 s m hj) ?_
 simp
 exact aK [_] 0 rfl rfl (by simp[hg])
theorem Gd {α:Type} (p:α→Bool) (xs:List α):(decide (0≤ixf p xs))=xs.any p:=by
 unfold ixf
 cases h:xs.findIdx? p with
 | none =>
   rw[List.findIdx?_eq_none_iff] at h
   have:xs.any p=false:=by rw[List.any_eq_false];intro x hx;simp[h x hx]
   simp[this]
 | some i =>
   rw[List.findIdx?_eq_some_iff_getElem] at h
   obtain⟨h1,h2,_⟩:=h
   have:xs.any p=true:=List.any_eq_true.2 ⟨xs[i],List.getElem_mem h1,h2⟩
   rw[this];simp
theorem mA (a:List Mb) (f:FuncId) (cap:List V) (p:Mb→Bool) (ha:a.length≤140737488351232) (hf: ∀j,j∈a→RO Tryz.prog f (.agg j.c::cap) (.bool (p j))):
  RO Tryz.prog 89 [.sl (mv a),.fn f cap] (.bool (a.any p)):=by
 refine aJ Tryz.func89 rfl rfl (by rw[Tryz.ntmps89];simp) fun bl=> ?_
 rw[Tryz.ntmps89,Tryz.results89]
 refine aC ?_
 simp
 refine aE (nU a f cap p ha hf) ?_
 simp
 exact aS (by simp[Gd]) rfl rfl
def jOk (js:List J) (i:Nat):Bool:=if h:i<js.length then js[i].ok && decide (ixf (fun j=>decide (j.name=js[i].name)) js=i) else false
theorem sY (s:Str):sOk s=(decide (s.js.length≤6)&& decide (s.ms.length≤8)&& decide (∀i,i<s.js.length→jOk s.js i=true)&& s.ms.all (mOk s.js)):=by
 unfold sOk
 congr 2
 rw[Bool.eq_iff_iff]
 simp only[decide_eq_true_eq]
 constructor
 ·intro h i hi;simp only[jOk,dif_pos hi,Bool.and_eq_true,decide_eq_true_eq];exact h i hi
 ·intro h i hi;have:=h i hi;simp only[jOk,dif_pos hi,Bool.and_eq_true,decide_eq_true_eq] at this;exact this
theorem pI (s:Str) (hj:s.js.length≤140737488351232) (hm:s.ms.length≤140737488351232) (hn: ∀j,j∈s.js→j.name.size≤140737488351232):RO Tryz.prog 24 [.agg s.c] (.bool (sOk s)):=by
 refine aJ Tryz.func24 rfl rfl (by rw[Tryz.ntmps24];simp) fun bl=> ?_
 rw[Tryz.ntmps24,Tryz.results24]
 refine aC ?_
 simp[Str.c]
 intro g hg0 hg
 refine bW [(1,.loc g 2 0 0)] _ (upd bl g (some ⟨2,[s.c]⟩)) 14 (.bool (! (decide (s.js.length≤6)&& decide (s.ms.length≤8)))) (upd bl g (some ⟨2,[s.c]⟩)) ⟨rfl,by simp,sub_eq (by simp[Str.c])⟩ rfl ?_ ?_
 ·simp[Str.c]
  refine⟨fun h=> .inl (by omega),fun h=> ?_⟩
  rw[Bool.eq_iff_iff];simp;omega
 simp[Str.c]
 refine⟨fun h=> ?_,fun hl1 hl2=> ?_⟩
 ·refine aK [_] 0 rfl ?_ (by simp[hg])
  simp[frz,sY];omega
 refine aI (fun i:Nat=> [(1,.loc g 2 0 0),(16,.sl (jv s.js)),(17,.int .i64 s.js.length),(18,.int .i64 i)]) (fun _=>upd bl g (some ⟨2,[s.c]⟩)) (fun i=>i≤s.js.length∧ ∀j,j<i→jOk s.js j=true) (fun i=>s.js.length - i) _ 0 ⟨Nat.zero_le _,fun j h0=>by omega⟩ ⟨rfl,by simp,sub_eq (by simp[Str.c])⟩ ?_
 intro i ⟨hi,hc⟩
 refine aC ?_
 simp
 refine⟨fun h1=> ?_,fun h1=> ?_⟩
 ·simp[h1,J.c]
  intro g2 hg2 h2g hb2
  refine bW [(1,.loc g 2 0 0),(3,.int .i64 i),(4,.loc g2 4 0 0),(16,.sl (jv s.js)),(17,.int .i64 s.js.length),(18,.int .i64 i)] _ (upd (upd bl g (some ⟨2,[s.c]⟩)) g2 (some ⟨4,[s.js[i].c]⟩)) 33 (.bool (!jOk s.js i)) (upd (upd bl g (some ⟨2,[s.c]⟩)) g2 (some ⟨4,[s.js[i].c]⟩)) ⟨rfl,by simp,sub_eq (by simp[J.c])⟩ rfl ?_ ?_
  ·simp[J.c,h2g,Ne.symm h2g]
   refine aE (uG s.js[i] (hn _ (List.getElem_mem h1))) ?_
   simp[h2g,Ne.symm h2g,Str.c]
   refine⟨fun h=>by simp[jOk,h1,h],fun h=> ?_⟩
   refine aE (qI s _ hj) ?_
   simp[jOk,h1,h]
   rw[Bool.eq_iff_iff];simp
  simp
  refine⟨fun h3=> ?_,fun h3=> ?_⟩
  ·refine aK [_] 0 rfl ?_ (by simp[hg,hb2])
   have: ¬ ∀i,i<s.js.length→jOk s.js i=true:=fun hh=>by rw[hh i h1] at h3;cases h3
   simp[frz,sY,this]
  ·simp (disch:=omega) [i64_in,aB]
   refine⟨i+1,⟨by omega,fun j hji=> ?_⟩,by omega,rfl,by simp,by simp[h2g,hb2,hg]⟩
   rcases Nat.lt_or_ge j i with hlt | hge
   ·exact hc j hlt
   ·obtain rfl:j=i:=by omega
    exact h3
 ·have bO: ∀i,i<s.js.length→jOk s.js i=true:=fun j hj=>hc j (by omega)
  simp[Str.c]
  refine bK 2 (ys:= [.sl (mv s.ms),.fn 90 [.ptr s.c]]) ?_ (mA s.ms _ _ (fun m=> !mOk s.js m) hm fun m _=>uN s m hj) rfl ?_
  ·simp[frz,dropB,V.cl,Str.c]
  simp
  have hd:decide (∀i,i<s.js.length→jOk s.js i=true)=true:=decide_eq_true bO
  have hs:sOk s= !s.ms.any fun m=> !mOk s.js m:=by
   rw[sY]
   simp only[hl1,hl2,hd,decide_true,Bool.true_and]
   rw[Bool.eq_iff_iff];simp
  exact aK [_] 0 rfl (by rw[hs];rfl) (by simp[hg])

theorem pH (s:Str) (hj:s.js.length≤140737488351232) (hm:s.ms.length≤140737488351232) (hn: ∀j,j∈s.js→j.name.size≤140737488351232):RO Tryz.prog 122 [.agg s.c] (.bool (sOk s)):=by
 refine aJ Tryz.func122 rfl rfl (by rw[Tryz.ntmps122];simp) fun bl=> ?_
 rw[Tryz.ntmps122,Tryz.results122]
 refine aC ?_
 simp[Str.c]
 intro g hg0 hg
 refine bW [(1,.loc g 2 0 0)] _ (upd bl g (some ⟨2,[s.c]⟩)) 19 (.bool (! (decide (s.js.length≤6)&& decide (s.ms.length≤8)))) (upd bl g (some ⟨2,[s.c]⟩)) ⟨rfl,by simp,sub_eq (by simp[Str.c])⟩ rfl ?_ ?_
 ·simp[Str.c]
  refine⟨fun h=> .inl (by omega),fun h=> ?_⟩
  rw[Bool.eq_iff_iff];simp;omega
 simp[Str.c]
 refine⟨fun h=> ?_,fun hl1 hl2=> ?_⟩
 ·refine aK [_] 0 rfl ?_ (by simp[hg])
  simp[frz,sY];omega
 refine aI (fun i:Nat=> [(1,.loc g 2 0 0),(21,.sl (jv s.js)),(22,.int .i64 s.js.length),(23,.int .i64 i)]) (fun _=>upd bl g (some ⟨2,[s.c]⟩)) (fun i=>i≤s.js.length∧ ∀j,j<i→jOk s.js j=true) (fun i=>s.js.length - i) _ 0 ⟨Nat.zero_le _,fun j h0=>by omega⟩ ⟨rfl,by simp,sub_eq (by simp[Str.c])⟩ ?_
 intro i ⟨hi,hc⟩
 refine aC ?_
 simp
 refine⟨fun h1=> ?_,fun h1=> ?_⟩
 ·simp[h1,J.c]
  intro g2 hg2 h2g hb2
  refine bW [(1,.loc g 2 0 0),(3,.int .i64 i),(4,.loc g2 4 0 0),(21,.sl (jv s.js)),(22,.int .i64 s.js.length),(23,.int .i64 i)] _ (upd (upd bl g (some ⟨2,[s.c]⟩)) g2 (some ⟨4,[s.js[i].c]⟩)) 38 (.bool (!jOk s.js i)) (upd (upd bl g (some ⟨2,[s.c]⟩)) g2 (some ⟨4,[s.js[i].c]⟩)) ⟨rfl,by simp,sub_eq (by simp[J.c])⟩ rfl ?_ ?_
  ·simp[J.c,h2g,Ne.symm h2g]
   refine aE (uD s.js[i] (hn _ (List.getElem_mem h1))) ?_
   simp[h2g,Ne.symm h2g,Str.c]
   refine⟨fun h=>by simp[jOk,h1,h],fun h=> ?_⟩
   refine aE (qS s _ hj) ?_
   simp[jOk,h1,h]
   rw[Bool.eq_iff_iff];simp
  simp
  refine⟨fun h3=> ?_,fun h3=> ?_⟩
  ·refine aK [_] 0 rfl ?_ (by simp[hg,hb2])
   have: ¬ ∀i,i<s.js.length→jOk s.js i=true:=fun hh=>by rw[hh i h1] at h3;cases h3
   simp[frz,sY,this]
  ·simp (disch:=omega) [i64_in,aB]
   refine⟨i+1,⟨by omega,fun j hji=> ?_⟩,by omega,rfl,by simp,by simp[h2g,hb2,hg]⟩
   rcases Nat.lt_or_ge j i with hlt | hge
   ·exact hc j hlt
   ·obtain rfl:j=i:=by omega
    exact h3
 have bO: ∀i,i<s.js.length→jOk s.js i=true:=fun j hj=>hc j (by omega)
 simp[Str.c]
 simp (disch:=omega) [i64_in]
 have hd:decide (∀i,i<s.js.length→jOk s.js i=true)=true:=decide_eq_true bO
 have hs:sOk s=s.ms.all (mOk s.js):=by
  rw[sY]
  simp only[hl1,hl2,hd,decide_true,Bool.true_and]
 rw[hs]
 refine aI (fun i:Nat=> [(1,.loc g 2 0 0),(5,.int .i64 (s.js.length - 1)),(45,.sl (mv s.ms)),(46,.int .i64 s.ms.length),(47,.int .i64 i)]) (fun _=>upd bl g (some ⟨2,[s.c]⟩)) (fun i=>i≤s.ms.length∧ ∀j (h:j<s.ms.length),j<i→mOk s.js s.ms[j]=true) (fun i=>s.ms.length - i) _ 0 ⟨Nat.zero_le _,fun j _ h0=>by omega⟩ ⟨rfl,by simp,sub_eq (by simp[Str.c])⟩ ?_
 clear hc hi h1
 intro k ⟨hk,hc⟩
 refine aC ?_
 simp
 refine⟨fun h1=> ?_,fun h1=> ?_⟩
 ·simp[h1,Mb.c]
  intro g2 hg2 h2g hb2
  refine bW [(1,.loc g 2 0 0),(5,.int .i64 (s.js.length - 1)),(7,.loc g2 3 0 0),(45,.sl (mv s.ms)),(46,.int .i64 s.ms.length),(47,.int .i64 k)] _ (upd (upd bl g (some ⟨2,[s.c]⟩)) g2 (some ⟨3,[s.ms[k].c]⟩)) 68
   (.bool (! ((decide (0≤s.ms[k].a)&& decide (s.ms[k].a<s.js.length))&& (decide (0≤s.ms[k].b)&& decide (s.ms[k].b<s.js.length))&& (decide (1≤s.ms[k].kind)&& decide (s.ms[k].kind≤3))))) (upd (upd bl g (some ⟨2,[s.c]⟩)) g2 (some ⟨3,[s.ms[k].c]⟩)) ⟨rfl,by simp,sub_eq (by simp[Mb.c])⟩ rfl ?_ ?_
  ·simp[Mb.c,h2g,Ne.symm h2g]
   refine aE (kL _ _ _) ?_
   simp[h2g,Ne.symm h2g]
   refine⟨fun h=>by omega,fun h2 h3=> ?_⟩
   refine aE (kL _ _ _) ?_
   simp[h2g,Ne.symm h2g]
   refine⟨fun h=>by omega,fun h4 h5=> ?_⟩
   refine aE (kL _ _ _) ?_
   simp
   omega
  simp
  refine⟨fun h=> ?_,fun h2 h3 h4 h5 h6 h7=> ?_⟩
  ·refine aK [_] 0 rfl ?_ (by simp[hg,hb2])
   have h0:mOk s.js s.ms[k]=false:=by
    simp[mOk]
    intro a1 a2 a3 a4 a5 a6
    omega
   have:s.ms.all (mOk s.js)=false:=by
    rw[Bool.eq_false_iff];intro hh
    rw[List.all_eq_true.1 hh _ (List.getElem_mem h1)] at h0;cases h0
   rw[this];rfl
  simp[h2g,Ne.symm h2g,Str.c,Mb.c,h2,h4,pW h2 h3,pW h4 h5,J.c]
  intro g3 hg3 h32 h3g hb3
  simp[h2g,Ne.symm h2g,h32,h3g,Ne.symm h32,Ne.symm h3g,Str.c,Mb.c,h2,h4,pW h2 h3,pW h4 h5,J.c]
  intro g4 hg4 h43 h42 h4g hb4
  try simp[h2g,Ne.symm h2g,h32,h3g,Ne.symm h32,Ne.symm h3g,h43,h42,h4g,Ne.symm h43,Ne.symm h42,Ne.symm h4g]
  refine bP [(1,.loc g 2 0 0),(5,.int .i64 (s.js.length - 1)),(8,.loc g3 4 0 0),(9,.loc g4 4 0 0),(45,.sl (mv s.ms)),(46,.int .i64 s.ms.length),(47,.int .i64 k)] _ _ 100 (.bool (!mOk s.js s.ms[k])) ⟨rfl,by simp,Sub.refl _⟩ rfl ?_ ?_
  ·simp[h2g,Ne.symm h2g,h32,h3g,Ne.symm h32,Ne.symm h3g,h43,h42,h4g,Ne.symm h43,Ne.symm h42,Ne.symm h4g,mOk,h2,h3,h4,h5,h6,h7]
   grind
  simp
  refine⟨fun h8=> ?_,fun h8=> ?_⟩
  ·refine aK [_] 0 rfl ?_ (by simp[hg,hb2,hb3,hb4])
   have:s.ms.all (mOk s.js)=false:=by
    rw[Bool.eq_false_iff];intro hh
    rw[List.all_eq_true.1 hh _ (List.getElem_mem h1)] at h8;cases h8
   rw[this];rfl
  ·simp (disch:=omega) [i64_in,aB]
   refine⟨k+1,⟨by omega,fun j hj1 hji=> ?_⟩,by omega,rfl,by simp,by simp[h2g,h3g,h4g,hb2,hb3,hb4,hg,Str.c]⟩
   rcases Nat.lt_or_ge j k with hlt | hge
   ·exact hc j hj1 hlt
   ·obtain rfl:j=k:=by omega
    exact h8
 ·refine aK [_] 0 rfl ?_ (by simp[hg])
  have:s.ms.all (mOk s.js)=true:=List.all_eq_true.2 fun m hm=>by
   obtain⟨j,hj,rfl⟩:=List.mem_iff_getElem.1 hm
   exact hc j hj (by omega)
  rw[this];rfl

end Go.Proofs.YticmgmemnpcbbaaGreat.Vm

namespace Go.Proofs.YticmgmemnpcbbaaGreat.Vm
open Go Go.Proofs
set_option linter.unusedSimpArgs false
set_option linter.unusedVariables false
def G6 (n:Int):Bool:=decide (-100≤n)&& decide (n≤100)
def A6 (js:List J) (l:List Int):Bool:=decide (l.length=2*js.length)&& l.all G6
def lOk (s:Str) (l:List Int):Bool:=sOk s && A6 s.js l

structure SOk (s : Str) : Prop where
 nj:s.js.length≤6
 nm:s.ms.length≤8
 pl: ∀i,i<s.js.length→(-50≤(s.js.getD i default).x∧(s.js.getD i default).x≤50)∧(-50≤(s.js.getD i default).y∧(s.js.getD i default).y≤50)
 ix: ∀m,m∈s.ms→(0≤m.a∧m.a<s.js.length)∧(0≤m.b∧m.b<s.js.length)
 kd: ∀m,m∈s.ms→1≤m.kind∧m.kind≤3
theorem Gn {s:Str} (h:sOk s=true):SOk s:=by
 unfold sOk at h
 simp only[Bool.and_eq_true,decide_eq_true_eq] at h
 obtain⟨⟨⟨h1,h2⟩,h3⟩,h4⟩:=h
 refine⟨h1,h2,fun i hi=> ?_,fun m hm=> ?_,fun m hm=> ?_⟩
 ·have:=(h3 i hi).1
  simp[J.ok] at this
  simp[hi]
  omega
 ·have:=List.all_eq_true.1 h4 m hm
  simp[mOk] at this
  omega
 ·have:=List.all_eq_true.1 h4 m hm
  simp[mOk] at this
  omega
theorem SOk.at {s:Str} (h:SOk s) {n:Int} (h0:0≤n) (h1:n<s.js.length):(-50≤(jat s.js n).x∧(jat s.js n).x≤50)∧(-50≤(jat s.js n).y∧(jat s.js n).y≤50):=h.pl n.toNat (by omega)
instance : Inhabited Mb := ⟨⟨0, 0, 0⟩⟩
def vx (s:Str) (m:Mb):Int:=(jat s.js m.b).x - (jat s.js m.a).x
def vy (s:Str) (m:Mb):Int:=(jat s.js m.b).y - (jat s.js m.a).y
def mat (s:Str) (k:Int):Mb:=s.ms.getD k.toNat default
theorem Co {s:Str} {k:Int} (h0:0≤k) (h1:k<s.ms.length):mat s k∈s.ms:=by
 have:k.toNat<s.ms.length:=by omega
 simp[mat,this]
theorem Li {s:Str} {k:Int} (h0:0≤k) (h1:k<s.ms.length):(mv s.ms)[k.toNat]? =some (mat s k).c:=by
 have:k.toNat<s.ms.length:=by omega
 simp[mv,mat,this]
theorem H7 (s:Str) (k:Int) (hs:SOk s) (h0:0≤k) (h1:k<s.ms.length):RO Tryz.prog 251 [.agg s.c,.int .i64 k] (.tup [.int .i64 (vx s (mat s k)),.int .i64 (vy s (mat s k))]):=by
 obtain⟨⟨a1,a2⟩,⟨b1,b2⟩⟩:=hs.ix _ (Co h0 h1)
 have ca:=hs.at a1 a2
 have cb:=hs.at b1 b2
 refine aJ Tryz.func251 rfl rfl (by rw[Tryz.ntmps251];simp) fun bl=> ?_
 rw[Tryz.ntmps251,Tryz.results251]
 refine aC ?_
 simp[Str.c]
 intro g hg0 hg
 refine nJ aN [0,1,2,3,4,5,6,7,8,9] 2 (by kernel_rfl) ?_
 simp[Str.c,h0,Li h0 h1,Mb.c,a1,pW a1 a2,J.c]
 refine Dz 10 ?_
 simp
 intro g1 hg1 h1g hb1
 refine⟨by simp[hg,hb1,h1g],Dz 11 ?_⟩
 simp[h1g,Ne.symm h1g]
 refine⟨by simp[hg,hb1,h1g],Dy ?_⟩
 simp[h1g,Ne.symm h1g]
 refine nJ aN [0,1,2,3,4,5,6,7,8,9] 2 (by kernel_rfl) ?_
 simp[Str.c,h0,Li h0 h1,Mb.c,b1,pW b1 b2,J.c,h1g,Ne.symm h1g]
 refine Dz 10 ?_
 simp
 intro g2 hg2 h2g h21 hb2
 refine⟨by simp[hg,hb1,h1g,hb2,h2g,h21],Dz 11 ?_⟩
 simp[h1g,Ne.symm h1g,h2g,h21,Ne.symm h2g,Ne.symm h21]
 refine⟨by simp[hg,hb1,h1g,hb2,h2g,h21],Dy ?_⟩
 simp[h1g,Ne.symm h1g,h2g,h21,Ne.symm h2g,Ne.symm h21]
 refine cN aN (by kernel_rfl) ?_
 simp[h1g,Ne.symm h1g,h2g,h21,Ne.symm h2g,Ne.symm h21]
 simp (disch:=omega) [i64_in]
 exact aK [_,_] 1 rfl rfl (by simp[hg,hb1,hb2])
theorem sN (s:Str) (k:Int) (hs:SOk s) (h0:0≤k) (h1:k<s.ms.length):RO Tryz.prog 157 [.ptr s.c,.int .i64 k] (.tup [.int .i64 (vx s (mat s k)),.int .i64 (vy s (mat s k))]):=by
 obtain⟨⟨a1,a2⟩,⟨b1,b2⟩⟩:=hs.ix _ (Co h0 h1)
 have ca:=hs.at a1 a2
 have cb:=hs.at b1 b2
 refine aJ Tryz.func157 rfl rfl (by rw[Tryz.ntmps157];simp) fun bl=> ?_
 rw[Tryz.ntmps157,Tryz.results157]
 refine aC ?_
 simp[Str.c,h0,Li h0 h1,Mb.c]
 intro g hg0 hg
 refine cN aN (by kernel_rfl) ?_
 simp[a1,b1,pW a1 a2,pW b1 b2,J.c]
 simp (disch:=omega) [i64_in]
 exact aK [_,_] 1 rfl rfl (by simp[hg])
def aCM (s:Str) (k:Int):Int:=if(decide (0≤k)&& decide (k<s.ms.length)&& sOk s)=true then vx s (mat s k) else 0
def aC6 (s:Str) (k:Int):Int:=if(decide (0≤k)&& decide (k<s.ms.length)&& sOk s)=true then vy s (mat s k) else 0
def eqX (s:Str) (j:Int) (m:Mb):Int:=if j=m.a then vx s m else if j=m.b then -vx s m else 0
def eqY (s:Str) (j:Int) (m:Mb):Int:=if j=m.a then vy s m else if j=m.b then -vy s m else 0
end Go.Proofs.YticmgmemnpcbbaaGreat.Vm

namespace Go.Proofs.YticmgmemnpcbbaaGreat.Vm
open Go Go.RowKit
set_option linter.unusedSimpArgs false
set_option linter.unusedVariables false
inductive D where
 | c (x : V)
 | s (sz : Nat) (rows : List (List D))
 | p (row : List D)
 | a (cs : List D)
 | t (cs : List D)
 deriving Inhabited
mutual
def OwnD (bl:Int→Option Blk):D→V→List Int→Prop
 | .c x, v, gs => v = x ∧ x.cl = true ∧ gs = []
 | .s sz rows, v, gs => (rows = [] ∧ v = .nils ∧ gs = []) ∨ ∃ g els gs', v = .lsl g sz 0 rows.length ∧ gs = g :: gs' ∧ g ∉ gs' ∧ bl g = some ⟨sz, els⟩ ∧ (g < 0 → els = []) ∧ OwnR bl sz rows els gs'
 | .p row, v, gs => ∃ g e gs', v = .loc g row.length 0 0 ∧ gs = g :: gs' ∧ g ∉ gs' ∧ 0 ≤ g ∧ bl g = some ⟨row.length, [e]⟩ ∧ OwnL bl row e gs'
 | .a cs, v, gs => ∃ vs, v = .agg vs ∧ OwnL bl cs vs gs
 | .t cs, v, gs => ∃ vs, v = .tup vs ∧ OwnL bl cs vs gs
def OwnL (bl:Int→Option Blk):List D→List V→List Int→Prop
 | [], vs, gs => vs = [] ∧ gs = []
 | d :: ds, vs, gs => ∃ v vs' g1 g2, vs = v :: vs' ∧ gs = g1 ++ g2 ∧ (∀ g, g ∈ g1 → g ∉ g2) ∧ OwnD bl d v g1 ∧ OwnL bl ds vs' g2
def OwnR (bl:Int→Option Blk) (sz:Nat):List (List D)→List (List V)→List Int→Prop
 | [], els, gs => els = [] ∧ gs = []
 | r :: rs, els, gs => ∃ e jZ g1 g2, els = e :: jZ ∧ gs = g1 ++ g2 ∧ (∀ g, g ∈ g1 → g ∉ g2) ∧ e.length = sz ∧ (e.all V.one = true) ∧ OwnL bl r e g1 ∧ OwnR bl sz rs jZ g2
end
mutual
def D.fz :D→V
 | .c x => x
 | .s _ rows => .sl (D.fzR rows)
 | .p row => .ptr (D.fzL row)
 | .a cs => .agg (D.fzL cs)
 | .t cs => .tup (D.fzL cs)
def D.fzL :List D→List V
 | [] => []
 | d :: ds => d.fz :: D.fzL ds
def D.fzR :List (List D)→List (List V)
 | [] => []
 | r :: rs => D.fzL r :: D.fzR rs
end
theorem uX : ∀(ds:List D),D.fzL ds=ds.map D.fz
 | [] => by simp [D.fzL]
 | d :: ds => by simp [D.fzL, uX ds]
theorem J6 : ∀(rs:List (List D)),D.fzR rs=rs.map fun r=>r.map D.fz
 | [] => by simp [D.fzR]
 | r :: rs => by simp [D.fzR, J6 rs, uX]
mutual
theorem OwnD.frame {bl bl':Int→Option Blk} : ∀ {d:D} {v:V} {gs:List Int},OwnD bl d v gs→(∀g,g∈gs→bl' g=bl g)→OwnD bl' d v gs
 | .c x, v, gs, h, _ => by rw [OwnD] at h ⊢; exact h
 | .s sz rows, v, gs, h, hg => by
   rw[OwnD] at h ⊢
   rcases h with h | ⟨g,els,gs',h1,h2,h3,h4,h5,h6⟩
   ·exact .inl h
   ·subst h2
    exact .inr ⟨g,els,gs',h1,rfl,h3,by rw[hg g (by simp)];exact h4,h5,OwnR.frame h6 fun g' hg'=>hg g' (by simp[hg'])⟩
 | .p row, v, gs, h, hg => by
   rw[OwnD] at h ⊢
   obtain⟨g,e,gs',h1,h2,h3,h0,h4,h5⟩:=h
   subst h2
   exact⟨g,e,gs',h1,rfl,h3,h0,by rw[hg g (by simp)];exact h4,OwnL.frame h5 fun g' hg'=>hg g' (by simp[hg'])⟩
 | .a cs, v, gs, h, hg => by
   rw[OwnD] at h ⊢
   obtain⟨vs,h1,h2⟩:=h
   exact⟨vs,h1,OwnL.frame h2 hg⟩
 | .t cs, v, gs, h, hg => by
   rw[OwnD] at h ⊢
   obtain⟨vs,h1,h2⟩:=h
   exact⟨vs,h1,OwnL.frame h2 hg⟩
theorem OwnL.frame {bl bl':Int→Option Blk} : ∀ {ds:List D} {vs:List V} {gs:List Int},OwnL bl ds vs gs→(∀g,g∈gs→bl' g=bl g)→OwnL bl' ds vs gs
 | [], vs, gs, h, _ => by rw [OwnL] at h ⊢; exact h
 | d :: ds, vs, gs, h, hg => by
   rw[OwnL] at h ⊢
   obtain⟨v,vs',g1,g2,h1,h2,h3,h4,h5⟩:=h
   subst h2
   exact⟨v,vs',g1,g2,h1,rfl,h3,OwnD.frame h4 fun g hgg=>hg g (by simp[hgg]),OwnL.frame h5 fun g hgg=>hg g (by simp[hgg])⟩
theorem OwnR.frame {bl bl':Int→Option Blk} {sz:Nat} : ∀ {rs:List (List D)} {els:List (List V)} {gs:List Int},OwnR bl sz rs els gs→(∀g,g∈gs→bl' g=bl g)→OwnR bl' sz rs els gs
 | [], vs, gs, h, _ => by rw [OwnR] at h ⊢; exact h
 | r :: rs, els, gs, h, hg => by
   rw[OwnR] at h ⊢
   obtain⟨e,jZ,g1,g2,h1,h2,h3,h4,h4',h5,h6⟩:=h
   subst h2
   exact⟨e,jZ,g1,g2,h1,rfl,h3,h4,h4',OwnL.frame h5 fun g hgg=>hg g (by simp[hgg]),OwnR.frame h6 fun g hgg=>hg g (by simp[hgg])⟩
end
mutual
theorem OwnD.has {bl:Int→Option Blk} : ∀ {d:D} {v:V} {gs:List Int},OwnD bl d v gs→ ∀g,g∈gs→ ∃b,bl g=some b
 | .c x, v, gs, h, g, hg => by rw [OwnD] at h; rw [h.2.2] at hg; cases hg
 | .s sz rows, v, gs, h, g, hg => by
   rw[OwnD] at h
   rcases h with ⟨_,_,h⟩| ⟨g0,els,gs',h1,h2,h3,h4,h5,h6⟩
   ·rw[h] at hg;cases hg
   ·subst h2
    rcases List.mem_cons.1 hg with rfl | hg
    ·exact⟨_,h4⟩
    ·exact OwnR.has h6 g hg
 | .p row, v, gs, h, g, hg => by
   rw[OwnD] at h
   obtain⟨g0,e,gs',h1,h2,h3,h0,h4,h5⟩:=h
   subst h2
   rcases List.mem_cons.1 hg with rfl | hg
   ·exact⟨_,h4⟩
   ·exact OwnL.has h5 g hg
 | .a cs, v, gs, h, g, hg => by
   rw[OwnD] at h
   obtain⟨vs,h1,h2⟩:=h
   exact OwnL.has h2 g hg
 | .t cs, v, gs, h, g, hg => by
   rw[OwnD] at h
   obtain⟨vs,h1,h2⟩:=h
   exact OwnL.has h2 g hg
theorem OwnL.has {bl:Int→Option Blk} : ∀ {ds:List D} {vs:List V} {gs:List Int},OwnL bl ds vs gs→ ∀g,g∈gs→ ∃b,bl g=some b
 | [], vs, gs, h, g, hg => by rw [OwnL] at h; rw [h.2] at hg; cases hg
 | d :: ds, vs, gs, h, g, hg => by
   rw[OwnL] at h
   obtain⟨v,vs',g1,g2,h1,h2,h3,h4,h5⟩:=h
   subst h2
   rcases List.mem_append.1 hg with hg | hg
   ·exact OwnD.has h4 g hg
   ·exact OwnL.has h5 g hg
theorem OwnR.has {bl:Int→Option Blk} {sz:Nat} : ∀ {rs:List (List D)} {els:List (List V)} {gs:List Int},OwnR bl sz rs els gs→ ∀g,g∈gs→ ∃b,bl g=some b
 | [], vs, gs, h, g, hg => by rw [OwnR] at h; rw [h.2] at hg; cases hg
 | r :: rs, els, gs, h, g, hg => by
   rw[OwnR] at h
   obtain⟨e,jZ,g1,g2,h1,h2,h3,h4,h4',h5,h6⟩:=h
   subst h2
   rcases List.mem_append.1 hg with hg | hg
   ·exact OwnL.has h5 g hg
   ·exact OwnR.has h6 g hg
end
theorem OwnD.sub {bl bl':Int→Option Blk} {d:D} {v:V} {gs:List Int} (h:OwnD bl d v gs) (hs:Sub bl bl'):OwnD bl' d v gs:=h.frame fun g hg=>by
 obtain⟨b,hb⟩:=h.has g hg
 rw[hb,hs g b hb]
theorem OwnL.sub {bl bl':Int→Option Blk} {d:List D} {v:List V} {gs:List Int} (h:OwnL bl d v gs) (hs:Sub bl bl'):OwnL bl' d v gs:=h.frame fun g hg=>by
 obtain⟨b,hb⟩:=h.has g hg
 rw[hb,hs g b hb]
theorem OwnL.length {bl:Int→Option Blk} : ∀ {ds:List D} {vs:List V} {gs:List Int},OwnL bl ds vs gs→vs.length=ds.length
 | [], vs, gs, h => by rw [OwnL] at h; simp [h.1]
 | d :: ds, vs, gs, h => by
   rw[OwnL] at h
   obtain⟨v,vs',g1,g2,h1,h2,h3,h4,h5⟩:=h
   rw[h1];simp[OwnL.length h5]
theorem OwnR.length {bl:Int→Option Blk} {sz:Nat} : ∀ {ds:List (List D)} {vs:List (List V)} {gs:List Int},OwnR bl sz ds vs gs→vs.length=ds.length
 | [], vs, gs, h => by rw [OwnR] at h; simp [h.1]
 | d :: ds, vs, gs, h => by
   rw[OwnR] at h
   obtain⟨v,vs',g1,g2,h1,h2,h3,h4,h4',h5,h6⟩:=h
   rw[h1];simp[OwnR.length h6]
theorem Km {bl:Int→Option Blk} {n:Nat} {x:V} (h:x.cl=true):frz bl n x=some x:=by
 cases x<;>first | (simp[V.cl] at h;done)| (unfold frz;rfl)
theorem rS {bl:Int→Option Blk} {n:Nat} : ∀ {xs:List V},xs.all V.cl=true→xs.mapM (frz bl n)=some xs
 | [], _ => rfl
 | x :: xs, h => by
   simp only[List.all_cons,Bool.and_eq_true] at h
   rw[List.mapM_cons,Km h.1,rS h.2];rfl
theorem gJ {bl:Int→Option Blk} {n:Nat} : ∀ {xs:List (List V)},xs.all (fun e=>e.all V.cl)=true→xs.mapM (fun e:List V=>e.mapM (frz bl n))=some xs
 | [], _ => rfl
 | x :: xs, h => by
   simp only[List.all_cons,Bool.and_eq_true] at h
   rw[List.mapM_cons,rS h.1,gJ h.2];rfl
theorem vD {bl:Int→Option Blk} {n:Nat} {cs:List V} :frz bl (n+1) (.agg cs)=(cs.mapM (frz bl n)).map .agg:=by
 simp only[frz]
 split
 ·rename_i h;rw[rS h];rfl
 ·rfl
theorem Pc {bl:Int→Option Blk} {n:Nat} {cs:List V} :frz bl (n+1) (.tup cs)=(cs.mapM (frz bl n)).map .tup:=by
 simp only[frz]
 split
 ·rename_i h;rw[rS h];rfl
 ·rfl
theorem wH {bl:Int→Option Blk} {n sz:Nat} {g:Int} {e:List V} (hb:bl g=some ⟨sz,[e]⟩):frz bl (n+1) (.loc g sz 0 0)=(e.mapM (frz bl n)).map .ptr:=by
 simp only[frz,hb]
 simp only[if_true,List.getElem?_cons_zero,List.drop_zero]
 split
 ·rename_i h;rw[rS h];rfl
 ·rfl
theorem iI {bl:Int→Option Blk} {n sz:Nat} {g:Int} {els:List (List V)} (h0:0≤g) (hb:bl g=some ⟨sz,els⟩):frz bl (n+1) (.lsl g sz 0 els.length)=(els.mapM (fun e:List V=>e.mapM (frz bl n))).map .sl:=by
 simp only[frz,hb]
 rw[if_neg (by omega),if_pos (by simp)]
 simp only[List.drop_zero,List.take_length]
 split
 ·rename_i h;rw[gJ h];rfl
 ·rfl
mutual
def D.dep :Nat→D→Prop
 | _, .c _ => True
 | n, .s _ rows => 1 ≤ n ∧ D.depR (n - 1) rows
 | n, .p row => 1 ≤ n ∧ D.depL (n - 1) row
 | n, .a cs => 1 ≤ n ∧ D.depL (n - 1) cs
 | n, .t cs => 1 ≤ n ∧ D.depL (n - 1) cs
def D.depL :Nat→List D→Prop
 | _, [] => True
 | n, d :: ds => d.dep n ∧ D.depL n ds
def D.depR :Nat→List (List D)→Prop
 | _, [] => True
 | n, r :: rs => D.depL n r ∧ D.depR n rs
end
mutual
theorem OwnD.frz {bl:Int→Option Blk} : ∀ {d:D} {n:Nat} {v:V} {gs:List Int},OwnD bl d v gs→d.dep n→Vm.frz bl n v=some d.fz
 | .c x, n, v, gs, h, _ => by rw [OwnD] at h; rw [h.1, Km h.2.1, D.fz]
 | .s sz rows, n, v, gs, h, hn => by
   rw[OwnD] at h;rw[D.dep] at hn;rw[D.fz]
   obtain⟨n,rfl⟩: ∃m,n=m+1:=⟨n - 1,by omega⟩
   rw[Nat.add_sub_cancel] at hn
   rcases h with ⟨rfl,rfl,_⟩| ⟨g0,els,gs',h1,h2,h3,h4,h5,h6⟩
   ·simp[Vm.frz,D.fzR]
   ·have hl:=OwnR.length h6
    rw[h1,←hl]
    rcases Int.lt_or_le g0 0 with hg | hg
    ·have:=h5 hg
     subst this
     have:rows= []:=List.eq_nil_of_length_eq_zero (by simpa using hl.symm)
     subst this
     simp[Vm.frz,hg,D.fzR]
    ·rw[iI hg h4,OwnR.frz h6 hn.2];rfl
 | .p row, n, v, gs, h, hn => by
   rw[OwnD] at h;rw[D.dep] at hn;rw[D.fz]
   obtain⟨n,rfl⟩: ∃m,n=m+1:=⟨n - 1,by omega⟩
   rw[Nat.add_sub_cancel] at hn
   obtain⟨g0,e,gs',h1,h2,h3,h0,h4,h5⟩:=h
   rw[h1,wH h4,OwnL.frz h5 hn.2];rfl
 | .a cs, n, v, gs, h, hn => by
   rw[OwnD] at h;rw[D.dep] at hn;rw[D.fz]
   obtain⟨n,rfl⟩: ∃m,n=m+1:=⟨n - 1,by omega⟩
   rw[Nat.add_sub_cancel] at hn
   obtain⟨vs,h1,h2⟩:=h
   rw[h1,vD,OwnL.frz h2 hn.2];rfl
 | .t cs, n, v, gs, h, hn => by
   rw[OwnD] at h;rw[D.dep] at hn;rw[D.fz]
   obtain⟨n,rfl⟩: ∃m,n=m+1:=⟨n - 1,by omega⟩
   rw[Nat.add_sub_cancel] at hn
   obtain⟨vs,h1,h2⟩:=h
   rw[h1,Pc,OwnL.frz h2 hn.2];rfl
theorem OwnL.frz {bl:Int→Option Blk} : ∀ {ds:List D} {n:Nat} {vs:List V} {gs:List Int},OwnL bl ds vs gs→D.depL n ds→vs.mapM (Vm.frz bl n)=some (D.fzL ds)
 | [], n, vs, gs, h, _ => by rw [OwnL] at h; rw [h.1, D.fzL]; rfl
 | d :: ds, n, vs, gs, h, hn => by
   rw[OwnL] at h;rw[D.depL] at hn;rw[D.fzL]
   obtain⟨v,vs',g1,g2,h1,h2,h3,h4,h5⟩:=h
   rw[h1,List.mapM_cons,OwnD.frz h4 hn.1,OwnL.frz h5 hn.2];rfl
theorem OwnR.frz {bl:Int→Option Blk} {sz:Nat} : ∀ {rs:List (List D)} {n:Nat} {els:List (List V)} {gs:List Int},OwnR bl sz rs els gs→D.depR n rs→els.mapM (fun e:List V=>e.mapM (Vm.frz bl n))=some (D.fzR rs)
 | [], n, vs, gs, h, _ => by rw [OwnR] at h; rw [h.1, D.fzR]; rfl
 | r :: rs, n, els, gs, h, hn => by
   rw[OwnR] at h;rw[D.depR] at hn;rw[D.fzR]
   obtain⟨e,jZ,g1,g2,h1,h2,h3,h4,h4',h5,h6⟩:=h
   rw[h1,List.mapM_cons,OwnL.frz h5 hn.1,OwnR.frz h6 hn.2];rfl
end
mutual
def V.ow :V→Bool
 | .bool _ | .int _ _ | .str _ | .nilp | .nils | .sle | .lsl _ _ _ _ | .loc _ _ _ _ => true
 | .agg vs => V.owL vs
 | .tup vs => V.owL vs
 | _ => false
def V.owL :List V→Bool
 | [] => true
 | v :: vs => v.ow && V.owL vs
end
theorem Av : ∀ {vs:List V},(∀v,v∈vs→v.ow=true)→V.owL vs=true
 | [], _ => by rw [V.owL]
 | x :: vs, h => by
   rw[V.owL,Bool.and_eq_true]
   exact⟨h x List.mem_cons_self,Av fun v hv=>h v (List.mem_cons_of_mem _ hv)⟩
section
variable {P : Program} {w0 : World} {M F : Nat → Prop} {w : World} {bl : Int → Option Blk}
mutual
def D.sc :D→Bool
 | .c x => x.ow
 | .s _ rows => D.scR rows
 | .p row => D.scL row
 | .a cs => D.scL cs
 | .t cs => D.scL cs
def D.scL :List D→Bool
 | [] => true
 | d :: ds => d.sc && D.scL ds
def D.scR :List (List D)→Bool
 | [] => true
 | r :: rs => D.scL r && D.scR rs
end
def owB (bl:Int→Option Blk) (g:Int):Prop:= ∃sz els,bl g=some ⟨sz,els⟩∧ ∀e,e∈els→ ∀x,x∈e→x.ow=true
mutual
theorem OwnD.ow : ∀ {d:D} {v:V} {gs:List Int},OwnD bl d v gs→d.sc=true→v.ow=true∧ ∀g,g∈gs→owB bl g
 | .c x, v, gs, h, hs => by
   rw[OwnD] at h;rw[D.sc] at hs
   obtain⟨rfl,h2,rfl⟩:=h
   exact⟨hs,fun g hg=>by cases hg⟩
 | .s sz rows, v, gs, h, hs => by
   rw[OwnD] at h;rw[D.sc] at hs
   rcases h with ⟨rfl,rfl,rfl⟩| ⟨g0,els,gs',rfl,rfl,h3,h4,h5,h6⟩
   ·exact⟨by rw[V.ow],fun g hg=>by cases hg⟩
   ·obtain⟨k1,k2⟩:=OwnR.ow h6 hs
    refine⟨by rw[V.ow],fun g hg=> ?_⟩
    rcases List.mem_cons.1 hg with rfl | hg
    ·exact⟨sz,els,h4,k1⟩
    ·exact k2 g hg
 | .p row, v, gs, h, hs => by
   rw[OwnD] at h;rw[D.sc] at hs
   obtain⟨g0,e,gs',rfl,rfl,h3,h0,h4,h5⟩:=h
   obtain⟨k1,k3⟩:=OwnL.ow h5 hs
   refine⟨by rw[V.ow],fun g hg=> ?_⟩
   rcases List.mem_cons.1 hg with rfl | hg
   ·exact⟨_,_,h4,fun e' he'=>by
     obtain rfl:e'=e:=by simpa using he'
     exact k1⟩
   ·exact k3 g hg
 | .a cs, v, gs, h, hs => by
   rw[OwnD] at h;rw[D.sc] at hs
   obtain⟨vs,rfl,h2⟩:=h
   obtain⟨k1,k3⟩:=OwnL.ow h2 hs
   exact⟨by rw[V.ow];exact Av k1,k3⟩
 | .t cs, v, gs, h, hs => by
   rw[OwnD] at h;rw[D.sc] at hs
   obtain⟨vs,rfl,h2⟩:=h
   obtain⟨k1,k3⟩:=OwnL.ow h2 hs
   exact⟨by rw[V.ow];exact Av k1,k3⟩
theorem OwnL.ow : ∀ {ds:List D} {vs:List V} {gs:List Int},OwnL bl ds vs gs→D.scL ds=true→(∀x,x∈vs→x.ow=true)∧ ∀g,g∈gs→owB bl g
 | [], vs, gs, h, _ => by
   rw[OwnL] at h
   obtain⟨rfl,rfl⟩:=h
   exact⟨fun x hx=>(by cases hx),fun g hg=>by cases hg⟩
 | d :: ds, vs, gs, h, hs => by
   rw[OwnL] at h;rw[D.scL,Bool.and_eq_true] at hs
   obtain⟨v,vs',g1,g2,rfl,rfl,h3,h4,h5⟩:=h
   obtain⟨a1,a4⟩:=OwnD.ow h4 hs.1
   obtain⟨b1,b3⟩:=OwnL.ow h5 hs.2
   refine⟨fun x hx=> ?_,fun g hg=> ?_⟩
   ·rcases List.mem_cons.1 hx with rfl | hx
    ·exact a1
    ·exact b1 x hx
   ·rcases List.mem_append.1 hg with hg | hg
    ·exact a4 g hg
    ·exact b3 g hg
theorem OwnR.ow {sz:Nat} : ∀ {rs:List (List D)} {els:List (List V)} {gs:List Int},OwnR bl sz rs els gs→D.scR rs=true→(∀e,e∈els→ ∀x,x∈e→x.ow=true)∧ ∀g,g∈gs→owB bl g
 | [], vs, gs, h, _ => by
   rw[OwnR] at h
   obtain⟨rfl,rfl⟩:=h
   exact⟨fun e he=>(by cases he),fun g hg=>by cases hg⟩
 | r :: rs, els, gs, h, hs => by
   rw[OwnR] at h;rw[D.scR,Bool.and_eq_true] at hs
   obtain⟨e,jZ,g1,g2,rfl,rfl,h3,h4,h4',h5,h6⟩:=h
   obtain⟨a1,a3⟩:=OwnL.ow h5 hs.1
   obtain⟨b1,b2⟩:=OwnR.ow h6 hs.2
   refine⟨fun e' he=> ?_,fun g hg=> ?_⟩
   ·rcases List.mem_cons.1 he with rfl | he
    ·exact a1
    ·exact b1 e' he
   ·rcases List.mem_append.1 hg with hg | hg
    ·exact a3 g hg
    ·exact b2 g hg
end
theorem Mem.sub {bl2:Int→Option Blk} (h:Mem w0 M F bl w) (hs:Sub bl2 bl):Mem w0 M F bl2 w:=by
 refine⟨h.os,h.tape,h.output,h.size,h.frame,h.iX,h.fr,?_,fun g b hb=>h.own g b (hs g b hb),fun g b hb=>h.blk g b (hs g b hb)⟩
 obtain⟨n,hn⟩:=h.fin
 refine⟨n,fun g hg=> ?_⟩
 cases hb:bl2 g with
 | none => rfl
 | some b => have := hs g b hb; rw [hn g hg] at this; cases this
def Made (bl:Int→Option Blk) (d:D) (v:V) (bl':Int→Option Blk):Prop:= ∃gs,OwnD bl' d v gs∧(∀g,g∈gs→bl g=none)∧ ∀g,g∉gs→bl' g=bl g
def NW (P:Program) (f:FuncId) (xs:List V) (d:D):Prop:= ∀bl,cO P f xs bl (Made bl d)
def Jf (bl:Int→Option Blk) (d:D) (v:V) (bl':Int→Option Blk):Prop:= ∃gs,OwnD bl' d v gs∧(∀g,g∈gs→bl g=none)∧Sub bl bl'
theorem qG {f:FuncId} {xs:List V} {d:D} (h:cO P f xs bl (Jf bl d)):cO P f xs bl (Made bl d):=
 ⟨h.1,fun w0 M F w vs hm hr=>(h.2 w0 M F w vs hm hr).mono fun e w' ⟨v,x,bl',F',h1,h2,h3,h4,h5,h6,gs,h7,h8,h9⟩=>by
   refine⟨v,x,fun g=>if g∈gs then bl' g else bl g,F',h1,h2,h3,h4,h5.sub fun g b hb=> ?_,h6,gs,h7.frame fun g hg=>by simp[hg],h8,fun g hg=>by simp[hg]⟩
   split at hb
   ·exact hb
   ·exact h9 g b hb⟩
theorem lR {f : FuncId} {fn : Func} {c : Code} {xs : List V} {d : D} (hf : P.funcs[f]? = some fn) (hb : fn.body = some c) (hn : (fn.name == "runtime.NumGoroutine") = false) (hl : xs.length ≤ fn.ntmps)
  (h: ∀bl,AW P c (G3 P fn.results.toList (Jf bl d)) ⟨fn.ntmps,fun t=>xs.getD t .junk,bl⟩):NW P f xs d:=fun bl=>qG (cV hf hb hn hl (h bl))
theorem kJ {rs:List ResultVar} {d:D} {σ:St} (vs:List V) (gs:List Int) (h:resV P σ rs=some vs) (ho:OwnD σ.bl d (retV vs) gs) (hf: ∀g,g∈gs→bl g=none) (hs:Sub bl σ.bl):
  G3 P rs (Jf bl d) .ret σ:=by rw[dQ];exact⟨vs,h,gs,ho,hf,hs⟩
theorem fT {f:FuncId} {xs:List V} {d:D} {k:V→(Int→Option Blk)→Prop} (h:NW P f xs d)
  (hk: ∀v gs bl',OwnD bl' d v gs→(∀g,g∈gs→bl g=none)→(∀g,g∉gs→bl' g=bl g)→k v bl'):cO P f xs bl k:=
 (h bl).mono fun v bl' ⟨gs,h1,h2,h3⟩=>hk v gs bl' h1 h2 h3
theorem Made.sub {d:D} {v:V} {gs:List Int} {bl':Int→Option Blk} (h2: ∀g,g∈gs→bl g=none) (h3: ∀g,g∉gs→bl' g=bl g):Sub bl bl':=fun g b hb=>by
 rw[h3 g (fun hg=>by rw[h2 g hg] at hb;cases hb)];exact hb
theorem gU {f:FuncId} {xs:List V} {d:D} (n:Nat) (h:NW P f xs d) (hn:d.dep n):RO P f xs d.fz:=fun bl=>
 sQ ((h bl).mono fun v bl' ⟨gs,h1,h2,h3⟩=>⟨n,(OwnD.frame h1 fun g hg=>by unfold dropB;rw[h2 g hg]).frz hn,Made.sub (d:=d) (v:=v) h2 h3⟩) ⟨rfl,rfl⟩
end
theorem aQ {bl bl':Int→Option Blk} {g:Int} (hs:Sub bl bl') (h:bl' g=none):bl g=none:=by
 cases hb:bl g with
 | none => rfl
 | some b => have := hs g b hb; rw [h] at this; cases this
@[simp] theorem aI5 {bl bl' : Int → Option Blk} {g : Int} (h : bl g = none) : Sub bl (rem bl' g) = Sub bl bl' := by
 apply propext
 constructor
 ·intro hs g' b' hb
  have:=hs g' b' hb
  unfold rem at this
  split at this
  ·cases this
  ·exact this
 ·intro hs;exact hs.rem h
@[simp] theorem aF (f : Int → Option Blk) (g x : Int) : rem f g x = if x = g then none else f x := rfl
theorem U8 {bl bl':Int→Option Blk} {g:Int} {b:Option Blk} (hs:Sub bl bl'):Sub (upd bl g b) (upd bl' g b):=fun g' b' hb=>by
 rw[aA] at hb ⊢
 split
 ·rename_i h;rw[if_pos h] at hb;exact hb
 ·rename_i h;rw[if_neg h] at hb;exact hs g' b' hb
theorem cX {bl bl':Int→Option Blk} {g:Int} {sz:Nat} {els jZ:List (List V)} (he:els=jZ) (hs:Sub bl bl'):Sub (upd bl g (some ⟨sz,els⟩)) (upd bl' g (some ⟨sz,jZ⟩)):=by
 subst he;exact U8 hs
theorem cE {P:Program} {c:Code} {K:Ex→St→Prop} {σ:St} (n t:Nat) (v:V) (bl2:Int→Option Blk) (hs:Sub bl2 σ.bl) (hv:frz (dropB σ.bl bl2) n (σ.sl t)=some v) (h:AW P c K ⟨σ.n,upd σ.sl t v,bl2⟩):AW P c K σ:=by
 refine Tw n _ bl2 hs (fun t'=> ?_) h
 by_cases e:t'=t
 ·subst e;right;rw[aU];exact hv
 ·left;exact aG _ _ _ _ e
theorem vF {P:Program} {f:FuncId} {post:List V} {bl:Int→Option Blk} {k:V→(Int→Option Blk)→Prop} (h1:cO P f (.nils::post) bl k) (h2:cO P f (.sle::post) bl k):cO P f (.sl []::post) bl k:=by
 refine⟨h1.1,fun w0 M F w vs hm hr=> ?_⟩
 have key: ∀v,(∀w,Rep F w (.sl []) v→Rep F w .nils v∨Rep F w .sle v):=by
  intro v w h
  generalize hx:V.sl []=x at h
  cases h<;>cases hx
  ·rename_i a cap ha
   cases a with
   | none => rw [ha rfl]; exact .inl .nils
   | some a => exact .inr (.sle a cap)
  ·exact .inr (.sle _ _)
 have h0:=hr.2 0 _ rfl
 have put: ∀y,Rep F w y (vs.getD 0 undef)→Pn F w (y::post) vs:=fun y hy=>⟨by rw[hr.1];rfl,fun i x hx=>by
  cases i with
  | zero => cases hx; exact hy
  | succ i => exact hr.2 (i + 1) x (by simpa using hx)⟩
 rcases key _ w h0 with h | h
 ·exact h1.2 w0 M F w vs hm (put _ h)
 ·exact h2.2 w0 M F w vs hm (put _ h)
theorem cM {P:Program} {c:Code} {K:Ex→St→Prop} {σ:St} {g:Int} {s:Nat} {els:List (List V)} {e:List V} (k j sz:Nat) (hb:σ.bl g=some ⟨s,els⟩) (he:els[k]? =some e) (hj:e[j]? =some .nils)
  (h: ∀g':Int,σ.bl g'=none→g'≠g→AW P c K ⟨σ.n,σ.sl,upd (upd σ.bl g (some ⟨s,els.set k (e.set j (.lsl g' sz 0 0))⟩)) g' (some ⟨sz,[]⟩)⟩):AW P c K σ:=by
 intro w0 M F a w hs
 obtain⟨g',hg0,hgn,hm⟩:=hs.mem.ghost sz
 have hne:g'≠g:=fun h=>by rw[h,hb] at hgn;cases hgn
 have hB:=hs.mem.blk g _ hb
 unfold cY at hB
 have hge: ¬ g<0:=fun h=>by rw[if_pos h] at hB;simp only at hB;rw[hB] at he;cases he
 rw[if_neg hge] at hB
 obtain⟨h1,cs,t,h2,h3,h4⟩:=hB
 refine h g' hgn hne w0 M F a w ⟨?_,hs.size,hs.sl,hs.defers⟩
 have hkl:=(List.getElem?_eq_some_iff.1 he).1
 have hjl:=(List.getElem?_eq_some_iff.1 hj).1
 refine⟨hm.os,hm.tape,hm.output,hm.size,hm.frame,hm.iX,hm.fr,?_,fun x b hx h0=> ?_,fun x b hx=> ?_⟩
 ·obtain⟨n,hn⟩:=hm.fin
  refine⟨min n 0,fun x hx=> ?_⟩
  have:=hn x (by omega)
  show upd _ _ _ x=none
  simp only[aA] at this ⊢
  split
  ·rename_i hh;rw[if_pos hh] at this;exact this
  ·rename_i hh
   rw[if_neg hh] at this
   rw[if_neg (by omega)];exact this
 ·by_cases hxg:x=g
  ·subst hxg;exact hs.mem.own x _ hb h0
  ·refine hm.own x b ?_ h0
   simp only[aA] at hx ⊢
   rw[if_neg hxg] at hx
   exact hx
 ·by_cases hxg:x=g
  ·subst hxg
   simp only[aA] at hx
   rw[if_neg (Ne.symm hne),if_pos trivial] at hx
   cases hx
   unfold cY
   rw[if_neg hge]
   refine⟨h1,cs,t,h2,by simpa using h3,fun k' e' he'=> ?_⟩
   simp only at he' ⊢
   by_cases hkk:k'=k
   ·subst hkk
    rw[List.getElem?_set_self hkl] at he'
    cases he'
    obtain⟨h5,h6⟩:=h4 k' e he
    refine⟨by rw[List.length_set];exact h5,fun j' x' hx'=> ?_⟩
    by_cases hjj:j'=j
    ·subst hjj
     rw[List.getElem?_set_self hjl] at hx'
     cases hx'
     obtain⟨h7,v,h8,h9⟩:=h6 j' _ hj
     refine⟨rfl,v,h8,?_⟩
     cases h9
     exact .lsln g' sz hg0
    ·rw[List.getElem?_set_ne (Ne.symm hjj)] at hx'
     exact h6 j' x' hx'
   ·rw[List.getElem?_set_ne (Ne.symm hkk)] at he'
    exact h4 k' e' he'
  ·refine hm.blk x b ?_
   simp only[aA] at hx ⊢
   rw[if_neg hxg] at hx
   exact hx
def fl (sz:Nat) (rows:List (List V)):D:= .s sz (rows.map fun r=>r.map .c)
theorem aDL (r:List V):D.fzL (r.map .c)=r:=by
 rw[uX,List.map_map]
 conv=>rhs;rw[←List.map_id r]
 exact List.map_congr_left fun x _=>by simp[D.fz]
@[simp] theorem aOU (sz : Nat) (rows : List (List V)) : (fl sz rows).fz = .sl rows := by
 unfold fl
 rw[D.fz,J6,List.map_map]
 congr 1
 conv=>rhs;rw[←List.map_id rows]
 exact List.map_congr_left fun r _=>by
  show List.map D.fz (r.map .c)=r
  rw[←uX,aDL]
theorem Gr (n:Nat): ∀(r:List V),D.depL n (r.map .c)
 | [] => by simp [D.depL]
 | x :: r => by simp [D.depL, D.dep, Gr n r]
theorem Ix (n:Nat): ∀(rows:List (List V)),D.depR n (rows.map fun r=>r.map .c)
 | [] => by simp [D.depR]
 | r :: rs => by simp [D.depR, Gr, Ix n rs]
theorem mX (sz:Nat) (rows:List (List V)) (n:Nat):(fl sz rows).dep (n+1):=by
 unfold fl
 rw[D.dep]
 exact⟨by omega,Ix _ _⟩
theorem V.De {x:V} (h:x.cl=true):x.one=true:=by cases x<;>first | rfl | (simp[V.cl] at h)
theorem J3 {bl:Int→Option Blk} : ∀ {r vs:List V} {gs:List Int},r.all V.cl=true→(OwnL bl (r.map .c) vs gs ↔ vs=r∧gs= [])
 | [], vs, gs, _ => by rw [List.map_nil, OwnL]
 | x :: r, vs, gs, h => by
   simp only[List.all_cons,Bool.and_eq_true] at h
   rw[List.map_cons,OwnL]
   constructor
   ·rintro⟨v,vs',g1,g2,rfl,rfl,_,h1,h2⟩
    rw[OwnD] at h1
    obtain⟨rfl,_,rfl⟩:=h1
    obtain⟨rfl,rfl⟩:=(J3 h.2).1 h2
    exact⟨rfl,rfl⟩
   ·rintro⟨rfl,rfl⟩
    exact⟨x,r,[],[],rfl,rfl,fun g hg=>(by cases hg),by rw[OwnD];exact⟨rfl,h.1,rfl⟩,(J3 h.2).2 ⟨rfl,rfl⟩⟩
theorem D9 {bl:Int→Option Blk} {sz:Nat} : ∀ {rows els:List (List V)} {gs:List Int},rows.all (fun r=>r.all V.cl)=true→(∀r,r∈rows→r.length=sz)→(OwnR bl sz (rows.map fun r=>r.map .c) els gs ↔ els=rows∧gs= [])
 | [], els, gs, _, _ => by rw [List.map_nil, OwnR]
 | r :: rows, els, gs, h, hl => by
   simp only[List.all_cons,Bool.and_eq_true] at h
   rw[List.map_cons,OwnR]
   constructor
   ·rintro⟨e,jZ,g1,g2,rfl,rfl,_,_,_,h1,h2⟩
    obtain⟨rfl,rfl⟩:=(J3 h.1).1 h1
    obtain⟨rfl,rfl⟩:=(D9 h.2 fun r hr=>hl r (List.mem_cons_of_mem _ hr)).1 h2
    exact⟨rfl,rfl⟩
   ·rintro⟨rfl,rfl⟩
    exact⟨r,rows,[],[],rfl,rfl,fun g hg=>(by cases hg),hl r List.mem_cons_self,List.all_eq_true.2 fun x hx=>V.De (List.all_eq_true.1 h.1 x hx),(J3 h.1).2 ⟨rfl,rfl⟩,(D9 h.2 fun r hr=>hl r (List.mem_cons_of_mem _ hr)).2 ⟨rfl,rfl⟩⟩
theorem I6 {bl:Int→Option Blk} {sz:Nat} {rows:List (List V)} {v:V} {gs:List Int} (h:rows.all (fun r=>r.all V.cl)=true) (hl: ∀r,r∈rows→r.length=sz):
  OwnD bl (fl sz rows) v gs ↔ (rows= []∧v= .nils∧gs= [])∨ ∃g,v= .lsl g sz 0 rows.length∧gs= [g]∧bl g=some ⟨sz,rows⟩∧(g<0→rows= []):=by
 unfold fl
 rw[OwnD]
 constructor
 ·rintro(⟨h1,h2,h3⟩| ⟨g,els,gs',h1,h2,h3,h4,h5,h6⟩)
  ·exact .inl ⟨by simpa using h1,h2,h3⟩
  ·obtain⟨rfl,rfl⟩:=(D9 h hl).1 h6
   exact .inr ⟨g,by simpa using h1,h2,h4,h5⟩
 ·rintro(⟨h1,h2,h3⟩| ⟨g,h1,h2,h4,h5⟩)
  ·exact .inl ⟨by simpa using h1,h2,h3⟩
  ·exact .inr ⟨g,rows,[],by simpa using h1,h2,by simp,h4,h5,(D9 h hl).2 ⟨rfl,rfl⟩⟩
end Go.Proofs.YticmgmemnpcbbaaGreat.Vm

namespace Go.Proofs.YticmgmemnpcbbaaGreat.Vm
open Go Go.Proofs
set_option linter.unusedSimpArgs false
set_option linter.unusedVariables false
theorem E6 (ns:List Int): ∀r,r∈iv ns→r.length=1:=by
 intro r hr
 obtain⟨n,_,rfl⟩:=List.mem_map.1 hr
 rfl
theorem aT (a b:List Int):iv (a++b)=iv a++iv b:=by simp[iv]
theorem dA (ns:List Int):(iv ns).take ns.length=iv ns:=by rw[←iU ns,List.take_length]
theorem eJ {bl:Int→Option Blk} {ns:List Int} {v:V} {gs:List Int} :OwnD bl (fl 1 (iv ns)) v gs ↔ (ns= []∧v= .nils∧gs= [])∨ ∃g,v= .lsl g 1 0 ns.length∧gs= [g]∧bl g=some ⟨1,iv ns⟩∧(g<0→ns= []):=by
 rw[I6 (nE ns) (E6 ns)]
 simp[iv]
def bN (js:List J) (n:Nat):List Int:=((List.range n).filter fun i=> !(js.getD i default).fixed).map fun(i:Nat)=>(i:Int)
def aO (js:List J):List Int:=bN js js.length
theorem jS (js:List J) (n:Nat):bN js (n+1)=bN js n++if(js.getD n default).fixed then [] else [(n:Int)]:=by
 unfold bN
 rw[List.range_succ,List.filter_append,List.map_append]
 congr 1
 cases h:(js.getD n default).fixed<;>simp only[List.filter_cons,List.filter_nil,h]<;>simp
theorem gY (js:List J) (n:Nat):(bN js n).length≤n:=by
 unfold bN
 rw[List.length_map]
 exact Nat.le_trans (List.length_filter_le _ _) (by simp)
theorem oW {α:Type} (xs:List α) (i:Nat) (d:α) (h:i<xs.length):xs.getD i d=xs[i]:=by simp[h]
theorem yX (s:Str) (hj:s.js.length≤1048576):NW Tryz.prog 74 [.ptr s.c] (fl 1 (iv (aO s.js))):=by
 refine lR Tryz.func74 rfl rfl (by rw[Tryz.ntmps74];simp) fun bl=> ?_
 rw[Tryz.ntmps74,Tryz.results74]
 refine aC ?_
 simp[Str.c]
 refine rJ 3 1 (by simp) fun g00 sA=> ?_
 refine aI (fun p:Nat×Int=> [(3,.lsl p.2 1 0 (bN s.js p.1).length),(9,.sl (jv s.js)),(10,.int .i64 s.js.length),(11,.int .i64 p.1)]) (fun p=>upd bl p.2 (some ⟨1,iv (bN s.js p.1)⟩)) (fun p=>p.1≤s.js.length∧bl p.2=none∧(p.2<0→bN s.js p.1= [])) (fun p=>s.js.length - p.1) _ (0,g00) ⟨Nat.zero_le _,sA,fun _=>rfl⟩ ⟨rfl,by simp[bN],sub_eq (by simp[bN,iv])⟩ ?_
 rintro⟨i,g⟩ ⟨hi,hg,h0⟩
 simp only at hi hg h0
 have hl:=gY s.js i
 refine aC ?_
 simp
 refine⟨fun h=> ?_,fun h=> ?_⟩
 ·simp[h,J.c]
  intro g1 hg1 h1g hb1
  refine⟨fun hf=> ?_,fun hf=> ?_⟩
  ·intro g2 hg2 h21 h2g hb2
   simp[h1g,h21,h2g,Ne.symm h1g,Ne.symm h21,Ne.symm h2g,appV,elsV,Int.not_lt.2 hg2]
   refine⟨by omega,fun g3 hg3 hb3=> ?_⟩
   have fK:bl g3=none:=by grind
   simp (disch:=omega) [i64_in,aB]
   have hjf:(s.js.getD i default).fixed=false:=by simpa [h] using hf
   have hs1:bN s.js (i+1)=bN s.js i++ [(i:Int)]:=by rw[jS,hjf];rfl
   refine⟨i+1,g3,⟨by omega,fK,by omega⟩,by omega,rfl,by simp[hs1],?_⟩
   rw[hs1,aT]
   exact cX (by rw[dA];rfl) (by simp[hg,hb1,hb2,h1g,h21,h2g])
  ·simp (disch:=omega) [i64_in,aB]
   have hjf:(s.js.getD i default).fixed=true:=by simpa [h] using hf
   have hs1:bN s.js (i+1)=bN s.js i:=by rw[jS,hjf];simp
   refine⟨i+1,g,⟨by omega,hg,by rw[hs1];exact h0⟩,by omega,rfl,by simp[hs1],?_⟩
   rw[hs1]
   simp[hb1,h1g]
 ·have hi:i=s.js.length:=by omega
  subst hi
  refine kJ [.lsl g 1 0 (bN s.js s.js.length).length] [g] (by simp) ?_ (by simpa using hg) (by simp[hg])
  refine eJ.2 (.inr ⟨g,rfl,rfl,by simp[aO],h0⟩)

theorem vO {bl:Int→Option Blk} {d e:D} {vs:List V} {gs:List Int} :OwnL bl [d,e] vs gs ↔ ∃v w g1 g2,vs= [v,w]∧gs=g1++g2∧(∀g,g∈g1→g∉g2)∧OwnD bl d v g1∧OwnD bl e w g2:=by
 rw[OwnL]
 constructor
 ·rintro⟨v,vs',g1,g2,rfl,rfl,h1,h2,h3⟩
  rw[OwnL] at h3
  obtain⟨w,aQX,g3,g4,rfl,rfl,h4,h5,h6⟩:=h3
  rw[OwnL] at h6
  obtain⟨rfl,rfl⟩:=h6
  rw[List.append_nil] at h1 ⊢
  exact⟨v,w,g1,g3,rfl,rfl,h1,h2,h5⟩
 ·rintro⟨v,w,g1,g2,rfl,rfl,h1,h2,h3⟩
  refine⟨v,[w],g1,g2,rfl,rfl,h1,h2,?_⟩
  rw[OwnL]
  exact⟨w,[],g2,[],rfl,by simp,by simp,h3,by rw[OwnL];exact⟨rfl,rfl⟩⟩
theorem OwnD.one {bl:Int→Option Blk} {sz:Nat} {rows:List (List V)} {v:V} {gs:List Int} (h:OwnD bl (fl sz rows) v gs):v.one=true∧v.cells= [v]:=by
 unfold fl at h
 rw[OwnD] at h
 rcases h with ⟨_,rfl,_⟩| ⟨g,els,gs',rfl,_⟩<;>exact⟨rfl,rfl⟩
theorem iP {bl bl':Int→Option Blk} {gs:List Int} (h2: ∀g,g∈gs→bl g=none) (h3: ∀g,g∉gs→bl' g=bl g) {x:Int} {b:Blk} (hx:bl x=some b):bl' x=some b:=
 Made.sub (d:=default) (v:=default) h2 h3 x b hx
theorem OwnD.cW {bl bl':Int→Option Blk} {d:D} {v:V} {gs:List Int} (h:OwnD bl d v gs) (hg: ∀x,x∈gs→ ∀b,bl x=some b→bl' x=some b):OwnD bl' d v gs:=h.frame fun x hx=>by
 obtain⟨b,hb⟩:=h.has x hx
 rw[hb,hg x hx b hb]
theorem OwnL.cW {bl bl':Int→Option Blk} {d:List D} {v:List V} {gs:List Int} (h:OwnL bl d v gs) (hg: ∀x,x∈gs→ ∀b,bl x=some b→bl' x=some b):OwnL bl' d v gs:=h.frame fun x hx=>by
 obtain⟨b,hb⟩:=h.has x hx
 rw[hb,hg x hx b hb]
theorem OwnL.not {bl:Int→Option Blk} {d:List D} {v:List V} {gs:List Int} (h:OwnL bl d v gs) {g:Int} (hg:bl g=none):g∉gs:=fun hh=>by
 obtain⟨b,hb⟩:=h.has g hh
 rw[hg] at hb;cases hb
theorem OwnD.not {bl:Int→Option Blk} {d:D} {v:V} {gs:List Int} (h:OwnD bl d v gs) {g:Int} (hg:bl g=none):g∉gs:=fun hh=>by
 obtain⟨b,hb⟩:=h.has g hh
 rw[hg] at hb;cases hb
theorem OwnR.cW {bl bl':Int→Option Blk} {sz:Nat} {d:List (List D)} {v:List (List V)} {gs:List Int} (h:OwnR bl sz d v gs) (hg: ∀x,x∈gs→ ∀b,bl x=some b→bl' x=some b):OwnR bl' sz d v gs:=h.frame fun x hx=>by
 obtain⟨b,hb⟩:=h.has x hx
 rw[hb,hg x hx b hb]
theorem OwnR.not {bl:Int→Option Blk} {sz:Nat} {d:List (List D)} {v:List (List V)} {gs:List Int} (h:OwnR bl sz d v gs) {g:Int} (hg:bl g=none):g∉gs:=fun hh=>by
 obtain⟨b,hb⟩:=h.has g hh
 rw[hg] at hb;cases hb
theorem OwnR.snoc {bl:Int→Option Blk} {sz:Nat} {r:List D} {e:List V} {g2:List Int} (hr:OwnL bl r e g2) (hl:e.length=sz) (ho:e.all V.one=true): ∀ {rs:List (List D)} {els:List (List V)} {g1:List Int},OwnR bl sz rs els g1→(∀x,x∈g1→x∉g2)→OwnR bl sz (rs++ [r]) (els++ [e]) (g1++g2)
 | [], els, g1, h, hd => by
   rw[OwnR] at h
   obtain⟨rfl,rfl⟩:=h
   show OwnR bl sz [r] [e] g2
   rw[OwnR]
   exact⟨e,[],g2,[],rfl,by simp,by simp,hl,ho,hr,by rw[OwnR];exact⟨rfl,rfl⟩⟩
 | r1 :: rs, els, g1, h, hd => by
   rw[OwnR] at h
   obtain⟨e1,jZ,ga,gb,rfl,rfl,h3,h4,h5,h6,h7⟩:=h
   have ih:=OwnR.snoc hr hl ho h7 fun x hx=>hd x (by simp[hx])
   show OwnR bl sz (r1::(rs++ [r])) (e1::(jZ++ [e])) (ga++gb++g2)
   rw[OwnR]
   refine⟨e1,jZ++ [e],ga,gb++g2,rfl,by simp,fun x hx hx2=> ?_,h4,h5,h6,ih⟩
   rcases List.mem_append.1 hx2 with hx2 | hx2
   ·exact h3 x hx hx2
   ·exact hd x (by simp[hx]) hx2
theorem OwnR.at {bl:Int→Option Blk} {sz:Nat} : ∀ {rs:List (List D)} {els:List (List V)} {gs:List Int} (i:Nat) (hi:i<rs.length),OwnR bl sz rs els gs→
  ∃e gi,els[i]? =some e∧OwnL bl rs[i] e gi∧e.length=sz∧e.all V.one=true∧(∀x,x∈gi→x∈gs)∧
   ∀bl' r' e',OwnL bl' r' e' gi→e'.length=sz→e'.all V.one=true→(∀x,x∈gs→x∉gi→ ∀y,bl x=some y→bl' x=some y)→OwnR bl' sz (rs.set i r') (els.set i e') gs
 | [], els, gs, i, hi, _ => by simp at hi
 | r :: rs, els, gs, 0, hi, h => by
   rw[OwnR] at h
   obtain⟨e,jZ,g1,g2,rfl,rfl,h3,h4,h5,h6,h7⟩:=h
   refine⟨e,g1,rfl,h6,h4,h5,fun x hx=>by simp[hx],fun bl' r' e' a1 a2 a3 a4=> ?_⟩
   show OwnR bl' sz (r'::rs) (e'::jZ) (g1++g2)
   rw[OwnR]
   exact⟨e',jZ,g1,g2,rfl,rfl,h3,a2,a3,a1,h7.cW fun x hx b hb=>a4 x (by simp[hx]) (fun h=>h3 x h hx) b hb⟩
 | r :: rs, els, gs, i + 1, hi, h => by
   rw[OwnR] at h
   obtain⟨e,jZ,g1,g2,rfl,rfl,h3,h4,h5,h6,h7⟩:=h
   obtain⟨e2,gi,b1,b2,b3,b4,b5,b6⟩:=OwnR.at (rs:=rs) i (by simpa using hi) h7
   refine⟨e2,gi,by simpa using b1,by simpa using b2,b3,b4,fun x hx=>by simp[b5 x hx],fun bl' r' e' a1 a2 a3 a4=> ?_⟩
   show OwnR bl' sz (r::rs.set i r') (e::jZ.set i e') (g1++g2)
   rw[OwnR]
   refine⟨e,jZ.set i e',g1,g2,rfl,rfl,h3,h4,h5,h6.cW fun x hx b hb=>a4 x (by simp[hx]) (fun h=>h3 x hx (b5 x h)) b hb,b6 bl' r' e' a1 a2 a3 fun x hx hn y hy=>a4 x (by simp[hx]) hn y hy⟩
theorem xL {bl:Int→Option Blk} {d:D} {v:V} {gs:List Int} :OwnL bl [d] [v] gs ↔ OwnD bl d v gs:=by
 rw[OwnL]
 constructor
 ·rintro⟨v',vs',g1,g2,h1,rfl,_,h2,h3⟩
  cases h1
  rw[OwnL] at h3
  rw[h3.2,List.append_nil];exact h2
 ·intro h
  exact⟨v,[],gs,[],rfl,by simp,by simp,h,by rw[OwnL];exact⟨rfl,rfl⟩⟩
structure aPD where
 els:List (List V)
 gs:List Int
 b:Int→Option Blk
theorem jI {bl:Int→Option Blk} {d:D} {ds:List D} {v:V} {vs:List V} {g1 g2:List Int} (h1:OwnD bl d v g1) (h2:OwnL bl ds vs g2) (hd: ∀g,g∈g1→g∉g2):OwnL bl (d::ds) (v::vs) (g1++g2):=by
 rw[OwnL];exact⟨v,vs,g1,g2,rfl,rfl,hd,h1,h2⟩
theorem Md {bl:Int→Option Blk} :OwnL bl [] [] []:=by rw[OwnL];exact⟨rfl,rfl⟩
theorem uP {bl:Int→Option Blk} (n:Int):OwnD bl (.c (.int .i64 n)) (.int .i64 n) []:=by rw[OwnD];exact⟨rfl,rfl,rfl⟩

def aE7 (ys xs:List (List V)) (i:Nat):List (List V):=ys.take i++xs.drop i
def marks (k:Int) (n:Nat):List Int:=(List.range n).map fun(i:Nat)=>k+i

def aPH (s:Str):List D:= [fl 4 (jv s.js),fl 3 (mv s.ms)]
structure Str.sz (s : Str) : Prop where
 js:s.js.length≤140737488351232
 ms:s.ms.length≤140737488351232
 nm: ∀j,j∈s.js→j.name.size≤140737488351232

def aGS (k:Nat) (out:ByteArray):ByteArray:=if h:k=0 then out else aGS (k / 10) (uS [IntKind.u8.wrap (IntKind.i64.wrap (48+(k:Int).tmod 10))]++out)
termination_by k
decreasing_by omega
def aB8 (k:Nat):ByteArray:=if k=0 then { data:= #[109,48] } else({ data:= #[109] } :ByteArray)++aGS k { data:= #[] }
def mkJ (k n:Nat):List J:=(List.range n).map fun i=>⟨aB8 (k+4*i),(k+4*i+1:Nat),(k+4*i+2:Nat),((k+4*i+3:Nat):Int).tmod 3==0⟩
def mkM (k n:Nat):List Mb:=(List.range n).map fun i=>⟨(k+3*i:Nat),(k+3*i+1:Nat),(k+3*i+2:Nat)⟩
def mkS (k:Nat) (s:Str):Str:=⟨mkJ k s.js.length,mkM (k+4*s.js.length) s.ms.length⟩
def mkN (k:Nat) (s:Str):Nat:=k+4*s.js.length+3*s.ms.length

end Go.Proofs.YticmgmemnpcbbaaGreat.Vm

namespace Go.Proofs.YticmgmemnpcbbaaGreat.Vm
open Go Go.Proofs
set_option linter.unusedSimpArgs false
set_option linter.unusedVariables false
def aMU (s:Str):List Int:=if sOk s=true then List.replicate (2*s.js.length) 0 else []

def aOV (s:Str):List Int:=if sOk s=true then aO s.js else []
theorem pO (s:Str) (hj:s.js.length≤1048576):RO Tryz.prog 74 [.ptr s.c] (.sl (iv (aO s.js))):=by
 have:=gU 1 (yX s hj) (mX _ _ 0)
 simpa using this
theorem Y7 (s:Str) (hj:s.js.length≤1048576):NW Tryz.prog 93 [.agg s.c] (fl 1 (iv (aO s.js))):=by
 refine lR Tryz.func93 rfl rfl (by rw[Tryz.ntmps93];simp) fun bl=> ?_
 rw[Tryz.ntmps93,Tryz.results93]
 refine aC ?_
 simp[Str.c]
 intro gs Vf hgs g00 sA aHX aM3
 simp[aHX,Ne.symm aHX]
 refine aI (fun p:Nat×Int=> [(3,.lsl p.2 1 0 (bN s.js p.1).length),(8,.sl (jv s.js)),(9,.int .i64 s.js.length),(10,.int .i64 p.1)]) (fun p=>upd bl p.2 (some ⟨1,iv (bN s.js p.1)⟩)) (fun p=>p.1≤s.js.length∧bl p.2=none∧(p.2<0→bN s.js p.1= [])) (fun p=>s.js.length - p.1) _ (0,g00) ⟨Nat.zero_le _,aM3,fun _=>rfl⟩ (by refine⟨rfl,by simp[bN],?_⟩;exact cX (by simp[bN,iv]) (by simp[hgs])) ?_
 rintro⟨i,g⟩ ⟨hi,hg,h0⟩
 simp only at hi hg h0
 have hl:=gY s.js i
 refine aC ?_
 simp
 refine⟨fun h=> ?_,fun h=> ?_⟩
 ·simp[h,J.c]
  intro g1 hg1 h1g hb1
  refine⟨fun hf=> ?_,fun hf=> ?_⟩
  ·intro g2 hg2 h21 h2g hb2
   simp[h1g,h21,h2g,Ne.symm h1g,Ne.symm h21,Ne.symm h2g,appV,elsV,Int.not_lt.2 hg2]
   refine⟨by omega,fun g3 hg3 hb3=> ?_⟩
   have fK:bl g3=none:=by grind
   simp (disch:=omega) [i64_in,aB]
   have hjf:(s.js.getD i default).fixed=false:=by simpa [h] using hf
   have hs1:bN s.js (i+1)=bN s.js i++ [(i:Int)]:=by rw[jS,hjf];rfl
   refine⟨i+1,g3,⟨by omega,fK,by omega⟩,by omega,rfl,by simp[hs1],?_⟩
   rw[hs1,aT]
   exact cX (by rw[dA];rfl) (by simp[hg,hb1,hb2,h1g,h21,h2g])
  ·simp (disch:=omega) [i64_in,aB]
   have hjf:(s.js.getD i default).fixed=true:=by simpa [h] using hf
   have hs1:bN s.js (i+1)=bN s.js i:=by rw[jS,hjf];simp
   refine⟨i+1,g,⟨by omega,hg,by rw[hs1];exact h0⟩,by omega,rfl,by simp[hs1],?_⟩
   rw[hs1]
   simp[hb1,h1g]
 ·have hi:i=s.js.length:=by omega
  subst hi
  refine kJ [.lsl g 1 0 (bN s.js s.js.length).length] [g] (by simp) ?_ (by simpa using hg) (by simp[hg])
  refine eJ.2 (.inr ⟨g,rfl,rfl,by simp[aO],h0⟩)
theorem qR (s:Str) (hj:s.js.length≤1048576):RO Tryz.prog 93 [.agg s.c] (.sl (iv (aO s.js))):=by
 have:=gU 1 (Y7 s hj) (mX _ _ 0)
 simpa using this
def aOJ (s:Str):Int:=if sOk s=true then s.ms.length - 2*(aO s.js).length else 0

def aQ7 (s:Str) (k:Int):Int:=IntKind.i64.wrap (IntKind.i64.wrap (aCM s k*aCM s k)+IntKind.i64.wrap (aC6 s k*aC6 s k))

def lat (l:List Int) (i:Nat):Int:=l.getD i 0
theorem tW {l:List Int} {i:Nat} (h:i<l.length):(iv l)[i]? =some [.int .i64 (lat l i)]:=by simp[lat,h]
structure LOk (s : Str) (l : List Int) : Prop where
 sok:SOk s
 n:l.length=2*s.js.length
 f: ∀i,i<l.length→ -100≤lat l i∧lat l i≤100
def sumX (l:List Int):Nat→Int
 | 0 => 0
 | n + 1 => sumX l n + lat l (2 * n)
def aHE (l:List Int):Nat→Int
 | 0 => 0
 | n + 1 => aHE l n + lat l (2 * n + 1)
def aQ6 (s:Str) (l:List Int):Int:=if lOk s l=true then sumX l s.js.length else 0
def aQ0 (s:Str) (l:List Int):Int:=if lOk s l=true then aHE l s.js.length else 0
def Qp (s:Str) (l:List Int) (x y:Int):Nat→Int
 | 0 => 0
 | n + 1 => Qp s l x y n + ((jat s.js n).x - x) * lat l (2 * n + 1) - ((jat s.js n).y - y) * lat l (2 * n)
def aDD (s:Str) (l:List Int) (x y:Int):Bool:=lOk s l && (decide (-1000≤x)&& decide (x≤1000))&& (decide (-1000≤y)&& decide (y≤1000))
def aOI (s:Str) (l:List Int) (x y:Int):Int:=if aDD s l x y=true then Qp s l x y s.js.length else 0

theorem yY (a:List Int) (ha:a.length≤1048576):NW Tryz.prog 174 [.sl (iv a)] (fl 1 (iv a)):=by
 cases a with
 | nil =>
   intro bl
   refine vF ?_ ?_
   ·refine qG ?_
    refine cV Tryz.func174 rfl rfl (by rw[Tryz.ntmps174];simp) ?_
    rw[Tryz.ntmps174,Tryz.results174]
    refine aC ?_
    simp
    exact kJ [.nils] [] rfl (eJ.2 (.inl ⟨rfl,rfl,rfl⟩)) (by simp) (Sub.refl _)
   ·refine qG ?_
    refine cV Tryz.func174 rfl rfl (by rw[Tryz.ntmps174];simp) ?_
    rw[Tryz.ntmps174,Tryz.results174]
    refine aC ?_
    simp
    intro g hg0 hg
    simp[appV,elsV]
    intro g' hb'
    refine kJ [.lsl g' 1 0 0] [g'] (by simp) (eJ.2 (.inr ⟨g',rfl,rfl,by simp[iv],fun _=>rfl⟩)) ?_ ?_
    ·simp;grind
    ·have:bl g'=none:=by grind
     simp[hg,this]
 | cons x a =>
   simp only[List.length_cons] at ha
   refine lR Tryz.func174 rfl rfl (by rw[Tryz.ntmps174];simp) fun bl=> ?_
   rw[Tryz.ntmps174,Tryz.results174]
   refine aC ?_
   simp[iv]
   intro g hg0 hg
   simp[appV,elsV]
   refine⟨by omega,fun g' hg' hb'=> ?_⟩
   have hbn:bl g'=none:=by grind
   refine kJ [.lsl g' 1 0 (a.length+1)] [g'] (by simp) ?_ (by simpa using hbn) (by simp[hg,hbn])
   exact(eJ (ns:=x::a)).2 (.inr ⟨g',by simp,rfl,by simp[iv],by omega⟩)
theorem zM (a:List Int) (ha:a.length≤1048576):RO Tryz.prog 174 [.sl (iv a)] (.sl (iv a)):=by
 have:=gU 1 (yY a ha) (mX _ _ 0)
 simpa using this

theorem zE (l:List Int) (k:Int) (hl:l.length≤140737488351232):RO Tryz.prog 281 [.sl (iv l),.int .i64 k] (.int .i64 (ixf (fun x=>decide (k=x)) l)):=by
 refine aJ Tryz.func281 rfl rfl (by rw[Tryz.ntmps281];simp) fun bl=> ?_
 rw[Tryz.ntmps281,Tryz.results281]
 refine aC ?_
 simp
 refine aI (fun i:Nat=> [(0,.sl (iv l)),(1,.int .i64 k),(7,.int .i64 l.length),(8,.int .i64 i)]) (fun _=>bl) (fun i=>i≤l.length∧ ∀j (h1:j<l.length),j<i→decide (k=l[j])=false) (fun i=>l.length - i) _ 0 ⟨Nat.zero_le _,fun j _ h0=>by omega⟩ ⟨rfl,by simp,Sub.refl _⟩ ?_
 intro i ⟨hi,hc⟩
 refine aC ?_
 simp
 refine⟨fun h1=> ?_,fun h1=> ?_⟩
 ·simp[h1]
  refine⟨fun h2=> ?_,fun h2=> ?_⟩
  ·exact aS (by rw[rY (p:=fun x=>decide (k=x)) h1 hc (by simpa using h2)];simp) rfl rfl
  ·simp (disch:=omega) [i64_in,aB]
   refine⟨i+1,⟨by omega,fun j hj1 hji=> ?_⟩,by omega,rfl,by simp,Sub.refl _⟩
   rcases Nat.lt_or_ge j i with hlt | hge
   ·simpa using hc j hj1 hlt
   ·obtain rfl:j=i:=by omega
    simpa using h2
 ·exact aS (by rw[sJ (p:=fun x=>decide (k=x)) fun j hj=>hc j hj (by omega)];simp) rfl rfl
theorem any_eq (l:List Int) (k:Int):(l.any fun x=>decide (k=x))=decide (k∈l):=by
 rw[Bool.eq_iff_iff];simp
theorem sZ (l:List Int) (k:Int) (hl:l.length≤140737488351232):RO Tryz.prog 255 [.sl (iv l),.int .i64 k] (.bool (decide (k∈l))):=by
 refine aJ Tryz.func255 rfl rfl (by rw[Tryz.ntmps255];simp) fun bl=> ?_
 rw[Tryz.ntmps255,Tryz.results255]
 refine aC ?_
 simp
 refine aE (zE l k hl) ?_
 simp
 exact aS (by simp[Gd,any_eq]) rfl rfl

def Rv (ms:List Mb) (l:List Int) (n:Nat):List Mb:=((List.range n).filter fun(i:Nat)=> !decide ((i:Int)∈l)).map fun(i:Nat)=>ms.getD i default
def aJO (s:Str) (l:List Int):Str:=⟨s.js,Rv s.ms l s.ms.length⟩

end Go.Proofs.YticmgmemnpcbbaaGreat.Vm

namespace Go.Proofs.YticmgmemnpcbbaaGreat.Vm
open Go Go.Proofs
set_option linter.unusedSimpArgs false
set_option linter.unusedVariables false
def ivv (ws:List (List Int)):List (List V):=ws.map fun w=> [.sl (iv w)]
def dII (ws:List (List Int)):D:= .s 1 (ws.map fun w=> [fl 1 (iv w)])
@[simp] theorem Uq (ws : List (List Int)) : (ivv ws).length = ws.length := by simp [ivv]
@[simp] theorem aD1 (ws : List (List Int)) (i : Nat) (h : i < (ivv ws).length) : (ivv ws)[i] = [.sl (iv (ws[i]'(by simpa using h)))] := by simp [ivv]
theorem Wv (ws:List (List Int)):(dII ws).fz= .sl (ivv ws):=by
 unfold dII ivv
 rw[D.fz,J6,List.map_map]
 congr 1
 exact List.map_congr_left fun w _=>by simp
theorem Lx (ws:List (List Int)):(dII ws).dep 2:=by
 unfold dII
 rw[D.dep]
 refine⟨by omega,?_⟩
 induction ws with
 | nil => simp [D.depR]
 | cons w ws ih => simp [D.depR, D.depL, mX] at ih ⊢; exact ih
end Go.Proofs.YticmgmemnpcbbaaGreat.Vm
