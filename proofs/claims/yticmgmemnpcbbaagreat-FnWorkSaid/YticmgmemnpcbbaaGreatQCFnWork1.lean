import Derived.Below
import Derived.Laws.World
import Derived.Orders
import Derived.Laws.Sem
import Derived.Tactics
import Derived.Laws.AppendOwn
import Derived.IntWalk
import Derived.Laws.StructEq
import Derived.Laws.MakeOwn
import Derived.Laws.Slices
import Derived.Laws.BytesString

namespace Go.Proofs.YticmgmemnpcbbaaGreat.Vm
open Go Go.RowKit
inductive V where
 | junk
 | bool (b : Bool)
 | int (k : IntKind) (n : Int)
 | str (s : ByteArray)
 | nilp
 | ptr (cs : List V)
 | nils
 | sle
 | sl (xs : List (List V))
 | loc (g : Int) (sz k j : Nat)
 | lsl (g : Int) (sz o n : Nat)
 | agg (cs : List V)
 | tup (vs : List V)
 | fn (f : FuncId) (cap : List V)
 | mp (b : Nat)
 | mpf (es : List (Int × Int))
 deriving Inhabited
def V.one :V→Bool
 | .junk | .agg _ | .tup _ => false
 | _ => true
def V.cells :V→List V
 | .agg cs => cs
 | v => [v]
inductive Rep (F : Nat → Prop) (w : World) : V → Value → Prop
 | junk (v : Value) : Rep F w .junk v
 | bool (b : Bool) : Rep F w (.bool b) (.bool b)
 | int (k : IntKind) (n : Int) : Rep F w (.int k n) (.int k n)
 | str (s : ByteArray) : Rep F w (.str s) (.string s)
 | nilp : Rep F w .nilp (.pointer none)
 | ptr (b o : Nat) (cs : List V) (u : Nat → Value) (hF : F b) (hc : ∀ i x, cs[i]? = some x → w.cell? ⟨b, o + i, none⟩ = some (u i))
    (hr: ∀i x,cs[i]? =some x→Rep F w x (u i)):Rep F w (.ptr cs) (.pointer (some ⟨b,o,none⟩))
 | nils : Rep F w .nils (.slice none 0 0)
 | sle (a : Addr) (cap : Nat) : Rep F w .sle (.slice (some a) 0 cap)
 | sl0 (a : Option Addr) (cap : Nat) (ha : a = none → cap = 0) : Rep F w (.sl []) (.slice a 0 cap)
 | sl (b o cap sz : Nat) (xs : List (List V)) (u : Nat → Nat → Value) (hF : F b) (hle : xs.length ≤ cap) (iT : cap ≤ maxLen)
    (hsz: ∀c,c∈xs→c.length=sz)
    (hc: ∀i c j x,xs[i]? =some c→c[j]? =some x→w.cell? ⟨b,o+i*sz+j,none⟩=some (u i j))
    (hr: ∀i c j x,xs[i]? =some c→c[j]? =some x→Rep F w x (u i j)):Rep F w (.sl xs) (.slice (some ⟨b,o,none⟩) xs.length cap)
 | loc (g : Int) (sz k j : Nat) : Rep F w (.loc g sz k j) (.pointer (some ⟨g.toNat, k * sz + j, none⟩))
 | lsl (g : Int) (sz o n cap : Nat) (hg : 0 ≤ g) (hle : n ≤ cap) (iT : cap ≤ maxLen)
    (hb: ∃c t f,w.heap[g.toNat]? =some (.cells c t f)∧(o+cap)*sz≤c.size):Rep F w (.lsl g sz o n) (.slice (some ⟨g.toNat,o*sz,none⟩) n cap)
 | lsln (g : Int) (sz : Nat) (hg : g < 0) : Rep F w (.lsl g sz 0 0) (.slice none 0 0)
 | agg (cs : List V) (arr : Array Value) (hlen : arr.size = cs.length) (hr : ∀ i x, cs[i]? = some x → Rep F w x (arr.getD i undef)) : Rep F w (.agg cs) (.agg arr)
 | tup (cs : List V) (arr : Array Value) (hlen : arr.size = cs.length) (hr : ∀ i x, cs[i]? = some x → Rep F w x (arr.getD i undef)) : Rep F w (.tup cs) (.tuple arr)
 | fn (f : FuncId) (cs : List V) (arr : Array Value) (hlen : arr.size = cs.length) (hr : ∀ i x, cs[i]? = some x → Rep F w x (arr.getD i undef)) :
    Rep F w (.fn f cs) (.func (.func f) #[] arr)
 | mp (b : Nat) : Rep F w (.mp b) (.map (some b))
 | mpf (b : Nat) (es : List (Int × Int)) (W4 : Array MapEntry) (clock : Nat) (hF : F b) (hh : w.heap[b]? = some (.map W4 clock))
    (he:W4.toList.map (fun e=>(e.key,e.val))=es.map fun p=>(Value.int .i64 p.1,Value.int .i64 p.2)):Rep F w (.mpf es) (.map (some b))
def dM (w w':World):Prop:= ∀(b:Nat) (c:Array Value) t f,w.heap[b]? =some (.cells c t f)→ ∃c' f',w'.heap[b]? =some (.cells c' t f')∧c'.size=c.size
theorem dM.refl (w:World):dM w w:=fun _ c _ f h=>⟨c,f,h,rfl⟩
theorem dM.trans {w w1 w2:World} (h:dM w w1) (k:dM w1 w2):dM w w2:=fun b c t f hc=>by
 obtain⟨c1,f1,h1,s1⟩:=h b c t f hc
 obtain⟨c2,f2,h2,s2⟩:=k b c1 t f1 h1
 exact⟨c2,f2,h2,s2.trans s1⟩
theorem qM {w w':World} {b:Nat} (h:w'.heap[b]? =w.heap[b]?) (o:Nat):w'.cell? ⟨b,o,none⟩=w.cell? ⟨b,o,none⟩:=by
 simp only[World.cell?,h]
theorem Rep.mono {F F':Nat→Prop} {w w':World} (hF: ∀b,F b→F' b) (hh: ∀b,F b→w'.heap[b]? =w.heap[b]?) (hs:dM w w') {x:V} {v:Value} (h:Rep F w x v):Rep F' w' x v:=by
 induction h with
 | junk v => exact .junk v
 | bool b => exact .bool b
 | int k n => exact .int k n
 | str s => exact .str s
 | nilp => exact .nilp
 | ptr b o cs u hb hc hr ih => exact .ptr b o cs u (hF b hb) (fun i x hx => (qM (hh b hb) _).trans (hc i x hx)) (fun i x hx => ih i x hx)
 | nils => exact .nils
 | sle a cap => exact .sle a cap
 | sl0 a cap ha => exact .sl0 a cap ha
 | sl b o cap sz xs u hb hle iT hsz hc hr ih => exact .sl b o cap sz xs u (hF b hb) hle iT hsz (fun i c j x h1 h2 => (qM (hh b hb) _).trans (hc i c j x h1 h2)) (fun i c j x h1 h2 => ih i c j x h1 h2)
 | loc g sz k j => exact .loc g sz k j
 | lsl g sz o n cap hg hle iT hb =>
   obtain⟨c,t,f,h1,h2⟩:=hb
   obtain⟨c',f',h3,h4⟩:=hs _ c t f h1
   exact .lsl g sz o n cap hg hle iT ⟨c',t,f',h3,by omega⟩
 | lsln g sz hg => exact .lsln g sz hg
 | agg cs arr hlen hr ih => exact .agg cs arr hlen fun i x hx => ih i x hx
 | tup cs arr hlen hr ih => exact .tup cs arr hlen fun i x hx => ih i x hx
 | fn f cs arr hlen hr ih => exact .fn f cs arr hlen fun i x hx => ih i x hx
 | mp b => exact .mp b
 | mpf b es W4 clock hb h he => exact .mpf b es W4 clock (hF b hb) ((hh b hb).trans h) he
structure Blk where
 sz:Nat
 els:List (List V)
structure St where
 n:Nat
 sl:Nat→V
 bl:Int→Option Blk
def upd {α β:Type} [DecidableEq α] (f:α→β) (a:α) (b:β):α→β:=fun x=>if x=a then b else f x
theorem bO {α β:Type} [DecidableEq α] (f:α→β) (a:α) (b:β):upd f a b a=b:=by simp[upd]
theorem aL {α β:Type} [DecidableEq α] (f:α→β) (a:α) (b:β) (c:α) (h:c≠a):upd f a b c=f c:=by simp[upd,h]
theorem aA {α β:Type} [DecidableEq α] (f:α→β) (a:α) (b:β) (c:α):upd f a b c=if c=a then b else f c:=rfl
theorem Ig {α β:Type} [DecidableEq α] (f:α→β) (a:α) (b c:β):upd (upd f a b) a c=upd f a c:=by
 funext x;by_cases h:x=a<;>simp[upd,h]
def St.put (σ:St) (d:Option Nat) (v:V):St:=match d with
 | some d => { σ with sl := upd σ.sl d v }
 | none => σ
def ofCell :Value→V
 | .bool b => .bool b
 | .int k n => .int k n
 | .string s => .str s
 | .pointer none => .nilp
 | .slice none 0 0 => .nils
 | .nilFunc => .junk
 | _ => .junk
def ofValue :Value→V
 | .agg cs => .agg (cs.toList.map ofCell)
 | .tuple cs => .tup (cs.toList.map ofCell)
 | v => ofCell v
theorem lA (F:Nat→Prop) (w:World) (v:Value):Rep F w (ofCell v) v:=by
 unfold ofCell
 split<;>constructor
theorem yT (F:Nat→Prop) (w:World) (cs:Array Value) (i:Nat) (x:V) (hx:(cs.toList.map ofCell)[i]? =some x):Rep F w x (cs.getD i undef):=by
 rw[List.getElem?_map] at hx
 rcases h:cs.toList[i]? with _ | y
 ·rw[h] at hx;cases hx
 ·rw[h] at hx;cases hx
  have:cs.getD i undef=y:=by
   rw[Array.getElem?_toList] at h
   simp[Array.getD_eq_getD_getElem?,h]
  rw[this];exact lA _ _ _
theorem L6 (F:Nat→Prop) (w:World) (v:Value):Rep F w (ofValue v) v:=by
 unfold ofValue
 split
 ·exact .agg _ _ (by simp) (yT F w _)
 ·exact .tup _ _ (by simp) (yT F w _)
 ·exact lA _ _ _
def St.ev (σ:St):Operand→V
 | .tmp t => if t < σ.n then σ.sl t else .junk
 | .const v => ofValue v
 | .func f => .fn f []
 | .global _ => .junk
def cA (F:Nat→Prop) (w:World) (g:Int) (b:Blk):Prop:=
 if g<0 then b.els= [] else
 ¬ F g.toNat∧ ∃c t,w.heap[g.toNat]? =some (.cells c t (0,0))∧b.els.length*b.sz≤c.size∧
  ∀k e,b.els[k]? =some e→e.length=b.sz∧ ∀j x,e[j]? =some x→x.one=true∧ ∃v,c[k*b.sz+j]? =some v∧Rep F w x v
structure Mem (w0 : World) (M F : Nat → Prop) (bl : Int → Option Blk) (w : World) : Prop where
 os:w.os=w0.os
 tape:w.tape=w0.tape
 output:w.output=w0.output
 size:w0.heap.size≤w.heap.size
 frame: ∀k,k<w0.heap.size→ ¬ M k→w.heap[k]? =w0.heap[k]?
 gP:dM w0 w
 fr: ∀b,F b→b<w.heap.size
 fin: ∃n:Int,∀g,g<n→bl g=none
 own: ∀g b,bl g=some b→0≤g→w0.heap.size≤g.toNat∨M g.toNat
 blk: ∀g b,bl g=some b→cA F w g b
structure Sim (w0 : World) (M F : Nat → Prop) (σ : St) (a : Act) (w : World) : Prop where
 mem:Mem w0 M F σ.bl w
 size:a.tmps.size=σ.n
 sl: ∀t,t<σ.n→Rep F w (σ.sl t) (a.tmps.getD t undef)
 defers:a.defers= []
theorem Sim.ev {w0:World} {M F:Nat→Prop} {σ:St} {a:Act} {w:World} (h:Sim w0 M F σ a w) (x:Operand):Rep F w (σ.ev x) (a.eval x):=by
 cases x with
 | tmp t =>
   show Rep F w (if t<σ.n then σ.sl t else .junk) _
   split
   ·rename_i ht;exact h.sl t ht
   ·exact .junk _
 | const v => exact L6 _ _ _
 | func f => exact .fn f [] #[] rfl (by simp)
 | global g => exact .junk _
theorem Sim.put {w0:World} {M F:Nat→Prop} {σ:St} {a:Act} {w:World} (h:Sim w0 M F σ a w) {d:Option Nat} {x:V} {v:Value} (hv:Rep F w x v):
  Sim w0 M F (σ.put d x) (a.put d v) w:=by
 cases d with
 | none => exact h
 | some d =>
   refine⟨h.mem,by simp[Act.put,St.put,h.size],fun t ht=> ?_,h.defers⟩
   have ht':t<σ.n:=ht
   show Rep F w (upd σ.sl d x t) ((a.tmps.setIfInBounds d v).getD t undef)
   by_cases hd:t=d
   ·subst hd
    rw[bO]
    have:(a.tmps.setIfInBounds t v).getD t undef=v:=by
     have:t<a.tmps.size:=by rw[h.size];exact ht'
     simp[Array.getD_eq_getD_getElem?,this]
    rw[this];exact hv
   ·rw[aL _ _ _ _ hd]
    have:(a.tmps.setIfInBounds d v).getD t undef=a.tmps.getD t undef:=by
     simp[Array.getD_eq_getD_getElem?,Array.getElem?_setIfInBounds_ne (Ne.symm hd)]
    rw[this];exact h.sl t ht'
inductive Ex where
 | normal
 | exit (id : Nat)
 | ret
def aKC :Ex→Exit
 | .normal => .normal
 | .exit i => .exit i
 | .ret => .ret
def C3 (w0:World) (M F:Nat→Prop) (K:Ex→St→Prop) (e:Exit) (a:Act) (w:World):Prop:=
 ∃x σ F',e=aKC x∧(∀b,F b→F' b)∧Sim w0 M F' σ a w∧K x σ
def AW (P:Program) (c:Code) (K:Ex→St→Prop) (σ:St):Prop:=
 ∀w0 M F a w,Sim w0 M F σ a w→c.wp P (C3 w0 M F K) a w
theorem C3.mono {w0:World} {M F:Nat→Prop} {K K':Ex→St→Prop} (h: ∀e σ,K e σ→K' e σ) {e:Exit} {a:Act} {w:World} (hp:C3 w0 M F K e a w):C3 w0 M F K' e a w:=by
 obtain⟨x,σ,F',h1,h2,h3,h4⟩:=hp
 exact⟨x,σ,F',h1,h2,h3,h _ _ h4⟩
theorem AW.mono {P:Program} {c:Code} {K K':Ex→St→Prop} {σ:St} (hc:AW P c K σ) (h: ∀e σ,K e σ→K' e σ):AW P c K' σ:=
 fun w0 M F a w hs=>wp_mono (hc w0 M F a w hs) fun _ _ _ hp=>hp.mono h
theorem C3.weaken {w0:World} {M F F1:Nat→Prop} {K:Ex→St→Prop} (h: ∀b,F b→F1 b) {e:Exit} {a:Act} {w:World} (hp:C3 w0 M F1 K e a w):C3 w0 M F K e a w:=by
 obtain⟨x,σ,F',h1,h2,h3,h4⟩:=hp
 exact⟨x,σ,F',h1,fun b hb=>h2 b (h b hb),h3,h4⟩
def Lw (P:Program) (c:Code) (K:Ex→St→Prop):Ex→St→Prop
 | .normal, σ => AW P c K σ
 | e, σ => K e σ
theorem J5 (P:Program) (c:Code) (K:Ex→St→Prop) (σ:St):Lw P c K .normal σ=AW P c K σ:=rfl
theorem Cr (P:Program) (c:Code) (K:Ex→St→Prop) (i:Nat) (σ:St):Lw P c K (.exit i) σ=K (.exit i) σ:=rfl
theorem Ft (P:Program) (c:Code) (K:Ex→St→Prop) (σ:St):Lw P c K .ret σ=K .ret σ:=rfl
theorem cK {P:Program} {x y:Code} {K:Ex→St→Prop} {σ:St} (h:AW P x (Lw P y K) σ):AW P (.seq x y) K σ:=by
 intro w0 M F a w hs
 refine wp_seq (wp_mono (h w0 M F a w hs) fun e a' w' hp=> ?_)
 obtain⟨ex,σ',F',h1,h2,h3,h4⟩:=hp
 cases ex with
 | normal => subst h1; exact wp_mono (h4 w0 M F' a' w' h3) fun _ _ _ hp => hp.weaken h2
 | exit i => subst h1; exact ⟨.exit i, σ', F', rfl, h2, h3, h4⟩
 | ret => subst h1; exact ⟨.ret, σ', F', rfl, h2, h3, h4⟩
theorem Ll {P:Program} {K:Ex→St→Prop} {σ:St} (h:K .normal σ):AW P .skip K σ:=
 fun _ _ F _ _ hs=>wp_skip ⟨.normal,σ,F,rfl,fun _ h=>h,hs,h⟩
theorem Lq {P:Program} {K:Ex→St→Prop} {σ:St} {i:Nat} (h:K (.exit i) σ):AW P (.exit i) K σ:=
 fun _ _ F _ _ hs=>wp_exit ⟨.exit i,σ,F,rfl,fun _ h=>h,hs,h⟩
theorem Ur {P:Program} {K:Ex→St→Prop} {σ:St} (h:K .ret σ):AW P .ret K σ:=
 fun _ _ F _ _ hs=>wp_ret ⟨.ret,σ,F,rfl,fun _ h=>h,hs,h⟩
theorem Lm {P:Program} {c:Operand} {x y:Code} {K:Ex→St→Prop} {σ:St} (h: ∃b,σ.ev c= .bool b∧(b=true→AW P x K σ)∧(b=false→AW P y K σ)):AW P (.cond c x y) K σ:=by
 obtain⟨b,hb,h1,h2⟩:=h
 intro w0 M F a w hs
 have:=hs.ev c
 rw[hb] at this
 generalize hv:a.eval c=v at this
 cases this
 exact wp_cond_split hv (fun ht=>h1 ht w0 M F a w hs) (fun ht=>h2 ht w0 M F a w hs)
def sR (id:Nat) (K:Ex→St→Prop):Ex→St→Prop
 | .exit i, σ => if i = id then K .normal σ else K (.exit i) σ
 | e, σ => K e σ
theorem yB (id:Nat) (K:Ex→St→Prop) (σ:St):sR id K .normal σ=K .normal σ:=rfl
theorem tK (id:Nat) (K:Ex→St→Prop) (i:Nat) (σ:St):sR id K (.exit i) σ=if i=id then K .normal σ else K (.exit i) σ:=rfl
theorem W6 (id:Nat) (K:Ex→St→Prop) (σ:St):sR id K .ret σ=K .ret σ:=rfl
theorem cD {P:Program} {id:Nat} {c:Code} {K:Ex→St→Prop} {σ:St} (h:AW P c (sR id K) σ):AW P (.block id c) K σ:=by
 intro w0 M F a w hs
 refine wp_block (wp_mono (h w0 M F a w hs) fun e a' w' hp=> ?_)
 obtain⟨ex,σ',F',h1,h2,h3,h4⟩:=hp
 subst h1
 cases ex with
 | normal => exact ⟨.normal, σ', F', rfl, h2, h3, h4⟩
 | ret => exact ⟨.ret, σ', F', rfl, h2, h3, h4⟩
 | exit i =>
   show if i=id then _ else _
   rw[tK] at h4
   split at h4
   ·rename_i hi;rw[if_pos hi];exact⟨.normal,σ',F',rfl,h2,h3,h4⟩
   ·rename_i hi;rw[if_neg hi];exact⟨.exit i,σ',F',rfl,h2,h3,h4⟩
structure Le (σ σ' : St) : Prop where
 n:σ'.n=σ.n
 sl: ∀t,t<σ.n→σ'.sl t=σ.sl t∨σ'.sl t= .junk
 bl: ∀g b,σ'.bl g=some b→σ.bl g=some b
theorem Le.refl (σ:St):Le σ σ:=⟨rfl,fun _ _=> .inl rfl,fun _ _ h=>h⟩
theorem Sim.le {w0:World} {M F:Nat→Prop} {σ σ':St} {a:Act} {w:World} (h:Sim w0 M F σ a w) (hl:Le σ σ'):Sim w0 M F σ' a w:=by
 refine⟨⟨h.mem.os,h.mem.tape,h.mem.output,h.mem.size,h.mem.frame,h.mem.gP,h.mem.fr,?_,fun g b hb=>h.mem.own g b (hl.bl g b hb),fun g b hb=>h.mem.blk g b (hl.bl g b hb)⟩,
  by rw[hl.n];exact h.size,fun t ht=> ?_,h.defers⟩
 ·obtain⟨n,hn⟩:=h.mem.fin
  refine⟨n,fun g hg=> ?_⟩
  cases hb:σ'.bl g with
  | none => rfl
  | some b => have := hl.bl g b hb; rw [hn g hg] at this; cases this
 ·rw[hl.n] at ht
  rcases hl.sl t ht with h1 | h1<;>rw[h1]
  ·exact h.sl t ht
  ·exact .junk _
theorem aC5 {P:Program} {c:Code} {K:Ex→St→Prop} {σ σ':St} (hl:Le σ σ') (h:AW P c K σ'):AW P c K σ:=
 fun w0 M F a w hs=>h w0 M F a w (hs.le hl)
def Gc (I:St→Prop) (μ:St→Nat) (m:Nat) (K:Ex→St→Prop):Ex→St→Prop
 | .normal, σ => ∃ σ', Le σ σ' ∧ I σ' ∧ μ σ' < m
 | e, σ => K e σ
theorem F4 (I:St→Prop) (μ:St→Nat) (m:Nat) (K:Ex→St→Prop) (σ:St):Gc I μ m K .normal σ= ∃σ',Le σ σ'∧I σ'∧μ σ'<m:=rfl
theorem X6 (I:St→Prop) (μ:St→Nat) (m:Nat) (K:Ex→St→Prop) (i:Nat) (σ:St):Gc I μ m K (.exit i) σ=K (.exit i) σ:=rfl
theorem Bs (I:St→Prop) (μ:St→Nat) (m:Nat) (K:Ex→St→Prop) (σ:St):Gc I μ m K .ret σ=K .ret σ:=rfl

theorem dH (b o i:Nat):(⟨b,o,none⟩:Addr).add i=⟨b,o+i,none⟩:=by
 unfold Addr.add;split
 ·rename_i h;subst h;rfl
 ·rfl
theorem fM {w:World} {b o:Nat} {c:Array Value} {t:TypeId} {f:Nat×Nat} (h:w.heap[b]? =some (.cells c t f)):w.cell? ⟨b,o,none⟩=c[o]? :=by
 simp[World.cell?,h]
theorem oS {P:Program} {w:World} {b o:Nat} {v:Value} (h:w.cell? ⟨b,o,none⟩=some v):(load ⟨b,o,none⟩).run P w= .ok v w:=by
 rw[run_load,h]
theorem run_loadCellsFrom {P:Program} {w:World} {b o:Nat} (u:Nat→Value) (n:Nat): ∀(i:Nat) (acc:Array Value),(∀j,j<n→w.cell? ⟨b,o+(i+j),none⟩=some (u (i+j)))→
  (loadCellsFrom ⟨b,o,none⟩ i n acc).run P w= .ok (acc++((List.range n).map fun j=>u (i+j)).toArray) w:=by
 induction n with
 | zero => intro i acc _; simp [loadCellsFrom]
 | succ n ih =>
   intro i acc h
   have h0:=h 0 (by omega)
   simp only[loadCellsFrom,Sem.run_bind,dH]
   rw[oS (by simpa using h0),Result.andThen_ok,ih (i+1) _ (fun j hj=>by have:=h (j+1) (by omega);simpa [Nat.add_assoc,Nat.add_comm 1 j] using this)]
   congr 1
   rw[List.range_succ_eq_map]
   simp[Function.comp_def,Nat.add_assoc,Nat.add_comm 1]
theorem mV {P:Program} {b t:Nat} {o:Nat} (vs:List Value): ∀(w:World) (i:Nat) (c:Array Value),w.heap[b]? =some (.cells c t (0,0))→o+i+vs.length≤c.size→
  (∀v,v∈vs→v.oneCell'=true)→
  ∃w' c',(storeCells ⟨b,o,none⟩ vs i).run P w= .ok () w'∧w'.os=w.os∧w'.tape=w.tape∧w'.output=w.output∧w'.heap.size=w.heap.size∧(∀k,k≠b→w'.heap[k]? =w.heap[k]?)∧
   w'.heap[b]? =some (.cells c' t (0,0))∧c'.size=c.size∧ ∀p,c'[p]? =if o+i≤p∧p<o+i+vs.length then vs[p - (o+i)]? else c[p]? :=by
 induction vs with
 | nil =>
   intro w i c hb _ _
   refine⟨w,c,rfl,rfl,rfl,rfl,rfl,fun _ _=>rfl,hb,rfl,fun p=> ?_⟩
   rw[if_neg (by simp only[List.length_nil];omega)]
 | cons v vs ih =>
   intro w i c hb hlen gD
   simp only[List.length_cons] at hlen
   have iL:w.cell? ⟨b,o+i,none⟩=some (c[o+i]'(by omega)):=by rw[fM hb];exact Array.getElem?_eq_getElem (by omega)
   have hfz:w.frozen? ⟨b,o+i,none⟩=false:=by simp[World.frozen?,hb]
   have E0:(w.setCell ⟨b,o+i,none⟩ v).heap[b]? =some (.cells (c.setIfInBounds (o+i) v) t (0,0)):=by
    simp[World.setCell,Array.getElem?_modify,hb]
   obtain⟨w',c',jH,h1,h2,h3,h4,h5,h6,h7,h8⟩:=ih (w.setCell ⟨b,o+i,none⟩ v) (i+1) (c.setIfInBounds (o+i) v) E0 (by simp;omega) (fun x hx=>gD x (List.mem_cons_of_mem _ hx))
   refine⟨w',c',?_,h1,h2,h3,by rw[h4];simp,fun k hk=>by rw[h5 k hk];simp[World.setCell,Array.getElem?_modify,Ne.symm hk],h6,by rw[h7];simp,fun p=> ?_⟩
   ·simp only[storeCells,Sem.run_bind,dH]
    rw[run_store P w _ v _ (gD v (List.mem_cons_self ..)),iL,hfz]
    simpa using jH
   ·rw[h8 p]
    by_cases hp:p=o+i
    ·subst hp
     rw[if_neg (by omega),if_pos (by simp),Array.getElem?_setIfInBounds_self_of_lt (by omega)]
     simp
    ·by_cases hq:o+(i+1)≤p∧p<o+(i+1)+vs.length
     ·rw[if_pos hq,if_pos (by simp;omega)]
      rw[show p - (o+i)=(p - (o+(i+1)))+1 from by omega,List.getElem?_cons_succ]
     ·rw[if_neg hq,if_neg (by simp;omega),Array.getElem?_setIfInBounds_ne (by omega)]
theorem dM.of_same {w w':World} (h: ∀k,k<w.heap.size→w'.heap[k]? =w.heap[k]?):dM w w':=fun b c t f hc=>
 ⟨c,f,by rw[h b (Array.getElem?_eq_some_iff.1 hc).1];exact hc,rfl⟩
theorem cA.mono {F F':Nat→Prop} {w w':World} {g:Int} {b:Blk} (hF: ∀k,F k→F' k) (hg:0≤g→ ¬ F' g.toNat) (hh: ∀k,F k→w'.heap[k]? =w.heap[k]?) (hs:dM w w')
  (hgb:0≤g→w'.heap[g.toNat]? =w.heap[g.toNat]?) (h:cA F w g b):cA F' w' g b:=by
 unfold cA at *
 split
 ·rename_i h0;rw[if_pos h0] at h;exact h
 ·rename_i h0
  rw[if_neg h0] at h
  obtain⟨_,c,t,hc,hlen,hk⟩:=h
  refine⟨hg (by omega),c,t,by rw[hgb (by omega)];exact hc,hlen,fun k e he=>⟨(hk k e he).1,fun j x hx=> ?_⟩⟩
  obtain⟨h1,v,h2,h3⟩:=(hk k e he).2 j x hx
  exact⟨h1,v,h2,h3.mono hF hh hs⟩
theorem cA.at {F:Nat→Prop} {w:World} {g:Int} {b:Blk} (h:cA F w g b) {k:Nat} (hk:k<b.els.length):0≤g∧ ¬ F g.toNat∧ ∃c t,w.heap[g.toNat]? =some (.cells c t (0,0))∧b.els.length*b.sz≤c.size∧
  ∀k e,b.els[k]? =some e→e.length=b.sz∧ ∀j x,e[j]? =some x→x.one=true∧ ∃v,c[k*b.sz+j]? =some v∧Rep F w x v:=by
 unfold cA at h
 split at h
 ·rw[h] at hk;cases hk
 ·exact⟨by omega,h⟩
theorem Mem.step {w0:World} {M F F':Nat→Prop} {bl bl':Int→Option Blk} {w w':World} (h:Mem w0 M F bl w) (hos:w'.os=w.os) (htape:w'.tape=w.tape) (hout:w'.output=w.output)
  (yZ:w.heap.size≤w'.heap.size) (hsh:dM w w') (X:Nat→Prop) (hx: ∀k,k<w.heap.size→ ¬ X k→w'.heap[k]? =w.heap[k]?) (hX: ∀k,X k→w0.heap.size≤k∨M k)
  (hF': ∀k,F' k→k<w'.heap.size) (hfin: ∃n:Int,∀g,g<n→bl' g=none)
  (hbl: ∀g b,bl' g=some b→(0≤g→w0.heap.size≤g.toNat∨M g.toNat)∧cA F' w' g b):Mem w0 M F' bl' w':=by
 refine⟨hos.trans h.os,htape.trans h.tape,hout.trans h.output,Nat.le_trans h.size yZ,fun k hk hM=> ?_,h.gP.trans hsh,hF',hfin,fun g b hb=>(hbl g b hb).1,fun g b hb=>(hbl g b hb).2⟩
 rw[hx k (Nat.lt_of_lt_of_le hk h.size) (fun hXk=>by rcases hX k hXk with h1 | h1;omega;exact hM h1)]
 exact h.frame k hk hM
theorem Mem.grow {w0:World} {M F F':Nat→Prop} {bl:Int→Option Blk} {w w':World} (h:Mem w0 M F bl w) (hos:w'.os=w.os) (htape:w'.tape=w.tape) (hout:w'.output=w.output)
  (yZ:w.heap.size≤w'.heap.size) (dU: ∀k,k<w.heap.size→w'.heap[k]? =w.heap[k]?) (hFF: ∀k,F k→F' k) (hF': ∀k,F' k→k<w'.heap.size) (Ib: ∀k,F' k→F k∨w.heap.size≤k):Mem w0 M F' bl w':=by
 refine h.step hos htape hout yZ (.of_same dU) (fun _=>False) (fun k hk _=>dU k hk) (fun _ h=>h.elim) hF' h.fin fun g b hb=>⟨h.own g b hb,?_⟩
 have hB:=h.blk g b hb
 refine hB.mono hFF (fun hg=> ?_) (fun k hk=>dU k (h.fr k hk)) (.of_same dU) (fun hg=> ?_)
 ·intro hF
  unfold cA at hB
  rw[if_neg (by omega)] at hB
  obtain⟨h1,c,t,h2,_⟩:=hB
  rcases Ib _ hF with h3 | h3
  ·exact h1 h3
  ·have:=(Array.getElem?_eq_some_iff.1 h2).1;omega
 ·unfold cA at hB
  rw[if_neg (by omega)] at hB
  obtain⟨h1,c,t,h2,_⟩:=hB
  exact dU _ (Array.getElem?_eq_some_iff.1 h2).1
theorem Mem.alloc {w0:World} {M F:Nat→Prop} {bl:Int→Option Blk} {w:World} (h:Mem w0 M F bl w) (c:Array Value) (t:TypeId) (sz:Nat) (els:List (List V)) (hlen:els.length*sz≤c.size)
  (hk: ∀k e,els[k]? =some e→e.length=sz∧ ∀j x,e[j]? =some x→x.one=true∧ ∃v,c[k*sz+j]? =some v∧Rep F w x v):
  bl w.heap.size=none∧Mem w0 M F (upd bl (w.heap.size:Int) (some ⟨sz,els⟩)) (w.alloc (.cells c t)):=by
 have dU: ∀k,k<w.heap.size→(w.alloc (.cells c t)).heap[k]? =w.heap[k]? :=fun k hk=>Below.heap_alloc _ _ _ hk
 refine⟨?_,?_⟩
 ·cases hb:bl w.heap.size with
  | none => rfl
  | some b =>
    have:=h.blk _ b hb
    unfold cA at this
    rw[if_neg (by omega)] at this
    obtain⟨_,c,t,hc,_⟩:=this
    have:=(Array.getElem?_eq_some_iff.1 hc).1
    simp at this
 ·refine h.step rfl rfl rfl (by simp) (.of_same dU) (fun _=>False) (fun k hk _=>dU k hk) (fun _ h=>h.elim) (fun k hk=>by have:=h.fr k hk;simp;omega) ?_ fun g b hb=> ?_
  ·obtain⟨n,hn⟩:=h.fin
   refine⟨min n 0,fun g hg=> ?_⟩
   rw[aL _ _ _ _ (by omega)]
   exact hn g (by omega)
  ·by_cases hg:g=(w.heap.size:Int)
   ·subst hg
    rw[bO] at hb
    cases hb
    refine⟨fun _=> .inl (by simpa using h.size),?_⟩
    unfold cA
    rw[if_neg (by omega)]
    refine⟨fun hF=>by have:=h.fr _ hF;simp at this,c,t,by show(w.heap.push _)[w.heap.size]? =_;simp,hlen,fun k e he=>⟨(hk k e he).1,fun j x hx=> ?_⟩⟩
    obtain⟨h1,v,h2,h3⟩:=(hk k e he).2 j x hx
    exact⟨h1,v,h2,h3.mono (fun _ h=>h) (fun k hk=>dU k (h.fr k hk)) (.of_same dU)⟩
   ·rw[aL _ _ _ _ hg] at hb
    refine⟨h.own g b hb,(h.blk g b hb).mono (fun _ h=>h) (fun h0 hF=> ?_) (fun k hk=>dU k (h.fr k hk)) (.of_same dU) (fun h0=> ?_)⟩
    ·have hB:=h.blk g b hb
     unfold cA at hB
     rw[if_neg (by omega)] at hB
     exact hB.1 hF
    ·have hB:=h.blk g b hb
     unfold cA at hB
     rw[if_neg (by omega)] at hB
     obtain⟨_,c,t,h2,_⟩:=hB
     exact dU _ (Array.getElem?_eq_some_iff.1 h2).1
def splice :List V→Nat→List V→List V
 | l, _, [] => l
 | l, o, c :: cs => splice (l.set o c) (o + 1) cs
theorem jZ (cs:List V): ∀(l:List V) (o:Nat),(splice l o cs).length=l.length:=by
 induction cs with
 | nil => intro l o; rfl
 | cons c cs ih => intro l o; simp [splice, ih]
theorem wG (cs:List V): ∀(l:List V) (o:Nat),o+cs.length≤l.length→ ∀p,(splice l o cs)[p]? =if o≤p∧p<o+cs.length then cs[p - o]? else l[p]? :=by
 induction cs with
 | nil => intro l o _ p; rw [if_neg (by simp only [List.length_nil]; omega)]; rfl
 | cons c cs ih =>
   intro l o h p
   simp only[List.length_cons] at h
   rw[splice,ih _ _ (by simp;omega) p]
   by_cases hp:p=o
   ·subst hp
    rw[if_neg (by omega),if_pos (by simp),List.getElem?_set_self (by omega)]
    simp
   ·by_cases hq:o+1≤p∧p<o+1+cs.length
    ·rw[if_pos hq,if_pos (by simp;omega),show p - o=(p - (o+1))+1 from by omega,List.getElem?_cons_succ]
    ·rw[if_neg hq,if_neg (by simp;omega),List.getElem?_set_ne (by omega)]
theorem Sw {k k' sz j j':Nat} (hj:j<sz) (hj':j'<sz) (h:k≠k'):k*sz+j≠k'*sz+j':=by
 intro e
 rcases Nat.lt_or_gt_of_ne h with h1 | h1
 ·have:(k+1)*sz≤k'*sz:=Nat.mul_le_mul_right _ h1
  rw[Nat.add_mul] at this;omega
 ·have:(k'+1)*sz≤k*sz:=Nat.mul_le_mul_right _ h1
  rw[Nat.add_mul] at this;omega
theorem B0 {k n sz j:Nat} (hk:k<n) (hj:j<sz):k*sz+j<n*sz:=by
 have:(k+1)*sz≤n*sz:=Nat.mul_le_mul_right _ hk
 rw[Nat.add_mul] at this;omega
theorem Mem.store {P:Program} {w0:World} {M F:Nat→Prop} {bl:Int→Option Blk} {w:World} (h:Mem w0 M F bl w) {g:Int} {b:Blk} (hb:bl g=some b) {k j:Nat} {e cs:List V} (he:b.els[k]? =some e)
  (hj:j+cs.length≤b.sz) (gD: ∀x,x∈cs→x.one=true) {vs:List Value} (hvl:vs.length=cs.length) (hvr: ∀(i:Nat) (x:V),cs[i]? =some x→ ∃v,vs[i]? =some v∧Rep F w x v)
  (hvo: ∀v,v∈vs→v.oneCell'=true):
  ∃w',(storeCells ⟨g.toNat,k*b.sz+j,none⟩ vs).run P w= .ok () w'∧Mem w0 M F (upd bl g (some ⟨b.sz,b.els.set k (splice e j cs)⟩)) w'∧(∀k,F k→w'.heap[k]? =w.heap[k]?)∧dM w w':=by
 have hkl:k<b.els.length:=(List.getElem?_eq_some_iff.1 he).1
 obtain⟨hg0,hFg,c,t,hc,hlen,iL⟩:=(h.blk g b hb).at hkl
 have hel:=(iL k e he).1
 have hkk:(k+1)*b.sz≤b.els.length*b.sz:=Nat.mul_le_mul_right _ hkl
 rw[Nat.add_mul] at hkk
 obtain⟨w',c',jH,h1,h2,h3,h4,h5,h6,h7,h8⟩:=mV (P:=P) (b:=g.toNat) (t:=t) (o:=k*b.sz+j) vs w 0 c hc (by omega) hvo
 have hsh:dM w w':=fun bb cc tt ff hcc=>by
  by_cases hbb:bb=g.toNat
  ·subst hbb
   rw[hc] at hcc
   cases hcc
   exact⟨c',_,h6,h7⟩
  ·exact⟨cc,ff,by rw[h5 _ hbb];exact hcc,rfl⟩
 have hFs: ∀k,F k→w'.heap[k]? =w.heap[k]? :=fun k hk=>h5 k (fun e=>hFg (e▸hk))
 have bU: ∀ {x v},Rep F w x v→Rep F w' x v:=fun hr=>hr.mono (fun _ h=>h) hFs hsh
 refine⟨w',jH,?_,hFs,hsh⟩
 refine h.step h1 h2 h3 (by omega) hsh (fun k=>k=g.toNat) (fun k _ hk=>h5 k hk) (fun k hk=>hk▸h.own g b hb hg0) (fun k hk=>by rw[h4];exact h.fr k hk) ?_ fun g' b' hb'=> ?_
 ·obtain⟨n,hn⟩:=h.fin
  refine⟨min n 0,fun g' hg'=> ?_⟩
  rw[aL _ _ _ _ (by omega)]
  exact hn g' (by omega)
 ·by_cases hgg:g'=g
  ·subst hgg
   rw[bO] at hb'
   cases hb'
   refine⟨h.own g' b hb,?_⟩
   unfold cA
   rw[if_neg (by omega)]
   refine⟨hFg,c',t,h6,by simp;omega,fun k' e' he'=> ?_⟩
   simp only at he' ⊢
   by_cases hkk':k'=k
   ·subst hkk'
    rw[List.getElem?_set_self hkl] at he'
    cases he'
    refine⟨by rw[jZ];exact hel,fun j' x hx=> ?_⟩
    rw[wG _ _ _ (by omega)] at hx
    have aNN:j'<b.sz:=by
     by_cases hq:j≤j'∧j'<j+cs.length
     ·omega
     ·rw[if_neg hq] at hx;have:=(List.getElem?_eq_some_iff.1 hx).1;omega
    rw[h8]
    by_cases hq:j≤j'∧j'<j+cs.length
    ·rw[if_pos hq] at hx
     rw[if_pos (by omega)]
     obtain⟨v,hv,hr⟩:=hvr _ x hx
     exact⟨gD x (List.mem_of_getElem? hx),v,by rw[show k'*b.sz+j' - (k'*b.sz+j+0)=j' - j from by omega];exact hv,bU hr⟩
    ·rw[if_neg hq] at hx
     rw[if_neg (by omega)]
     obtain⟨ho,v,hv,hr⟩:=(iL k' e he).2 j' x hx
     exact⟨ho,v,hv,bU hr⟩
   ·rw[List.getElem?_set_ne (Ne.symm hkk')] at he'
    obtain⟨hl',hc'⟩:=iL k' e' he'
    refine⟨hl',fun j' x hx=> ?_⟩
    obtain⟨ho,v,hv,hr⟩:=hc' j' x hx
    refine⟨ho,v,?_,bU hr⟩
    rw[h8,if_neg,hv]
    intro hq
    have hj':j'<b.sz:=by have:=(List.getElem?_eq_some_iff.1 hx).1;omega
    exact Sw (j:=j') (j':=k'*b.sz+j' - k*b.sz) hj' (by omega) hkk' (by omega)
  ·rw[aL _ _ _ _ hgg] at hb'
   refine⟨h.own g' b' hb',(h.blk g' b' hb').mono (fun _ h=>h) (fun h0 hF=> ?_) hFs hsh (fun h0=>h5 _ (by omega))⟩
   have hB:=h.blk g' b' hb'
   unfold cA at hB
   rw[if_neg (by omega)] at hB
   exact hB.1 hF
theorem Rep.one {F:Nat→Prop} {w:World} {x:V} {v:Value} (h:Rep F w x v) (ho:x.one=true):v.oneCell'=true:=by
 cases h<;>first | rfl | (simp[V.one] at ho)
theorem Rep.cells {F:Nat→Prop} {w:World} {x:V} {v:Value} (h:Rep F w x v) (ho:x.cells.all V.one=true):
  v.cells.toList.length=x.cells.length∧(∀(i:Nat) (y:V),x.cells[i]? =some y→ ∃u,v.cells.toList[i]? =some u∧Rep F w y u)∧ ∀u,u∈v.cells.toList→u.oneCell'=true:=by
 have key: ∀(vs:List Value),vs.length=x.cells.length→(∀(i:Nat) (y:V),x.cells[i]? =some y→ ∃u,vs[i]? =some u∧Rep F w y u)→ ∀u,u∈vs→u.oneCell'=true:=by
  intro vs hl hr u hu
  obtain⟨i,hi⟩:=List.getElem?_of_mem hu
  have hlt:=(List.getElem?_eq_some_iff.1 hi).1
  obtain⟨u',h1,h2⟩:=hr i (x.cells[i]'(by omega)) (List.getElem?_eq_getElem (by omega))
  rw[hi] at h1;cases h1
  exact h2.one (List.all_eq_true.1 ho _ (List.getElem_mem _))
 have hx:=h
 cases h
 case agg cs arr hlen hr=>
  have h2: ∀(i:Nat) (y:V),(V.agg cs).cells[i]? =some y→ ∃u,(Value.agg arr).cells.toList[i]? =some u∧Rep F w y u:=by
   intro i y hy
   have hlt:i<arr.size:=by have:=(List.getElem?_eq_some_iff.1 hy).1;simp[V.cells] at this;omega
   refine⟨arr[i],by simp[Value.cells,hlt],?_⟩
   have:=hr i y hy
   simpa [hlt] using this
  exact⟨by simp[Value.cells,V.cells,hlen],h2,key _ (by simp[Value.cells,V.cells,hlen]) h2⟩
 all_goals
  first
  | (simp [V.cells, V.one] at ho; done)
  | (refine ⟨rfl, fun i y hy => ?_, key _ rfl fun i y hy => ?_⟩ <;>
     (have hi:i=0:=by have:=(List.getElem?_eq_some_iff.1 hy).1;simp[V.cells] at this;omega
      subst hi
      simp only[V.cells,List.getElem?_cons_zero,Option.some.injEq] at hy
      subst hy
      exact⟨_,rfl,hx⟩))

def aY {α:Type} (o:Option α) (k:α→Prop):Prop:= ∃x,o=some x∧k x
@[simp] theorem bP {α : Type} (x : α) (k : α → Prop) : aY (some x) k = k x := by simp [aY]
@[simp] theorem U1 {α : Type} (k : α → Prop) : aY none k = False := by simp [aY]
def slE (P:Program) (t:TypeId):Option TypeId:=match P.underlying t with | some (.slice e)=>some e | _=>none
def isStr (P:Program) (t:TypeId):Bool:=match P.underlying t with | some .string=>true | _=>false
def isInt (P:Program) (t:TypeId):Option IntKind:=match P.underlying t with | some (.int k)=>some k | _=>none
def isPtr (P:Program) (t:TypeId):Bool:=match P.underlying t with | some (.pointer _)=>true | _=>false
def aggT (P:Program) (t:TypeId):Option Bool:=match P.underlying t with | some (.struct _)=>some true | some (.array _ _)=>some true | some _=>some false | none=>none
def csz (P:Program) (t:TypeId):Option Nat:=match P.info? t with | some i=>some i.size | none=>none
def bsz (P:Program) (t:TypeId):Nat:=match P.info? t with | some i=>i.bytes | none=>0
def fPl (P:Program) (t:TypeId) (i:Nat):Option (Nat×Nat):=match P.underlying t with
 | some (.struct fs) => match fs[i]? with
   | some f=>match csz P f.type with | some n=>if n=0 then none else some (f.offset,n)| none=>none
   | none=>none
 | _ => none
def fTy (P:Program) (t:TypeId) (i:Nat):Option TypeId:=match P.underlying t with
 | some (.struct fs) => match fs[i]? with | some f => some f.type | none => none
 | _ => none
def okF (P:Program) (t:TypeId):Bool:=match P.underlying t with
 | some (.struct fs) => fs.toList.all fun f => (csz P f.type).isSome
 | _ => false
def zeroC (P:Program) (t:TypeId):Option (List V):=match P.info? t with
 | some i => match i.zero with
   | some z=>if(z.cells.toList.map ofCell).all V.one && (z.cells.toList.map ofCell).length==i.size then some (z.cells.toList.map ofCell) else none
   | none=>none
 | none => none
def rdP (bl:Int→Option Blk):V→Option (List V)
 | .ptr cs => some cs
 | .loc g sz k j => match bl g with
   | some b=>if b.sz=sz then match b.els[k]? with | some e=>some (e.drop j)| none=>none else none
   | none=>none
 | _ => none
def loadV (P:Program) (t:TypeId) (cs:List V):Option V:=match aggT P t,csz P t with
 | some true, some n => if n ≤ cs.length then some (.agg (cs.take n)) else none
 | some false, _ => cs.head?
 | _, _ => none
def pickV (t:Bool):V→V→V
 | .bool p, .bool q => .bool (if t then p else q)
 | x, y => if t then x else y
def intV (op:BinOp) (k:IntKind) (a b:Int):Option V:=match op with
 | .add => some (.int k (k.wrap (a + b)))
 | .sub => some (.int k (k.wrap (a - b)))
 | .mul => some (.int k (k.wrap (a * b)))
 | .quo => if b = 0 then none else some (.int k (k.wrap (a.tdiv b)))
 | .rem => if b = 0 then none else some (.int k (a.tmod b))
 | .and => some (.int k (k.wrap ((BitVec.ofInt k.bits a &&& BitVec.ofInt k.bits b).toNat)))
 | .or => some (.int k (k.wrap ((BitVec.ofInt k.bits a ||| BitVec.ofInt k.bits b).toNat)))
 | .xor => some (.int k (k.wrap ((BitVec.ofInt k.bits a ^^^ BitVec.ofInt k.bits b).toNat)))
 | .eql => some (.bool (a == b))
 | .neq => some (.bool (a != b))
 | .lss => some (.bool (decide (a < b)))
 | .leq => some (.bool (decide (a ≤ b)))
 | .gtr => some (.bool (decide (a > b)))
 | .geq => some (.bool (decide (a ≥ b)))
 | _ => none
def eqField (P : Program) (f : Field) : Option (Nat × Nat) := if f.name == "_" then none else match P.underlying f.type with
 | some .bool => some (f.offset, 0)
 | some (.int _) => some (f.offset, 1)
 | some .string => some (f.offset, 2)
 | _ => none
def Jd (P:Program) (t:TypeId):Option (List (Nat×Nat)):=match P.underlying t with
 | some (.struct fs) => if !P.stoodInHeld t && !P.eqGuardType P.depth t then fs.toList.mapM (eqField P) else none
 | _ => none
def eq1 :Nat→V→V→Option Bool
 | 0, .bool p, .bool q => some (p == q)
 | 1, .int k a, .int k' b => if k = k' then some (a == b) else none
 | 2, .str a, .str b => some (a.toList == b.toList)
 | _, _, _ => none
def eqV :List (Nat×Nat)→List V→List V→Option Bool
 | [], _, _ => some true
 | (o, k) :: r, a, b => match a[o]?, b[o]?, eqV r a b with
   | some x,some y,some s=>match eq1 k x y with | some q=>some (q && s)| none=>none
   | _,_,_=>none
def eqA (P:Program) (t:TypeId) (a b:List V):Option Bool:=match Jd P t with | some l=>eqV l a b | none=>none
def binV (P:Program) (op:BinOp) (t:TypeId):V→V→Option V
 | .int k a, .int k' b => match op with
   | .shl=>if b<0 then none else some (.int k (k.wrap (a*2^(min b.toNat k.bits))))
   | .shr=>if b<0 then none else some (.int k (a.fdiv (2^(min b.toNat k.bits))))
   | op=>if k=k' then intV op k a b else none
 | .bool a, .bool b => match op, P.underlying t with
   | .eql,some .bool=>some (.bool (a==b))
   | .neq,some .bool=>some (.bool (a !=b))
   | _,_=>none
 | .str a, .str b => match op with
   | .eql=>some (.bool (a.toList==b.toList))
   | .neq=>some (.bool (!(a.toList==b.toList)))
   | .add=>if((a.size+b.size:Nat):Int)>IntKind.i64.max then none else some (.str (a++b))
   | _=>none
 | .agg a, .agg b => match op, eqA P t a b with | .eql, some r => some (.bool r) | .neq, some r => some (.bool !r) | _, _ => none
 | .nilp, .nilp => match op, isPtr P t with | .eql, true => some (.bool true) | .neq, true => some (.bool false) | _, _ => none
 | .nilp, .ptr _ => match op, isPtr P t with | .eql, true => some (.bool false) | .neq, true => some (.bool true) | _, _ => none
 | .ptr _, .nilp => match op, isPtr P t with | .eql, true => some (.bool false) | .neq, true => some (.bool true) | _, _ => none
 | .loc _ _ _ _, .nilp => match op, isPtr P t with | .eql, true => some (.bool false) | .neq, true => some (.bool true) | _, _ => none
 | .nils, .nils => match op, slE P t with | .eql, some _ => some (.bool true) | .neq, some _ => some (.bool false) | _, _ => none
 | .sle, .nils => match op, slE P t with | .eql, some _ => some (.bool false) | .neq, some _ => some (.bool true) | _, _ => none
 | .sl (_ :: _), .nils => match op, slE P t with | .eql, some _ => some (.bool false) | .neq, some _ => some (.bool true) | _, _ => none
 | .lsl g _ _ _, .nils => match op, slE P t with | .eql, some _ => some (.bool (decide (g < 0))) | .neq, some _ => some (.bool (!decide (g < 0))) | _, _ => none
 | _, _ => none
def unV (op:UnOp):V→Option V
 | .int k n => match op with | .neg => some (.int k (k.wrap (0 - n))) | _ => none
 | .bool b => match op with | .not => some (.bool !b) | _ => none
 | _ => none
def lenV (P:Program) (t:TypeId):V→Option V
 | .sl xs => match slE P t with | some _ => some (.int .i64 xs.length) | none => none
 | .lsl _ _ _ n => match slE P t with | some _ => some (.int .i64 n) | none => none
 | .nils => match slE P t with | some _ => some (.int .i64 0) | none => none
 | .sle => match slE P t with | some _ => some (.int .i64 0) | none => none
 | .str s => if isStr P t then some (.int .i64 s.size) else none
 | _ => none
def minV :V→V→Option V
 | .int k x, .int _ y => some (.int k (if y < x then y else x))
 | _, _ => none
def Q1 :V→Option V
 | .ptr cs => some (.ptr cs)
 | .loc g sz k j => some (.loc g sz k j)
 | _ => none
def fldV (P:Program) (t:TypeId) (i:Nat):V→Option V
 | .ptr cs => match fPl P t i with | some (o, _) => some (.ptr (cs.drop o)) | none => none
 | .loc g sz k j => match fPl P t i with | some (o, _) => some (.loc g sz k (j + o)) | none => none
 | _ => none
def idxV (P:Program) (t:TypeId):V→V→Option V
 | .sl xs, .int _ n => match slE P t with
   | some e=>if 0≤n then match xs[n.toNat]? with
      | some c=>if csz P e=some c.length then some (.ptr c) else none
      | none=>none else none
   | none=>none
 | .lsl g sz o m, .int _ n => match slE P t with
   | some e=>if 0≤n∧n<m∧csz P e=some sz then some (.loc g sz (o+n.toNat) 0) else none
   | none=>none
 | _, _ => none
def idsV (P:Program) (t:TypeId):V→V→Option V
 | .str s, .int _ n => if isStr P t then (if 0 ≤ n then match s[n.toNat]? with | some b => some (.int .u8 b.toNat) | none => none else none) else none
 | _, _ => none
def zM (P:Program) (t:TypeId) (cs:List V) (o:Nat):Option V:=match aggT P t,csz P t with
 | some true, some n => if o + n ≤ cs.length then some (.agg ((cs.drop o).take n)) else none
 | some false, _ => cs[o]?
 | _, _ => none
def fieldV (P:Program) (t:TypeId) (i:Nat):V→Option V
 | .agg cs => match fPl P t i, fTy P t i with | some (o, _), some ft => zM P ft cs o | _, _ => none
 | _ => none
def extV (i:Nat):V→Option V
 | .tup vs => vs[i]?
 | _ => none
def sliV (P:Program) (t:TypeId) (x:V) (lo hi:Option V):Option V:=match x with
 | .sl xs => match slE P t with
   | some e=>if xs.all (fun c=>csz P e==some c.length)&& (csz P e).isSome then
     match (match lo with | none=>some 0 | some (.int _ n)=>some n | _=>none),(match hi with | none=>some (xs.length:Int)| some (.int _ n)=>some n | _=>none) with
     | some l,some h=>if 0≤l∧l≤h∧h≤xs.length then some (.sl ((xs.take h.toNat).drop l.toNat)) else none
     | _,_=>none
     else none
   | none=>none
 | .lsl g sz o m => match slE P t with
   | some e=>
     match (match lo with | none=>some 0 | some (.int _ n)=>some n | _=>none),(match hi with | none=>some (m:Int)| some (.int _ n)=>some n | _=>none) with
     | some l,some h=>if 0≤g∧0≤l∧l≤h∧h≤m∧csz P e=some sz then(if l=0 then some (.lsl g sz o h.toNat) else if l=h then some (.sl []) else some (.lsl g sz (o+l.toNat) (h.toNat - l.toNat))) else none
     | _,_=>none
   | none=>none
 | .str s => if isStr P t then
    match (match lo with | none=>some 0 | some (.int _ n)=>some n | _=>none),(match hi with | none=>some (s.size:Int)| some (.int _ n)=>some n | _=>none) with
    | some l,some h=>if 0≤l∧l≤h∧h≤s.size then some (.str (s.extract l.toNat h.toNat)) else none
    | _,_=>none
   else none
 | _ => none
def fillV (pl:Nat→Option (Nat×Nat)):List V→List (Nat×V)→Option (List V)
 | cs, [] => some cs
 | cs, (i, v) :: rest => match pl i with
   | some (o,n)=>if v.cells.length=n∧o+n≤cs.length∧v.cells.all V.one=true then fillV pl (splice cs o v.cells) rest else none
   | none=>none
structure Te (P : Program) (f : FuncId) : Prop where
 out : ∃ fn, P.funcs[f]? = some fn ∧ (fn.name == "runtime.NumGoroutine") = false ∧ fn.body.isNone = false
def Mr (F:Nat→Prop) (w:World) (xs:List V) (vs:Array Value):Prop:=vs.size=xs.length∧ ∀i x,xs[i]? =some x→Rep F w x (vs.getD i undef)
def bJ (P:Program) (f:FuncId) (xs:List V) (bl:Int→Option Blk) (k:V→(Int→Option Blk)→Prop):Prop:=
 Te P f∧ ∀w0 M F w vs,Mem w0 M F bl w→Mr F w xs vs→Calls P f vs w fun e w'=> ∃v r bl' F',e= .returned v∧(∀b,F b→F' b)∧(∀b,F b→w'.heap[b]? =w.heap[b]?)∧dM w w'∧
  Mem w0 M F' bl' w'∧Rep F' w' r v∧k r bl'
def callV (σ:St) (f:Operand) (args:List Operand):Option (FuncId×List V):=match σ.ev f with
 | .fn g cap => some (g, args.map σ.ev ++ cap)
 | _ => none
def elsV (bl:Int→Option Blk) (sz:Nat):V→Option (List (List V))
 | .nils => some []
 | .sle => some []
 | .sl xs => if xs.all (fun c => c.length == sz && c.all V.one) then some xs else none
 | .lsl g s o n => if g < 0 then some [] else match bl g with
   | some b=>if b.sz=s∧s=sz∧o+n≤b.els.length then some ((b.els.drop o).take n) else none
   | none=>none
 | _ => none
def bytesOf :List (List V)→Option (List Int)
 | [] => some []
 | [.int .u8 n] :: r => match bytesOf r with | some ns => some (n :: ns) | none => none
 | _ :: _ => none
def uN (ns:List Int):ByteArray:=ns.foldl (fun r n=>r.push (UInt8.ofNat n.toNat)) ByteArray.empty
def cvtS (P:Program) (bl:Int→Option Blk) (src dst:TypeId) (x:V):Option V:=match slE P src,isStr P dst with
 | some e, true => match isInt P e, elsV bl 1 x with
   | some .u8,some els=>match bytesOf els with | some ns=>some (.str (uN ns))| none=>none
   | _,_=>none
 | _, _ => none
def cvtV (P:Program) (bl:Int→Option Blk) (src dst:TypeId):V→Option V
 | .int _ n => match isInt P dst, P.underlying src with | some k, some _ => some (.int k (k.wrap n)) | _, _ => none
 | x => cvtS P bl src dst x
def rem (f:Int→Option Blk) (g:Int):Int→Option Blk:=fun x=>if x=g then none else f x
def appV (P:Program) (t tx:TypeId) (bl:Int→Option Blk) (s x:V):Option ((Int→Option Blk)×Nat×List (List V)):=match slE P t,decide (t=tx) with
 | some e, true => match csz P e, elsV bl ((csz P e).getD 0) x with
   | some sz,some ys=>match s with
     | .nils=>some (bl,sz,ys)
     | .lsl g s o n=>match bl g with
       | some b=>if o=0∧b.sz=s∧s=sz∧n≤b.els.length then some (rem bl g,sz,b.els.take n++ys) else none
       | none=>none
     | _=>none
   | _,_=>none
 | _, _ => none
def onB (x:V) (k:Bool→Prop):Prop:=match x with | .bool q=>k q | _=>False
@[simp] theorem L3 (q : Bool) (k : Bool → Prop) : onB (.bool q) k = k q := rfl
theorem kK {x:V} {k:Bool→Prop} (h:onB x k): ∃q,x= .bool q∧k q:=by
 unfold onB at h;split at h
 ·exact⟨_,rfl,h⟩
 ·exact h.elim
def mapT (P:Program) (t:TypeId):Bool:=match P.underlying t with
 | some (.map k e) => (match P.underlying k with | some (.int .i64) => true | _ => false) && (match P.info? e with | some i => (match i.zero with | some (.int .i64 0) => true | _ => false) | none => false)
 | _ => false
def mfind (es:List (Int×Int)) (n:Int):Option Int:=match es with
 | [] => none
 | p :: r => if n = p.1 then some p.2 else mfind r n
def lkV (P:Program) (t:TypeId) (x i:V) (co:Bool):Option V:=match x,i with
 | .mpf es, .int .i64 n => if mapT P t = true then some (if co = true then .tup [.int .i64 ((mfind es n).getD 0), .bool (mfind es n).isSome] else .int .i64 ((mfind es n).getD 0)) else none
 | _, _ => none
def T (P:Program) (o:Oper) (K:St→Prop) (σ:St):Prop:=match o.op with
 | .move x => K (σ.put o.dst (σ.ev x))
 | .assign x => K (σ.put o.dst (σ.ev x))
 | .pick c a b => onB (σ.ev c) fun t => K (σ.put o.dst (pickV t (σ.ev a) (σ.ev b)))
 | .alloc t => aY (zeroC P t) fun cs => ∀ g : Int, 0 ≤ g → σ.bl g = none → K (({ σ with bl := upd σ.bl g (some ⟨cs.length, [cs]⟩) } : St).put o.dst (.loc g cs.length 0 0))
 | .box _ x => (σ.ev x).cells.all V.one = true ∧ ∀ g : Int, 0 ≤ g → σ.bl g = none → K (({ σ with bl := upd σ.bl g (some ⟨(σ.ev x).cells.length, [(σ.ev x).cells]⟩) } : St).put o.dst (.loc g (σ.ev x).cells.length 0 0))
 | .build t ps => aY (zeroC P t) fun cs => okF P t = true ∧ aY (fillV (fPl P t) cs (ps.toList.map fun p => (p.1, σ.ev p.2))) fun r => K (σ.put o.dst (.agg r))
 | .buildSlice t n ps => aY (slE P t) fun e => aY (zeroC P e) fun cs => 1 ≤ cs.length ∧ n * cs.length ≤ 16777216 ∧
    aY (fillV (fun i=>some (i*cs.length,cs.length)) (List.replicate n cs).flatten (ps.toList.map fun p=>(p.1,σ.ev p.2))) fun r=>
    ∀g:Int,0≤g→σ.bl g=none→K (({ σ with bl:=upd σ.bl g (some ⟨cs.length,(List.range n).map fun i=>(r.drop (i*cs.length)).take cs.length⟩) } :St).put o.dst (.lsl g cs.length 0 n))
 | .load t x => aY (rdP σ.bl (σ.ev x)) fun cs => aY (loadV P t cs) fun v => K (σ.put o.dst v)
 | .store t x y => match σ.ev x with
   | .loc g sz k j=>aY (σ.bl g) fun b=>aY (b.els[k]?) fun e=>b.sz=sz∧csz P t=some (σ.ev y).cells.length∧j+(σ.ev y).cells.length≤sz∧(σ.ev y).cells.all V.one=true∧
      K (({ σ with bl:=upd σ.bl g (some ⟨sz,b.els.set k (splice e j (σ.ev y).cells)⟩) } :St).put o.dst .junk)
   | _=>False
 | .nilCheck x => aY (Q1 (σ.ev x)) fun v => K (σ.put o.dst v)
 | .binOp op t x y _ => aY (binV P op t (σ.ev x) (σ.ev y)) fun v => K (σ.put o.dst v)
 | .unOp op _ x => aY (unV op (σ.ev x)) fun v => K (σ.put o.dst v)
 | .convert s d x => aY (cvtV P σ.bl s d (σ.ev x)) fun v => K (σ.put o.dst v)
 | .makeFunc f first cap => match f with
   | .func f=>first= #[]∧K (σ.put o.dst (.fn f (cap.toList.map σ.ev)))
   | _=>False
 | .makeSlice t l c => aY (slE P t) fun e => aY (zeroC P e) fun cs => ∃ n : Nat, σ.ev l = .int .i64 n ∧ σ.ev c = .int .i64 n ∧ bsz P e * n ≤ 281474976710656 ∧ n ≤ maxLen ∧
    ∀g:Int,0≤g→σ.bl g=none→K (({ σ with bl:=upd σ.bl g (some ⟨cs.length,List.replicate n cs⟩) } :St).put o.dst (.lsl g cs.length 0 n))
 | .slice t x lo hi mx => match mx with
   | none=>aY (sliV P t (σ.ev x) (lo.map σ.ev) (hi.map σ.ev)) fun v=>K (σ.put o.dst v)
   | some _=>False
 | .fieldAddr t x i => aY (fldV P t i (σ.ev x)) fun v => K (σ.put o.dst v)
 | .field t x i => aY (fieldV P t i (σ.ev x)) fun v => K (σ.put o.dst v)
 | .indexAddr t x i => aY (idxV P t (σ.ev x) (σ.ev i)) fun v => K (σ.put o.dst v)
 | .index t x i => aY (idsV P t (σ.ev x) (σ.ev i)) fun v => K (σ.put o.dst v)
 | .extract x i => aY (extV i (σ.ev x)) fun v => K (σ.put o.dst v)
 | .lookup t x i co => aY (lkV P t (σ.ev x) (σ.ev i) co) fun v => K (σ.put o.dst v)
 | .call c => match c.callee with
   | .value f=>aY (callV σ f c.args.toList) fun p=>bJ P p.1 p.2 σ.bl fun v bl'=>K (({ σ with bl:=bl' } :St).put o.dst v)
   | .builtin .len=>aY (lenV P (c.argTypes.getD 0 0) (σ.ev (c.args.getD 0 (.const undef)))) fun v=>c.args.size=1∧c.argTypes.size=1∧K (σ.put o.dst v)
   | .builtin .min=>aY (minV (σ.ev (c.args.getD 0 (.const undef))) (σ.ev (c.args.getD 1 (.const undef)))) fun v=>c.args.size=2∧K (σ.put o.dst v)
   | .builtin .append=>aY (appV P (c.argTypes.getD 0 0) (c.argTypes.getD 1 0) σ.bl (σ.ev (c.args.getD 0 (.const undef))) (σ.ev (c.args.getD 1 (.const undef)))) fun p=>
      c.args.size=2∧c.argTypes.size=2∧(slE P (c.argTypes.getD 0 0)).elim False (fun e=>p.2.2.length*bsz P e≤140737488355328∧1≤bsz P e∧ ∃z,zeroC P e=some z∧1≤z.length)∧
      ∀g:Int,(0≤g∨p.2.2= [])→p.1 g=none→K (({ σ with bl:=upd p.1 g (some ⟨p.2.1,p.2.2⟩) } :St).put o.dst (.lsl g p.2.1 0 p.2.2.length))
   | _=>False
 | _ => False

section types
variable {P : Program} {w : World} {t : TypeId}
theorem bN {e:TypeId} (h:slE P t=some e):P.underlying t=some (.slice e):=by
 unfold slE at h;split at h<;>simp_all
theorem kR (h:isStr P t=true):P.underlying t=some .string:=by
 unfold isStr at h;split at h<;>simp_all
theorem uX {k:IntKind} (h:isInt P t=some k):P.underlying t=some (.int k):=by
 unfold isInt at h;split at h<;>simp_all
theorem lD (h:isPtr P t=true): ∃e,P.underlying t=some (.pointer e):=by
 unfold isPtr at h;split at h<;>simp_all
theorem run_underlying {d:TypeDesc} (h:P.underlying t=some d):(underlying t).run P w= .ok d w:=by simp[underlying,h]
theorem run_sizeOf {n:Nat} (h:csz P t=some n):(sizeOf t).run P w= .ok n w:=by
 unfold csz at h;split at h
 ·rename_i i hi;simp at h;simp[sizeOf,typeInfo,hi,h]
 ·cases h
theorem oE {b:Bool} (h:aggT P t=some b):(isAgg t).run P w= .ok b w:=by
 unfold aggT at h
 split at h<;>simp at h<;>subst h<;>simp[isAgg,underlying, *]
theorem iF {cs:List V} (h:zeroC P t=some cs): ∃i z,P.info? t=some i∧i.zero=some z∧cs=z.cells.toList.map ofCell∧cs.all V.one=true∧cs.length=i.size:=by
 unfold zeroC at h
 split at h
 ·rename_i i hi
  split at h
  ·rename_i z hz
   split at h
   ·rename_i hc
    simp only[Option.some.injEq] at h
    subst h
    simp only[Bool.and_eq_true,beq_iff_eq] at hc
    exact⟨i,z,hi,hz,rfl,hc.1,hc.2⟩
   ·cases h
  ·cases h
 ·cases h
theorem fS {i:TypeInfo} {z:Value} (hi:P.info? t=some i) (hz:i.zero=some z):(zeroValue t).run P w= .ok z w:=by simp[zeroValue,typeInfo,hi,hz]
theorem kN {e:TypeId} {cs:Array Value} :(newRow e cs).run P w= .ok ⟨w.heap.size,0,none⟩ (w.alloc (.cells cs e)):=rfl
end types
def Nx (w0:World) (M F:Nat→Prop) (K:St→Prop):Act→World→Prop:=fun a' w'=> ∃σ' F',(∀b,F b→F' b)∧Sim w0 M F' σ' a' w'∧K σ'
theorem aW {P:Program} {o:Oper} {a:Act} {w w':World} {v:Value} {next:Act→World→Prop} {Q:Exit→Act→World→Prop} (hr:(execOp a.eval o).run P w= .ok (.value v) w')
  (h:next (a.put o.dst v) w'):o.wp P a w next Q:=by
 unfold Oper.wp;rw[hr];exact h
theorem Ha {P:Program} {o:Oper} {a:Act} {w w':World} {next:Act→World→Prop} {Q:Exit→Act→World→Prop} (hr:(execOp a.eval o).run P w= .ok .skip w')
  (h:next (a.put o.dst undef) w'):o.wp P a w next Q:=by
 unfold Oper.wp;rw[hr];exact h
section
variable {P : Program} {K : St → Prop} {σ : St} {w0 : World} {M F : Nat → Prop} {a : Act} {w : World}
theorem dO (hs:Sim w0 M F σ a w) {d:Option Nat} {x:V} {v:Value} (hv:Rep F w x v) (hK:K (σ.put d x)):Nx w0 M F K (a.put d v) w:=
 ⟨_,F,fun _ h=>h,hs.put hv,hK⟩
theorem sE {w:World} {cs:List V} {z:Value} (hz:cs=z.cells.toList.map ofCell) (i:Nat) (x:V) (hx:cs[i]? =some x): ∃v,z.cells.toList[i]? =some v∧Rep F w x v:=by
 subst hz
 rw[List.getElem?_map] at hx
 rcases h:z.cells.toList[i]? with _ | y
 ·rw[h] at hx;cases hx
 ·rw[h] at hx;cases hx
  exact⟨y,rfl,lA _ _ _⟩
theorem Fl (hs:Sim w0 M F σ a w) {d:Option Nat} (c:Array Value) (t:TypeId) (cs:List V) (gD:cs.all V.one=true) (hlen:c.size=cs.length)
  (hr: ∀(j:Nat) (x:V),cs[j]? =some x→ ∃v,c[j]? =some v∧Rep F w x v)
  (hK: ∀g:Int,0≤g→σ.bl g=none→K (({ σ with bl:=upd σ.bl g (some ⟨cs.length,[cs]⟩) } :St).put d (.loc g cs.length 0 0))):
  Nx w0 M F K (a.put d (.pointer (some ⟨w.heap.size,0,none⟩))) (w.alloc (.cells c t)):=by
 obtain⟨hn,hm⟩:=hs.mem.alloc c t cs.length [cs] (by simp[hlen]) (fun k e he=>by
  have hk:k=0:=by have:=(List.getElem?_eq_some_iff.1 he).1;simp at this;omega
  subst hk
  simp at he
  subst he
  refine⟨rfl,fun j x hx=>⟨List.all_eq_true.1 gD _ (List.mem_of_getElem? hx),?_⟩⟩
  obtain⟨v,h1,h2⟩:=hr j x hx
  exact⟨v,by simpa using h1,h2⟩)
 have dU: ∀k,k<w.heap.size→(w.alloc (.cells c t)).heap[k]? =w.heap[k]? :=fun k hk=>Below.heap_alloc _ _ _ hk
 have hs':Sim w0 M F ({ σ with bl:=upd σ.bl (w.heap.size:Int) (some ⟨cs.length,[cs]⟩) } :St) a (w.alloc (.cells c t)):=
  ⟨hm,hs.size,fun t ht=>(hs.sl t ht).mono (fun _ h=>h) (fun k hk=>dU k (hs.mem.fr k hk)) (.of_same dU),hs.defers⟩
 refine⟨_,F,fun _ h=>h,hs'.put ?_,hK _ (by omega) hn⟩
 have:=Rep.loc (F:=F) (w:=w.alloc (.cells c t)) (w.heap.size:Int) cs.length 0 0
 simpa using this
theorem N3 {o:Oper} {t:TypeId} (ho:o.op= .alloc t) (hT:T P o K σ) (hs:Sim w0 M F σ a w) {Q:Exit→Act→World→Prop} :o.wp P a w (Nx w0 M F K) Q:=by
 unfold T at hT;rw[ho] at hT
 obtain⟨cs,hz,hK⟩:=hT
 obtain⟨i,z,hi,hzz,hcs,gD,hlen⟩:=iF hz
 refine aW (v:= .pointer (some ⟨w.heap.size,0,none⟩)) (w':=w.alloc (.cells z.cells t)) ?_ (Fl hs z.cells t cs gD (by rw[hcs];simp) (fun j x hx=> ?_) hK)
 ·simp only[execOp,ho,Instr.alloc,Sem.run_bind,fS hi hzz,Result.andThen_ok,newVar,kN,Sem.run_pure]
 ·obtain⟨v,h1,h2⟩:=sE (F:=F) (w:=w) hcs j x hx
  exact⟨v,by simpa using h1,h2⟩
theorem Dr {o:Oper} {t:TypeId} {x:Operand} (ho:o.op= .box t x) (hT:T P o K σ) (hs:Sim w0 M F σ a w) {Q:Exit→Act→World→Prop} :o.wp P a w (Nx w0 M F K) Q:=by
 unfold T at hT;rw[ho] at hT
 obtain⟨gD,hK⟩:=hT
 obtain⟨h1,h2,h3⟩:=(hs.ev x).cells gD
 refine aW (v:= .pointer (some ⟨w.heap.size,0,none⟩)) (w':=w.alloc (.cells (a.eval x).cells t)) ?_ (Fl hs _ t _ gD (by simpa using h1) (fun j y hy=> ?_) hK)
 ·simp only[execOp,ho,Instr.box,Sem.run_bind,newVar,kN,Result.andThen_ok,Sem.run_pure]
 ·obtain⟨u,h4,h5⟩:=h2 j y hy
  exact⟨u,by simpa using h4,h5⟩
theorem gH {t:TypeId} {b o:Nat} {cs:List V} {v:V} (u:Nat→Value) (hc: ∀i x,cs[i]? =some x→w.cell? ⟨b,o+i,none⟩=some (u i)∧Rep F w x (u i)) (hv:loadV P t cs=some v):
  ∃r,(loadVar t ⟨b,o,none⟩).run P w= .ok r w∧Rep F w v r:=by
 unfold loadV at hv
 split at hv
 ·rename_i n ha hn
  split at hv
  ·rename_i hle
   simp only[Option.some.injEq] at hv
   subst hv
   have Vp: ∀j,j<n→w.cell? ⟨b,o+(0+j),none⟩=some (u (0+j)):=fun j hj=>by
    have:=(hc j (cs[j]'(by omega)) (List.getElem?_eq_getElem (by omega))).1
    simpa using this
   refine⟨.agg ((List.range n).map fun j=>u (0+j)).toArray,?_,.agg _ _ (by simp;omega) fun i x hx=> ?_⟩
   ·simp only[loadVar,Sem.run_bind,oE ha,Result.andThen_ok,if_true,run_sizeOf hn,loadCells,run_loadCellsFrom u n 0 #[] Vp,Sem.run_pure]
    simp
   ·have hi:i<n:=by have:=(List.getElem?_eq_some_iff.1 hx).1;simp at this;omega
    have hx':cs[i]? =some x:=by rw[List.getElem?_take_of_lt hi] at hx;exact hx
    have:=(hc i x hx').2
    simpa [hi] using this
  ·cases hv
 ·rename_i ha
  have h0:cs[0]? =some v:=by rw[←hv];cases cs<;>rfl
  obtain⟨h1,h2⟩:=hc 0 v h0
  refine⟨u 0,?_,h2⟩
  simp only[loadVar,Sem.run_bind,oE ha,Result.andThen_ok]
  exact oS h1
 ·cases hv
theorem yR (hm:Mem w0 M F σ.bl w) {x:V} {v:Value} (hv:Rep F w x v) {cs:List V} (h:rdP σ.bl x=some cs):
  cs= []∨ ∃(b o:Nat) (u:Nat→Value),v= .pointer (some ⟨b,o,none⟩)∧ ∀i y,cs[i]? =some y→w.cell? ⟨b,o+i,none⟩=some (u i)∧Rep F w y (u i):=by
 cases hv<;>simp only[rdP] at h<;>try (cases h;done)
 case ptr b o cs' u hF hc hr=>
  cases h
  exact .inr ⟨b,o,u,rfl,fun i y hy=>⟨hc i y hy,hr i y hy⟩⟩
 case loc g sz k j=>
  split at h
  ·rename_i b hb
   split at h
   ·rename_i hsz
    split at h
    ·rename_i e he
     simp only[Option.some.injEq] at h
     subst h hsz
     have hkl:=(List.getElem?_eq_some_iff.1 he).1
     obtain⟨hg0,hFg,c,t,hc,hlen,iL⟩:=(hm.blk g b hb).at hkl
     refine .inr ⟨g.toNat,k*b.sz+j,fun i=>c.getD (k*b.sz+j+i) undef,rfl,fun i y hy=> ?_⟩
     rw[List.getElem?_drop] at hy
     obtain⟨_,v,hv,hr⟩:=(iL k e he).2 (j+i) y hy
     rw[fM hc]
     have hv':c[k*b.sz+j+i]? =some v:=by rw[Nat.add_assoc];exact hv
     have:c.getD (k*b.sz+j+i) undef=v:=by simp[Array.getD_eq_getD_getElem?,hv']
     refine⟨?_,?_⟩
     ·show c[k*b.sz+j+i]? =some (c.getD (k*b.sz+j+i) undef)
      rw[hv',this]
     ·show Rep F w y (c.getD (k*b.sz+j+i) undef)
      rw[this];exact hr
    ·cases h
   ·cases h
  ·cases h
theorem S3 {o:Oper} {t:TypeId} {x:Operand} (ho:o.op= .load t x) (hT:T P o K σ) (hs:Sim w0 M F σ a w) {Q:Exit→Act→World→Prop} :o.wp P a w (Nx w0 M F K) Q:=by
 unfold T at hT;rw[ho] at hT
 obtain⟨cs,hcs,v,hv,hK⟩:=hT
 have hx:=hs.ev x
 rcases yR hs.mem hx hcs with rfl | ⟨b,off,u,he,hc⟩
 ·
  cases hxe:σ.ev x with
  | ptr cs' =>
    rw[hxe] at hcs hx
    generalize hav:a.eval x=av at hx
    cases hx
    rename_i b off u hF hc hr
    obtain⟨r,jH,bU⟩:=gH (F:=F) (w:=w) (P:=P) (b:=b) (o:=off) (cs:= []) u (fun i y hy=>by cases hy) hv
    refine aW (v:=r) (w':=w) ?_ (dO hs bU hK)
    simp only[execOp,ho,hav,Instr.loadAt,Instr.sureAddr,Sem.run_bind,Sem.run_pure,Result.andThen_ok,jH]
  | loc g sz k j =>
    rw[hxe] at hcs hx
    generalize hav:a.eval x=av at hx
    cases hx
    obtain⟨r,jH,bU⟩:=gH (F:=F) (w:=w) (P:=P) (b:=g.toNat) (o:=k*sz+j) (cs:= []) (fun _=>undef) (fun i y hy=>by cases hy) hv
    refine aW (v:=r) (w':=w) ?_ (dO hs bU hK)
    simp only[execOp,ho,hav,Instr.loadAt,Instr.sureAddr,Sem.run_bind,Sem.run_pure,Result.andThen_ok,jH]
  | _ => rw [hxe] at hcs; cases hcs
 ·obtain⟨r,jH,bU⟩:=gH (P:=P) u hc hv
  refine aW (v:=r) (w':=w) ?_ (dO hs bU hK)
  simp only[execOp,ho,he,Instr.loadAt,Instr.sureAddr,Sem.run_bind,Sem.run_pure,Result.andThen_ok,jH]
theorem P4 {o:Oper} {t:TypeId} {x y:Operand} (ho:o.op= .store t x y) (hT:T P o K σ) (hs:Sim w0 M F σ a w) {Q:Exit→Act→World→Prop} :o.wp P a w (Nx w0 M F K) Q:=by
 unfold T at hT;rw[ho] at hT
 simp only at hT
 split at hT
 ·rename_i g sz k j hxe
  obtain⟨b,hb,e,he,hsz,hcz,hj,gD,hK⟩:=hT
  subst hsz
  have hx:=hs.ev x
  rw[hxe] at hx
  generalize hav:a.eval x=av at hx
  cases hx
  obtain⟨h1,h2,h3⟩:=(hs.ev y).cells gD
  obtain⟨w',jH,hm,hFs,hsh⟩:=hs.mem.store (P:=P) hb he hj (fun z hz=>List.all_eq_true.1 gD z hz) h1 h2 h3
  have hs':Sim w0 M F ({ σ with bl:=upd σ.bl g (some ⟨b.sz,b.els.set k (splice e j (σ.ev y).cells)⟩) } :St) a w':=⟨hm,hs.size,fun t ht=>(hs.sl t ht).mono (fun _ h=>h) hFs hsh,hs.defers⟩
  refine Ha (w':=w') ?_ ⟨_,F,fun _ h=>h,hs'.put (v:=undef) (.junk _),hK⟩
  have K7:(a.eval y).cells.size=(σ.ev y).cells.length:=by simpa using h1
  simp only[execOp,ho,hav,Instr.storeAt,Instr.sureAddr,storeVar,Sem.run_bind,Sem.run_pure,Result.andThen_ok,run_sizeOf hcz,K7,ne_eq,not_true,if_false,jH]
 ·exact hT.elim
theorem Az {x:V} {v:Value} (h:Rep F w x v) {k:IntKind} {n:Int} (hx:x= .int k n):v= .int k n:=by subst hx;cases h;rfl
theorem xH {x:V} {v:Value} (h:Rep F w x v) {b:Bool} (hx:x= .bool b):v= .bool b:=by subst hx;cases h;rfl
theorem Gm {t:Bool} {x y:V} {u v:Value} (hx:t=true→Rep F w x u) (hy:t=false→Rep F w y v):Rep F w (pickV t x y) (if t then u else v):=by
 unfold pickV
 split
 ·cases t
  ·have:=hy rfl;cases this;exact .bool _
  ·have:=hx rfl;cases this;exact .bool _
 ·cases t
  ·exact hy rfl
  ·exact hx rfl
theorem U6 {o:Oper} {c x y:Operand} (ho:o.op= .pick c x y) (hT:T P o K σ) (hs:Sim w0 M F σ a w) {Q:Exit→Act→World→Prop} :o.wp P a w (Nx w0 M F K) Q:=by
 unfold T at hT;rw[ho] at hT
 obtain⟨t,ht,hK⟩:=kK hT
 have hc:=xH (hs.ev c) ht
 refine aW (v:=if t then a.eval x else a.eval y) (w':=w) ?_ (dO hs (Gm (fun _=>hs.ev x) (fun _=>hs.ev y)) hK)
 simp only[execOp,ho,hc,asBool,Sem.run_bind,Sem.run_pure,Result.andThen_ok]
end
end Go.Proofs.YticmgmemnpcbbaaGreat.Vm

namespace Go.Proofs.YticmgmemnpcbbaaGreat.Vm
open Go Go.RowKit
set_option linter.unusedSimpArgs false
set_option linter.unusedVariables false
section
variable {P : Program} {K : St → Prop} {σ : St} {w0 : World} {M F : Nat → Prop} {a : Act} {w : World}
theorem X5 {o:Oper} {x:Operand} (ho:o.op= .move x) (hT:T P o K σ) (hs:Sim w0 M F σ a w) {Q:Exit→Act→World→Prop} :o.wp P a w (Nx w0 M F K) Q:=by
 unfold T at hT;rw[ho] at hT
 refine aW (v:=a.eval x) (w':=w) ?_ (dO hs (hs.ev x) hT)
 simp only[execOp,ho,Sem.run_pure]
theorem B2 {o:Oper} {x:Operand} (ho:o.op= .assign x) (hT:T P o K σ) (hs:Sim w0 M F σ a w) {Q:Exit→Act→World→Prop} :o.wp P a w (Nx w0 M F K) Q:=by
 unfold T at hT;rw[ho] at hT
 refine aW (v:=a.eval x) (w':=w) ?_ (dO hs (hs.ev x) hT)
 simp only[execOp,ho,Sem.run_pure]
theorem vJ {o:Oper} {x:Operand} (ho:o.op= .nilCheck x) (hT:T P o K σ) (hs:Sim w0 M F σ a w) {Q:Exit→Act→World→Prop} :o.wp P a w (Nx w0 M F K) Q:=by
 unfold T at hT;rw[ho] at hT
 obtain⟨v,hv,hK⟩:=hT
 have hx:=hs.ev x
 have:v=σ.ev x∧ ∃ad,a.eval x= .pointer (some ad):=by
  generalize σ.ev x=xv at hv hx
  generalize a.eval x=av at hx
  cases hx<;>simp only[Q1] at hv<;>first | (cases hv;done)| (cases hv;exact⟨rfl,_,rfl⟩)
 obtain⟨rfl,ad,had⟩:=this
 refine aW (v:=a.eval x) (w':=w) ?_ (dO hs (hs.ev x) hK)
 simp only[execOp,ho,had,Sem.run_pure]
theorem X1 {o:Oper} {u:UnOp} {t:TypeId} {x:Operand} (ho:o.op= .unOp u t x) (hT:T P o K σ) (hs:Sim w0 M F σ a w) {Q:Exit→Act→World→Prop} :o.wp P a w (Nx w0 M F K) Q:=by
 unfold T at hT;rw[ho] at hT
 obtain⟨v,hv,hK⟩:=hT
 have hx:=hs.ev x
 have: ∃r,(Op.unary u (a.eval x)).run P w= .ok r w∧Rep F w v r:=by
  generalize σ.ev x=xv at hv hx
  generalize a.eval x=av at hx
  cases hx<;>simp only[unV] at hv<;>try (cases hv;done)
  ·split at hv
   ·cases hv;exact⟨_,rfl,.bool _⟩
   ·cases hv
  ·split at hv
   ·cases hv;exact⟨_,rfl,.int _ _⟩
   ·cases hv
 obtain⟨r,hr,bU⟩:=this
 refine aW (v:=r) (w':=w) ?_ (dO hs bU hK)
 simp only[execOp,ho,Sem.run_bind,hr,Result.andThen_ok,Sem.run_pure]
theorem nP {t:TypeId} {x y:Value} {b:Bool} (h: ∀d,(Op.equalIn (d+1) t x y).run P w= .ok b w):(Op.equal t x y).run P w= .ok b w:=h 9999
theorem jN {t e:TypeId} (he:P.underlying t=some (.slice e)) (a:Option Addr) (n cap:Nat):(Op.equal t (.slice a n cap) (.slice none 0 0)).run P w= .ok a.isNone w:=by
 refine nP fun d=> ?_
 cases a<;>simp[Op.equalIn,run_underlying he]
theorem lE {t e:TypeId} (he:P.underlying t=some (.pointer e)) (x y:Option Addr) (h:x=none∨y=none):(Op.equal t (.pointer x) (.pointer y)).run P w= .ok (x.isNone && y.isNone) w:=by
 refine nP fun d=> ?_
 rcases h with rfl | rfl
 ·cases y<;>simp[Op.equalIn,run_underlying he]
 ·cases x<;>simp[Op.equalIn,run_underlying he]
theorem vP {t:TypeId} {cs:List V} {arr:Array Value} {off:Nat} {v:V} (hlen:arr.size=cs.length) (hr: ∀i x,cs[i]? =some x→Rep F w x (arr.getD i undef)) (hv:zM P t cs off=some v):
  ∃r,(part t arr off).run P w= .ok r w∧Rep F w v r:=by
 unfold zM at hv
 split at hv
 ·rename_i n ha hn
  split at hv
  ·rename_i hle
   cases hv
   refine⟨.agg (arr.extract off (off+n)),?_,.agg _ _ (by simp;omega) fun i x hx=> ?_⟩
   ·simp only[part,Sem.run_bind,oE ha,Result.andThen_ok,if_true,run_sizeOf hn,Sem.run_pure]
   ·have hi:i<n:=by have:=(List.getElem?_eq_some_iff.1 hx).1;simp at this;omega
    rw[List.getElem?_take_of_lt hi,List.getElem?_drop] at hx
    have:=hr _ x hx
    have h2:(arr.extract off (off+n)).getD i undef=arr.getD (off+i) undef:=by
     simp[Array.getD_eq_getD_getElem?,Array.getElem?_extract]
     rw[if_pos (by omega)]
    rw[h2];exact this
  ·cases hv
 ·rename_i ha
  have hlt:off<arr.size:=by have:=(List.getElem?_eq_some_iff.1 hv).1;omega
  refine⟨arr[off],?_,?_⟩
  ·simp[part,oE ha,hlt]
  ·have:=hr off v hv
   simpa [hlt] using this
 ·cases hv
theorem Mn {f:Field} {o k d:Nat} {x y:V} {u v:Value} {r:Bool} (hf:eqField P f=some (o,k)) (he:eq1 k x y=some r) (hx:Rep F w x u) (hy:Rep F w y v):(Op.equalIn (d+1) f.type u v).run P w= .ok r w:=by
 unfold eqField at hf
 split at hf
 ·cases hf
 ·split at hf<;>cases hf
  ·rename_i hu
   unfold eq1 at he
   split at he<;>first | (cases he;done)| skip
   ·cases he;cases hx;cases hy;simp[Op.equalIn,run_underlying hu]
   all_goals (rename_i hk;cases hk)
  ·rename_i hu
   unfold eq1 at he
   split at he<;>first | (cases he;done)| skip
   ·rename_i hk;cases hk
   ·split at he
    ·rename_i hkk;subst hkk
     cases he;cases hx;cases hy;simp[Op.equalIn,run_underlying hu]
    ·cases he
   ·rename_i hk;cases hk
  ·rename_i hu
   unfold eq1 at he
   split at he<;>first | (cases he;done)| skip
   ·rename_i hk;cases hk
   ·rename_i hk;cases hk
   ·cases he;cases hx;cases hy;simp[Op.equalIn,run_underlying hu,beq_toListBytes]
theorem yA {f : Field} {o k : Nat} (hf : eqField P f = some (o, k)) : (f.name == "_") = false ∧ f.offset = o ∧ ∀ cs, zM P f.type cs o = cs[o]? := by
 unfold eqField at hf
 split at hf
 ·cases hf
 ·rename_i hn
  refine⟨by simpa using hn,?_,fun cs=> ?_⟩
  ·split at hf<;>cases hf<;>rfl
  ·have:aggT P f.type=some false:=by
    unfold aggT
    split at hf<;>first | (cases hf;done)| (rename_i hu;rw[hu])
   unfold zM
   rw[this]
theorem qC {d:Nat} {xs ys:Array Value} {a b:List V} (hlx:xs.size=a.length) (hly:ys.size=b.length) (hx: ∀i x,a[i]? =some x→Rep F w x (xs.getD i undef)) (hy: ∀i x,b[i]? =some x→Rep F w x (ys.getD i undef)):
  ∀ {fs:List Field} {l:List (Nat×Nat)} {r:Bool},fs.mapM (eqField P)=some l→eqV l a b=some r→(Op.eqFields (d+1) xs ys fs).run P w= .ok r w
 | [], l, r, h, he => by
   cases h
   cases he
   simp[Op.eqFields]
 | f :: fs, l, r, h, he => by
   rw[List.mapM_cons] at h
   cases hf:eqField P f with
   | none=>rw[hf] at h;cases h
   | some p=>
     obtain⟨o,k⟩:=p
     rw[hf] at h
     cases hfs:fs.mapM (eqField P) with
     | none=>rw[hfs] at h;cases h
     | some l'=>
       rw[hfs] at h
       cases h
       simp only[eqV] at he
       split at he
       ·rename_i x y s h1 h2 h3
        split at he
        ·rename_i q h4
         cases he
         obtain⟨hn,ho,hp⟩:=yA hf
         obtain⟨u,hu1,hu2⟩:=vP (P:=P) (w:=w) (F:=F) hlx hx ((hp a).trans h1)
         obtain⟨v,hv1,hv2⟩:=vP (P:=P) (w:=w) (F:=F) hly hy ((hp b).trans h2)
         have hq:=Mn (d:=d) hf h4 hu2 hv2
         have hs:=qC (d:=d) hlx hly hx hy hfs h3
         have hn' : f.name ≠ "_" := by simpa using hn
         rw[Op.eqFields]
         rw[ho]
         simp only[if_pos hn',Sem.run_bind,hu1,hv1,hq,Result.andThen_ok]
         cases q
         ·simp
         ·simpa using hs
        ·cases he
       ·cases he
theorem Aj {t:TypeId} {xs ys:Array Value} {a b:List V} {r:Bool} (hlx:xs.size=a.length) (hly:ys.size=b.length) (hx: ∀i x,a[i]? =some x→Rep F w x (xs.getD i undef)) (hy: ∀i x,b[i]? =some x→Rep F w x (ys.getD i undef)) (h:eqA P t a b=some r):
  (Op.equal t (.agg xs) (.agg ys)).run P w= .ok r w∧P.eqGuardType P.depth t=false:=by
 unfold eqA at h
 split at h
 ·rename_i l hl
  unfold Jd at hl
  split at hl
  ·rename_i fs hu
   split at hl
   ·rename_i hc
    simp only[Bool.and_eq_true,Bool.not_eq_true'] at hc
    refine⟨?_,hc.2⟩
    have hf:P.fieldsOf t=fs:=by simp[Program.fieldsOf,hu]
    show(Op.equalIn 10000 t (.agg xs) (.agg ys)).run P w=_
    rw[run_equalIn_struct (P:=P) w 9999 t xs ys (by rw[hf];exact hu) hc.1,hf]
    exact qC (d:=9998) hlx hly hx hy hl h
   ·cases hl
  ·cases hl
 ·cases h
theorem G0 {o:Oper} {op:BinOp} {t t':TypeId} {x y:Operand} (ho:o.op= .binOp op t x y t') (hT:T P o K σ) (hs:Sim w0 M F σ a w) {Q:Exit→Act→World→Prop} :o.wp P a w (Nx w0 M F K) Q:=by
 unfold T at hT;rw[ho] at hT
 obtain⟨v,hv,hK⟩:=hT
 have hx:=hs.ev x
 have hy:=hs.ev y
 have: ∃r,(do eqGuard op t x y (a.eval x) (a.eval y);binOp op t (a.eval x) (a.eval y):Sem Value).run P w= .ok r w∧Rep F w v r:=by
  generalize σ.ev x=xv at hv hx
  generalize σ.ev y=yv at hv hy
  generalize a.eval x=av at hx
  generalize a.eval y=bv at hy
  cases hx<;>cases hy<;>simp only[binV] at hv<;>try (cases hv;done)
  case bool.bool p q=>
   split at hv<;>cases hv
   ·rename_i hu
    refine⟨.bool (p==q),?_,.bool _⟩
    have:=nP (P:=P) (w:=w) (t:=t) (x:= .bool p) (y:= .bool q) (b:=p==q) (fun d=>by simp[Op.equalIn,run_underlying hu])
    simp[eqGuard,binOp,this]
   ·rename_i hu
    refine⟨.bool (p !=q),?_,.bool _⟩
    have:=nP (P:=P) (w:=w) (t:=t) (x:= .bool p) (y:= .bool q) (b:=p==q) (fun d=>by simp[Op.equalIn,run_underlying hu])
    simp[eqGuard,binOp,this,bne]
  case int.int k n k' n'=>
   split at hv
   ·split at hv<;>cases hv
    rename_i hb
    exact⟨_,by simp[eqGuard,binOp,Op.shift,hb],.int _ _⟩
   ·split at hv<;>cases hv
    rename_i hb
    exact⟨_,by simp[eqGuard,binOp,Op.shift,hb],.int _ _⟩
   ·split at hv
    ·rename_i h1 h2 hkk
     subst hkk
     unfold intV at hv
     split at hv<;>first
      | (cases hv; first | exact ⟨_, by simp [eqGuard, binOp, Op.intArith, Op.intBits, Op.intCmp], .int _ _⟩ | exact ⟨_, by simp [eqGuard, binOp, Op.intArith, Op.intBits, Op.intCmp], .bool _⟩)
      | (split at hv <;> cases hv; rename_i hb; exact ⟨_, by simp [eqGuard, binOp, Op.intDiv, hb], .int _ _⟩)
      | (cases hv; done)
    ·cases hv
  case str.str s s'=>
   split at hv
   ·cases hv;exact⟨_,by simp[eqGuard,binOp,Op.stringOp],.bool _⟩
   ·cases hv;exact⟨_,by simp[eqGuard,binOp,Op.stringOp],.bool _⟩
   ·split at hv<;>cases hv
    rename_i hb
    have h2:IntKind.i64.max=9223372036854775807:=by decide
    rw[h2] at hb
    have hb':(s.size:Int)+(s'.size:Int)≤9223372036854775807:=by omega
    exact⟨.string (s++s'),by simp only[eqGuard,binOp,Op.stringOp,Sem.run_bind];simp[hb'],.str _⟩
   ·cases hv
  case agg.agg a1 Ty hl1 hr1 a2 Ou hl2 hr2=>
   split at hv<;>cases hv
   ·rename_i q hq
    obtain⟨h1,h2⟩:=Aj (w:=w) hl1 hl2 hr1 hr2 hq
    exact⟨.bool q,by simp[eqGuard,binOp,h1,h2],.bool _⟩
   ·rename_i q hq
    obtain⟨h1,h2⟩:=Aj (w:=w) hl1 hl2 hr1 hr2 hq
    exact⟨.bool !q,by simp[eqGuard,binOp,h1,h2],.bool _⟩
  case nilp.nilp=>
   split at hv<;>cases hv<;>
   ·rename_i hp
    obtain⟨e,he⟩:=lD hp
    have he:=lE (w:=w) he none none (by simp)
    exact⟨_,by simp[eqGuard,binOp,he],.bool _⟩
  case nilp.ptr=>
   split at hv<;>cases hv<;>
   ·rename_i hp
    obtain⟨e,he⟩:=lD hp
    have he:=fun y=>lE (w:=w) he none y (.inl rfl)
    exact⟨_,by simp[eqGuard,binOp,he],.bool _⟩
  case ptr.nilp=>
   split at hv<;>cases hv<;>
   ·rename_i hp
    obtain⟨e,he⟩:=lD hp
    have he:=fun y=>lE (w:=w) he y none (.inr rfl)
    exact⟨_,by simp[eqGuard,binOp,he],.bool _⟩
  case loc.nilp=>
   split at hv<;>cases hv<;>
   ·rename_i hp
    obtain⟨e,he⟩:=lD hp
    have he:=fun y=>lE (w:=w) he y none (.inr rfl)
    exact⟨_,by simp[eqGuard,binOp,he],.bool _⟩
  case nils.nils=>
   split at hv<;>cases hv<;>
   ·rename_i e he
    have he:=jN (w:=w) (bN he) none 0 0
    exact⟨_,by simp[eqGuard,binOp,he],.bool _⟩
  case sle.nils a0 cap0=>
   split at hv<;>cases hv<;>
   ·rename_i e he
    have he:=jN (w:=w) (bN he) (some a0) 0 cap0
    exact⟨_,by simp[eqGuard,binOp,he],.bool _⟩
  case sl.nils b0 o0 cap0 sz0 xs0 u0 hF0 hle0 hcap0 hsz0 hc0 hr0=>
   cases xs0 with
   | nil => simp at hv
   | cons x0 xs0 =>
     simp only at hv
     split at hv<;>cases hv<;>
     ·rename_i e he
      have he:=jN (w:=w) (bN he) (some ⟨b0,o0,none⟩) (xs0.length+1) cap0
      exact⟨_,by simp[eqGuard,binOp,he],.bool _⟩
  case lsl.nils g0 sz0 o0 n0 cap0 hg0 hle0 hcap0 hb0=>
   split at hv<;>cases hv<;>
   ·rename_i e he
    have he:=jN (w:=w) (bN he) (some ⟨g0.toNat,o0*sz0,none⟩) n0 cap0
    have hn: ¬ g0<0:=by omega
    exact⟨_,by simp[eqGuard,binOp,he,hn],.bool _⟩
  case lsln.nils g0 sz0 hg0=>
   split at hv<;>cases hv<;>
   ·rename_i e he
    have he:=jN (w:=w) (bN he) none 0 0
    exact⟨_,by simp[eqGuard,binOp,he,hg0],.bool _⟩
 obtain⟨r,hr,bU⟩:=this
 refine aW (v:=r) (w':=w) ?_ (dO hs bU hK)
 simp only[execOp,ho]
 rw[Sem.run_bind,hr];rfl
end

section
variable {P : Program} {K : St → Prop} {σ : St} {w0 : World} {M F : Nat → Prop} {a : Act} {w : World}
theorem uT {o:Oper} {f:Fn} {first cap:Array Operand} (ho:o.op= .makeFunc f first cap) (hT:T P o K σ) (hs:Sim w0 M F σ a w) {Q:Exit→Act→World→Prop} :o.wp P a w (Nx w0 M F K) Q:=by
 unfold T at hT;rw[ho] at hT
 cases f<;>simp only at hT<;>try exact hT.elim
 rename_i f
 obtain⟨rfl,hK⟩:=hT
 refine aW (v:= .func (.func f) #[] (cap.map a.eval)) (w':=w) ?_ (dO hs (.fn f _ _ (by simp) fun i x hx=> ?_) hK)
 ·simp only[execOp,ho,Instr.makeFunc,Sem.run_bind,Sem.run_pure,Result.andThen_ok];simp
 ·rw[List.getElem?_map] at hx
  rcases h:cap.toList[i]? with _ | y
  ·rw[h] at hx;cases hx
  ·rw[h] at hx;cases hx
   rw[Array.getElem?_toList] at h
   have:(cap.map a.eval).getD i undef=a.eval y:=by simp[Array.getD_eq_getD_getElem?,h]
   rw[this];exact hs.ev y
theorem xU {o:Oper} {x:Operand} {i:Nat} (ho:o.op= .extract x i) (hT:T P o K σ) (hs:Sim w0 M F σ a w) {Q:Exit→Act→World→Prop} :o.wp P a w (Nx w0 M F K) Q:=by
 unfold T at hT;rw[ho] at hT
 obtain⟨v,hv,hK⟩:=hT
 have hx:=hs.ev x
 have: ∃r,(Instr.extract (a.eval x) i).run P w= .ok r w∧Rep F w v r:=by
  generalize σ.ev x=xv at hv hx
  generalize a.eval x=av at hx
  cases hx<;>simp only[extV] at hv<;>try (cases hv;done)
  rename_i cs arr hlen hr
  have hlt:i<arr.size:=by have:=(List.getElem?_eq_some_iff.1 hv).1;omega
  refine⟨arr[i],by simp[Instr.extract,hlt],?_⟩
  have:=hr i v hv
  simpa [hlt] using this
 obtain⟨r,hr,bU⟩:=this
 refine aW (v:=r) (w':=w) ?_ (dO hs bU hK)
 simp only[execOp,ho,Sem.run_bind,hr,Result.andThen_ok,Sem.run_pure]
theorem Dv {t:TypeId} (h:mapT P t=true): ∃k e i,P.underlying t=some (.map k e)∧P.underlying k=some (.int .i64)∧P.info? e=some i∧i.zero=some (.int .i64 0):=by
 unfold mapT at h
 split at h
 ·rename_i k e hk
  rw[Bool.and_eq_true] at h
  obtain⟨h1,h2⟩:=h
  split at h1
  ·rename_i hk2
   split at h2
   ·rename_i i hi
    split at h2
    ·rename_i hz;exact⟨k,e,i,hk,hk2,hi,hz⟩
    ·cases h2
   ·cases h2
  ·cases h1
 ·cases h
theorem rI (n:Int): ∀(l:List MapEntry) (es:List (Int×Int)) (j:Nat),l.map (fun e=>(e.key,e.val))=es.map (fun p=>(Value.int .i64 p.1,Value.int .i64 p.2))→
  (∃v i,mfind es n=some v∧Instr.findNow (.int .i64) (.int .i64 n) l j=some (some (i,.int .i64 v)))∨(mfind es n=none∧Instr.findNow (.int .i64) (.int .i64 n) l j=some none)
 | [], [], j, _ => .inr ⟨rfl, rfl⟩
 | [], _ :: _, j, h => by simp at h
 | _ :: _, [], j, h => by simp at h
 | e :: l, p :: es, j, h => by
   simp only[List.map_cons,List.cons.injEq,Prod.mk.injEq] at h
   obtain⟨⟨h1,h2⟩,h3⟩:=h
   by_cases hn:n=p.1
   ·exact .inl ⟨p.2,j,by simp[mfind,hn],by simp[Instr.findNow,Instr.sameNow,h1,h2,hn]⟩
   ·have hn':(n==p.1)=false:=by simp[hn]
    rcases rI n l es (j+1) h3 with ⟨v,i,a1,a2⟩| ⟨a1,a2⟩
    ·exact .inl ⟨v,i,by simp[mfind,hn,a1],by simp[Instr.findNow,Instr.sameNow,h1,hn',a2]⟩
    ·exact .inr ⟨by simp[mfind,hn,a1],by simp[Instr.findNow,Instr.sameNow,h1,hn',a2]⟩
theorem jR {r:Nat} {es:Array MapEntry} {clock:Nat} (hb:w.heap[r]? =some (.map es clock)):(getObj r).run P w= .ok (.map es clock) w:=by simp[getObj,Sem.run,hb]
theorem iW {k:TypeId} (hk:P.underlying k=some (.int .i64)) (b:Bool) (n:Int):(Instr.checkKey b 10000 k (.int .i64 n)).run P w= .ok () w:=by
 have h: ∀m,(Instr.checkKey b (m+1) k (.int .i64 n)).run P w= .ok () w:=fun m=>by
  unfold Instr.checkKey
  simp[run_underlying hk,Result.andThen]
 exact h 9999
theorem B7 {o:Oper} {t:TypeId} {x i:Operand} {co:Bool} (ho:o.op= .lookup t x i co) (hT:T P o K σ) (hs:Sim w0 M F σ a w) {Q:Exit→Act→World→Prop} :o.wp P a w (Nx w0 M F K) Q:=by
 unfold T at hT;rw[ho] at hT
 obtain⟨v,hv,hK⟩:=hT
 have hx:=hs.ev x
 have hi:=hs.ev i
 have: ∃r,(Instr.lookup t (a.eval x) (a.eval i) co).run P w= .ok r w∧Rep F w v r:=by
  generalize σ.ev x=xv at hv hx
  generalize a.eval x=av at hx
  generalize σ.ev i=iv at hv hi
  generalize a.eval i=ai at hi
  unfold lkV at hv
  split at hv
  ·split at hv
   ·rename_i es n hm
    cases hv
    cases hi
    cases hx
    rename_i b W4 clock hF hh he
    obtain⟨k,e,inf,h1,h2,h3,h4⟩:=Dv hm
    rcases rI n W4.toList es 0 he with ⟨u,j,a1,a2⟩| ⟨a1,a2⟩
    ·cases co
     ·exact⟨.int .i64 u,by simp[Instr.lookup,run_underlying h1,jR hh,iW h2,Instr.findKey,run_underlying h2,a2,Result.andThen],by simp[a1];exact .int _ _⟩
     ·refine⟨.tuple #[.int .i64 u,.bool true],by simp[Instr.lookup,run_underlying h1,jR hh,iW h2,Instr.findKey,run_underlying h2,a2,Result.andThen],?_⟩
      simp only[a1]
      refine .tup _ _ rfl fun i x hx=> ?_
      match i,hx with
      | 0, hx => cases hx; exact .int _ _
      | 1, hx => cases hx; exact .bool _
    ·cases co
     ·exact⟨.int .i64 0,by simp[Instr.lookup,run_underlying h1,jR hh,iW h2,Instr.findKey,run_underlying h2,a2,Result.andThen,fS h3 h4],by simp[a1];exact .int _ _⟩
     ·refine⟨.tuple #[.int .i64 0,.bool false],by simp[Instr.lookup,run_underlying h1,jR hh,iW h2,Instr.findKey,run_underlying h2,a2,Result.andThen,fS h3 h4],?_⟩
      simp only[a1]
      refine .tup _ _ rfl fun i x hx=> ?_
      match i,hx with
      | 0, hx => cases hx; exact .int _ _
      | 1, hx => cases hx; exact .bool _
   ·cases hv
  ·cases hv
 obtain⟨r,hr,bU⟩:=this
 refine aW (v:=r) (w':=w) ?_ (dO hs bU hK)
 simp only[execOp,ho,Sem.run_bind,hr,Result.andThen_ok,Sem.run_pure]
theorem rG {t:TypeId} {i:Nat} {p:Nat×Nat} (h:fPl P t i=some p): ∃fs f,P.underlying t=some (.struct fs)∧fs[i]? =some f∧csz P f.type=some p.2∧p.2≠0∧p.1=f.offset:=by
 unfold fPl at h
 split at h
 ·rename_i fs hfs
  split at h
  ·rename_i f hf
   split at h
   ·rename_i n hn
    split at h
    ·cases h
    ·rename_i hn0;cases h;exact⟨fs,f,hfs,hf,hn,hn0,rfl⟩
   ·cases h
  ·cases h
 ·cases h
theorem tX {o:Oper} {t:TypeId} {x:Operand} {i:Nat} (ho:o.op= .fieldAddr t x i) (hT:T P o K σ) (hs:Sim w0 M F σ a w) {Q:Exit→Act→World→Prop} :o.wp P a w (Nx w0 M F K) Q:=by
 unfold T at hT;rw[ho] at hT
 obtain⟨v,hv,hK⟩:=hT
 have hx:=hs.ev x
 have: ∃r,(Instr.fieldAt t (a.eval x) i).run P w= .ok r w∧Rep F w v r:=by
  generalize σ.ev x=xv at hv hx
  generalize a.eval x=av at hx
  cases hx<;>simp only[fldV] at hv<;>try (cases hv;done)
  case ptr b off cs u hF hc hr=>
   split at hv
   ·rename_i p Y7 sz' hp
    obtain⟨fs,f,hu,hf,hz,hz0,Ez⟩:=rG hp
    cases hv
    refine⟨.pointer (some ⟨b,off+Y7,none⟩),?_,.ptr b (off+Y7) _ (fun j=>u (Y7+j)) hF (fun j y hy=> ?_) (fun j y hy=> ?_)⟩
    ·simp only[Instr.fieldAt,Sem.run_bind,run_underlying hu,Result.andThen_ok,hf,Instr.sureAddr,Sem.run_pure,fieldPlace,run_sizeOf hz]
     rw[if_neg hz0]
     simp only[Sem.run_pure,Result.andThen_ok,dH]
     rw[show f.offset=Y7 from Ez.symm]
    ·rw[List.getElem?_drop] at hy
     rw[Nat.add_assoc];exact hc _ y hy
    ·rw[List.getElem?_drop] at hy
     exact hr _ y hy
   ·cases hv
  case loc g sz k j=>
   split at hv
   ·rename_i p Y7 sz' hp
    obtain⟨fs,f,hu,hf,hz,hz0,Ez⟩:=rG hp
    cases hv
    refine⟨.pointer (some ⟨g.toNat,k*sz+(j+Y7),none⟩),?_,.loc _ _ _ _⟩
    simp only[Instr.fieldAt,Sem.run_bind,run_underlying hu,Result.andThen_ok,hf,Instr.sureAddr,Sem.run_pure,fieldPlace,run_sizeOf hz]
    rw[if_neg hz0]
    simp only[Sem.run_pure,Result.andThen_ok,dH]
    rw[show f.offset=Y7 from Ez.symm,Nat.add_assoc]
   ·cases hv
 obtain⟨r,hr,bU⟩:=this
 refine aW (v:=r) (w':=w) ?_ (dO hs bU hK)
 simp only[execOp,ho,Sem.run_bind,hr,Result.andThen_ok,Sem.run_pure]
theorem J1 {o:Oper} {t:TypeId} {x:Operand} {i:Nat} (ho:o.op= .field t x i) (hT:T P o K σ) (hs:Sim w0 M F σ a w) {Q:Exit→Act→World→Prop} :o.wp P a w (Nx w0 M F K) Q:=by
 unfold T at hT;rw[ho] at hT
 obtain⟨v,hv,hK⟩:=hT
 have hx:=hs.ev x
 have: ∃r,(Instr.field t (a.eval x) i).run P w= .ok r w∧Rep F w v r:=by
  generalize σ.ev x=xv at hv hx
  generalize a.eval x=av at hx
  cases hx<;>simp only[fieldV] at hv<;>try (cases hv;done)
  rename_i cs arr hlen hr
  split at hv
  ·rename_i off _ ft hp hft
   obtain⟨fs,f,hu,hf,hz,hz0,Ez⟩:=rG hp
   unfold fTy at hft
   rw[hu] at hft
   simp only[hf] at hft
   cases hft
   obtain⟨r,h1,h2⟩:=vP (w:=w) hlen hr hv
   refine⟨r,?_,h2⟩
   simp only[Instr.field,Sem.run_bind,run_underlying hu,Result.andThen_ok,hf,asAgg,Sem.run_pure]
   rw[show f.offset=off from Ez.symm];exact h1
  ·cases hv
 obtain⟨r,hr,bU⟩:=this
 refine aW (v:=r) (w':=w) ?_ (dO hs bU hK)
 simp only[execOp,ho,Sem.run_bind,hr,Result.andThen_ok,Sem.run_pure]
theorem tS {o:Oper} {t:TypeId} {x i:Operand} (ho:o.op= .indexAddr t x i) (hT:T P o K σ) (hs:Sim w0 M F σ a w) {Q:Exit→Act→World→Prop} :o.wp P a w (Nx w0 M F K) Q:=by
 unfold T at hT;rw[ho] at hT
 obtain⟨v,hv,hK⟩:=hT
 have hx:=hs.ev x
 have hi:=hs.ev i
 have run: ∀ {e:TypeId} {sz n len cap:Nat} {b off:Nat} {k:IntKind},P.underlying t=some (.slice e)→csz P e=some sz→n<len→
   (Instr.indexAt t (.slice (some ⟨b,off,none⟩) len cap) (.int k n)).run P w= .ok (.pointer (some ⟨b,off+n*sz,none⟩)) w:=by
  intro e sz n len cap b off k hu hz hn
  have h1:(0:Int)≤(n:Int)∧(n:Int)<(len:Int):=by omega
  simp only[Instr.indexAt,asIntOf,Sem.run_bind,Sem.run_pure,Result.andThen_ok,run_underlying hu]
  simp only[h1,and_self,if_true,Sem.run_bind,run_sizeOf hz,Result.andThen_ok,Sem.run_pure,Int.toNat_natCast,dH]
 have: ∃r,(Instr.indexAt t (a.eval x) (a.eval i)).run P w= .ok r w∧Rep F w v r:=by
  generalize σ.ev x=xv at hv hx
  generalize a.eval x=av at hx
  generalize σ.ev i=iv at hv hi
  generalize a.eval i=bv at hi
  cases hx<;>cases hi<;>simp only[idxV] at hv<;>try (cases hv;done)
  case sl0.int ad cap ha k n=>
   split at hv
   ·split at hv
    ·simp at hv
    ·cases hv
   ·cases hv
  case sl.int b off cap sz xs u hF hle iT hsz hc hr k n=>
   split at hv
   ·rename_i e he
    split at hv
    ·rename_i hn0
     split at hv
     ·rename_i c hxs
      split at hv
      ·rename_i hcz
       cases hv
       have hlt:=(List.getElem?_eq_some_iff.1 hxs).1
       have hcl:=hsz c (List.mem_of_getElem? hxs)
       rw[hcl] at hcz
       obtain⟨m,rfl⟩:=Int.eq_ofNat_of_zero_le hn0
       simp only[Int.toNat_natCast] at hxs hlt
       refine⟨_,run (bN he) hcz hlt,.ptr b (off+m*sz) c (fun j=>u m j) hF (fun j y hy=>hc m c j y hxs hy) (fun j y hy=>hr m c j y hxs hy)⟩
      ·cases hv
     ·cases hv
    ·cases hv
   ·cases hv
  case lsl.int g sz off n cap hg hle iT hb k m=>
   split at hv
   ·rename_i e he
    split at hv
    ·rename_i Ql
     cases hv
     obtain⟨h0,h1,h2⟩:=Ql
     obtain⟨m,rfl⟩:=Int.eq_ofNat_of_zero_le h0
     refine⟨_,run (bN he) h2 (by omega),?_⟩
     have:=Rep.loc (F:=F) (w:=w) g sz (off+m) 0
     simpa [Nat.add_mul] using this
    ·cases hv
   ·cases hv
  case lsln.int g sz hg k m=>
   split at hv
   ·split at hv
    ·rename_i Ql;omega
    ·cases hv
   ·cases hv
 obtain⟨r,hr,bU⟩:=this
 refine aW (v:=r) (w':=w) ?_ (dO hs bU hK)
 simp only[execOp,ho,Sem.run_bind,hr,Result.andThen_ok,Sem.run_pure]
theorem N0 {o:Oper} {t:TypeId} {x i:Operand} (ho:o.op= .index t x i) (hT:T P o K σ) (hs:Sim w0 M F σ a w) {Q:Exit→Act→World→Prop} :o.wp P a w (Nx w0 M F K) Q:=by
 unfold T at hT;rw[ho] at hT
 obtain⟨v,hv,hK⟩:=hT
 have hx:=hs.ev x
 have hi:=hs.ev i
 have: ∃r,(Instr.index t (a.eval x) (a.eval i)).run P w= .ok r w∧Rep F w v r:=by
  generalize σ.ev x=xv at hv hx
  generalize a.eval x=av at hx
  generalize σ.ev i=iv at hv hi
  generalize a.eval i=bv at hi
  cases hx<;>cases hi<;>simp only[idsV] at hv<;>try (cases hv;done)
  split at hv
  ·rename_i hst
   split at hv
   ·rename_i hn0
    split at hv
    ·rename_i c hc
     cases hv
     refine⟨.int .u8 c.toNat,?_,.int _ _⟩
     simp only[Instr.index,asIntOf,Sem.run_bind,Sem.run_pure,Result.andThen_ok,run_underlying (kR hst)]
     simp only[hn0,if_true,hc,Sem.run_pure]
    ·cases hv
   ·cases hv
  ·cases hv
 obtain⟨r,hr,bU⟩:=this
 refine aW (v:=r) (w':=w) ?_ (dO hs bU hK)
 simp only[execOp,ho,Sem.run_bind,hr,Result.andThen_ok,Sem.run_pure]
theorem Ty {α:Type} {xs:Array α} (h:xs.size=1): ∃x,xs= #[x]:=by
 obtain⟨l⟩:=xs
 match l,h with
 | [x], _ => exact ⟨x, rfl⟩
theorem Ou {α:Type} {xs:Array α} (h:xs.size=2): ∃x y,xs= #[x,y]:=by
 obtain⟨l⟩:=xs
 match l,h with
 | [x, y], _ => exact ⟨x, y, rfl⟩
theorem Ck {o:Oper} {c:Call} (ho:o.op= .call c) (hc:c.callee= .builtin .len) (hT:T P o K σ) (hs:Sim w0 M F σ a w) {Q:Exit→Act→World→Prop} :o.wp P a w (Nx w0 M F K) Q:=by
 unfold T at hT;rw[ho] at hT
 simp only[hc] at hT
 obtain⟨v,hv,h1,h2,hK⟩:=hT
 obtain⟨x,hx1⟩:=Ty h1
 obtain⟨t,ht1⟩:=Ty h2
 rw[hx1,ht1] at hv
 have hv':lenV P t (σ.ev x)=some v:=hv
 have hx:=hs.ev x
 have: ∃r,(Builtin.len_ #[t] o.type #[a.eval x]).run P w= .ok r w∧Rep F w v r:=by
  generalize σ.ev x=xv at hv' hx
  generalize a.eval x=av at hx
  clear hv
  cases hx<;>simp only[lenV] at hv'<;>try (cases hv';done)
  case str s=>
   split at hv'<;>cases hv'
   rename_i hst
   exact⟨_,by simp[Builtin.len_,run_underlying (kR hst),goInt],.int _ _⟩
  all_goals
   split at hv'<;>cases hv'
   rename_i e he
   refine⟨_,?_,.int _ _⟩
   simp only[Builtin.len_,List.getElem?_toArray,List.getElem?_cons_zero,Sem.run_bind,run_underlying (bN he),Result.andThen_ok,goInt,Sem.run_pure]
   try rfl
 obtain⟨r,hr,bU⟩:=this
 refine aW (v:=r) (w':=w) ?_ (dO hs bU hK)
 simp only[execOp,ho,resolve,hc,Sem.run_bind,Sem.run_pure,Result.andThen_ok,invoke,builtin,hx1,ht1,List.map_toArray,List.map_cons,List.map_nil,hr]
theorem Cx {o:Oper} {c:Call} (ho:o.op= .call c) (hc:c.callee= .builtin .min) (hT:T P o K σ) (hs:Sim w0 M F σ a w) {Q:Exit→Act→World→Prop} :o.wp P a w (Nx w0 M F K) Q:=by
 unfold T at hT;rw[ho] at hT
 simp only[hc] at hT
 obtain⟨v,hv,h1,hK⟩:=hT
 obtain⟨x,y,hx1⟩:=Ou h1
 rw[hx1] at hv
 have hv':minV (σ.ev x) (σ.ev y)=some v:=hv
 have hx:=hs.ev x
 have hy:=hs.ev y
 have: ∃r,(Builtin.min_ c.argTypes o.type #[a.eval x,a.eval y]).run P w= .ok r w∧Rep F w v r:=by
  generalize σ.ev x=xv at hv' hx
  generalize σ.ev y=yv at hv' hy
  generalize a.eval x=av at hx
  generalize a.eval y=bv at hy
  clear hv
  cases hx<;>try (cases hv';done)
  cases hy<;>cases hv'
  exact⟨_,by simp[Builtin.min_,Builtin.min2],.int _ _⟩
 obtain⟨r,hr,bU⟩:=this
 refine aW (v:=r) (w':=w) ?_ (dO hs bU hK)
 simp only[execOp,ho,resolve,hc,Sem.run_bind,Sem.run_pure,Result.andThen_ok,invoke,builtin,hx1,List.map_toArray,List.map_cons,List.map_nil,hr]
end

def Gf (F:Nat→Prop) (w:World) (cs:List V) (arr:Array Value):Prop:=arr.size=cs.length∧ ∀(i:Nat) (x:V),cs[i]? =some x→x.one=true∧ ∃v,arr[i]? =some v∧Rep F w x v
theorem Gv (off:Nat) (l:List Value): ∀(k:Nat) (cells:Array Value),off+k+l.length≤cells.size→
  ((l.zipIdx k).foldl (fun cs (x:Value×Nat)=>cs.setIfInBounds (off+x.2) x.1) cells).size=cells.size∧
  ∀p,((l.zipIdx k).foldl (fun cs (x:Value×Nat)=>cs.setIfInBounds (off+x.2) x.1) cells)[p]? =if off+k≤p∧p<off+k+l.length then l[p - (off+k)]? else cells[p]? :=by
 induction l with
 | nil => intro k cells _; exact ⟨rfl, fun p => by rw [if_neg (by simp only [List.length_nil]; omega)]; rfl⟩
 | cons c l ih =>
   intro k cells h
   simp only[List.length_cons] at h
   simp only[List.zipIdx_cons,List.foldl_cons]
   obtain⟨h1,h2⟩:=ih (k+1) (cells.setIfInBounds (off+k) c) (by simp;omega)
   refine⟨by rw[h1];simp,fun p=> ?_⟩
   rw[h2 p]
   by_cases hp:p=off+k
   ·subst hp
    rw[if_neg (by omega),if_pos (by simp),Array.getElem?_setIfInBounds_self_of_lt (by omega)]
    simp
   ·by_cases hq:off+(k+1)≤p∧p<off+(k+1)+l.length
    ·rw[if_pos hq,if_pos (by simp;omega),show p - (off+k)=(p - (off+(k+1)))+1 from by omega,List.getElem?_cons_succ]
    ·rw[if_neg hq,if_neg (by simp;omega),Array.getElem?_setIfInBounds_ne (by omega)]
section
variable {P : Program} {K : St → Prop} {σ : St} {w0 : World} {M F : Nat → Prop} {a : Act} {w : World}
theorem wA (pl:Nat→Option (Nat×Nat)) (us:List (Nat×V)): ∀(vs:List (Nat×Value)) (cs:List V) (arr:Array Value) (r:List V),Gf F w cs arr→us.length=vs.length→
  (∀(i:Nat) (u:Nat×V) (v:Nat×Value),us[i]? =some u→vs[i]? =some v→u.1=v.1∧Rep F w u.2 v.2)→fillV pl cs us=some r→ ∃yK,Instr.fill pl arr vs=some yK∧Gf F w r yK:=by
 induction us with
 | nil =>
   intro vs cs arr r hA hl _ h
   have:vs= []:=by cases vs;rfl;cases hl
   subst this
   simp only[fillV,Option.some.injEq] at h
   subst h
   exact⟨arr,rfl,hA⟩
 | cons u us ih =>
   intro vs cs arr r hA hl hr h
   match vs,hl with
   | v::vs,hl=>
     obtain⟨hi,bU⟩:=hr 0 u v rfl rfl
     obtain⟨i,x⟩:=u
     obtain⟨i',y⟩:=v
     simp only at hi bU
     subst hi
     simp only[fillV] at h
     split at h
     ·rename_i off n hpl
      split at h
      ·rename_i hc
       obtain⟨h1,h2,h3⟩:=hc
       obtain⟨g1,g2,g3⟩:=bU.cells h3
       have hsz:y.cells.size=n:=by rw[←h1,←g1];simp
       have Ie:=Gv off y.cells.toList 0 arr (by rw[g1,hA.1];omega)
       have hfe:y.cells.zipIdx.foldl (fun cs (x:Value×Nat)=>cs.setIfInBounds (off+x.2) x.1) arr=(y.cells.toList.zipIdx 0).foldl (fun cs (x:Value×Nat)=>cs.setIfInBounds (off+x.2) x.1) arr:=by
        rw[←Array.foldl_toList,Array.toList_zipIdx]
       rw[←hfe] at Ie
       have hA':Gf F w (splice cs off x.cells) (y.cells.zipIdx.foldl (fun cs (x:Value×Nat)=>cs.setIfInBounds (off+x.2) x.1) arr):=by
        refine⟨by rw[Ie.1,jZ,hA.1],fun p z hz=> ?_⟩
        rw[Ie.2 p]
        rw[wG _ _ _ (by omega)] at hz
        simp only[Nat.add_zero]
        by_cases hq:off≤p∧p<off+x.cells.length
        ·rw[if_pos hq] at hz
         rw[if_pos (by rw[g1];exact hq)]
         obtain⟨u,hu1,hu2⟩:=g2 _ z hz
         exact⟨List.all_eq_true.1 h3 z (List.mem_of_getElem? hz),u,hu1,hu2⟩
        ·rw[if_neg hq] at hz
         rw[if_neg (by rw[g1];exact hq)]
         exact hA.2 p z hz
       obtain⟨yK,e1,e2⟩:=ih vs (splice cs off x.cells) _ r hA' (by simpa using hl) (fun j u v hu hv=>hr (j+1) u v hu hv) h
       refine⟨yK,?_,e2⟩
       simp only[Instr.fill,hpl]
       have hA1:=hA.1
       rw[if_neg (by simp[hsz];omega)]
       exact e1
      ·cases h
     ·cases h
theorem Hk {α β:Type} (g:α→Sem β) (r:α→β) (l:List α) (h: ∀x,x∈l→(g x).run P w= .ok (r x) w):(l.mapM g).run P w= .ok (l.map r) w:=by
 induction l with
 | nil => rfl
 | cons x l ih =>
   rw[List.mapM_cons,Sem.run_bind,h x (List.mem_cons_self ..),Result.andThen_ok,Sem.run_bind,ih fun y hy=>h y (List.mem_cons_of_mem _ hy)]
   rfl
theorem yV (hs:Sim w0 M F σ a w) (ps:Array (Nat×Operand)) (i:Nat) (u:Nat×V) (v:Nat×Value) (hu:(ps.toList.map fun p=>(p.1,σ.ev p.2))[i]? =some u)
  (hv:((ps.map fun(i,x)=>(i,a.eval x)).toList)[i]? =some v):u.1=v.1∧Rep F w u.2 v.2:=by
 rw[Array.toList_map] at hv
 rw[List.getElem?_map] at hu hv
 rcases h:ps.toList[i]? with _ | y
 ·rw[h] at hu;cases hu
 ·rw[h] at hu hv;cases hu;cases hv
  exact⟨rfl,hs.ev _⟩
theorem Cv {cs:List V} {z:Value} (hz:cs=z.cells.toList.map ofCell) (gD:cs.all V.one=true):Gf F w cs z.cells:=by
 refine⟨by rw[hz];simp,fun i x hx=>⟨List.all_eq_true.1 gD x (List.mem_of_getElem? hx),?_⟩⟩
 obtain⟨v,h1,h2⟩:=sE (F:=F) (w:=w) hz i x hx
 exact⟨v,by simpa using h1,h2⟩
theorem G2 {o:Oper} {t:TypeId} {ps:Array (Nat×Operand)} (ho:o.op= .build t ps) (hT:T P o K σ) (hs:Sim w0 M F σ a w) {Q:Exit→Act→World→Prop} :o.wp P a w (Nx w0 M F K) Q:=by
 unfold T at hT;rw[ho] at hT
 obtain⟨cs,hz,hok,r,hr,hK⟩:=hT
 obtain⟨i,z,hi,hzz,hcs,gD,hlen⟩:=iF hz
 obtain⟨fs,hfs,cO⟩: ∃fs,P.underlying t=some (.struct fs)∧ ∀f,f∈fs.toList→(csz P f.type).isSome=true:=by
  unfold okF at hok
  split at hok
  ·rename_i fs hfs;exact⟨fs,hfs,List.all_eq_true.1 hok⟩
  ·cases hok
 have aKI:(fs.mapM fun f=>do pure (f.offset,←sizeOf f.type):Sem (Array (Nat×Nat))).run P w= .ok (fs.map fun f=>(f.offset,(csz P f.type).getD 0)) w:=by
  rw[Array.mapM_eq_mapM_toList,Sem.run_map,Hk (r:=fun f=>(f.offset,(csz P f.type).getD 0))]
  ·simp only[Result.andThen_ok,Result.ok.injEq,and_true]
   apply Array.ext'
   simp
  ·intro f hf
   have:=cO f hf
   obtain⟨n,hn⟩:=Option.isSome_iff_exists.1 this
   simp[run_sizeOf hn,hn]
 have hpl: ∀j p,fPl P t j=some p→((fs.map fun f=>(f.offset,(csz P f.type).getD 0))[j]?)=some p:=by
  intro j p hp
  obtain⟨fs',f,h1,h2,h3,h4,h5⟩:=rG hp
  rw[hfs] at h1;cases h1
  obtain⟨p1,p2⟩:=p
  simp only at h3 h5
  rw[Array.getElem?_map,h2,Option.map_some,h3,←h5]
  rfl
 have aFC:fillV (fun j=>(fs.map fun f=>(f.offset,(csz P f.type).getD 0))[j]?) cs (ps.toList.map fun p=>(p.1,σ.ev p.2))=some r:=by
  clear hK
  revert hr
  generalize (ps.toList.map fun p=>(p.1,σ.ev p.2))=us
  intro hr
  induction us generalizing cs with
  | nil => exact hr
  | cons u us ih =>
    obtain⟨j,x⟩:=u
    simp only[fillV] at hr ⊢
    cases hp:fPl P t j with
    | none=>rw[hp] at hr;cases hr
    | some p=>
      rw[hp] at hr
      rw[hpl j p hp]
      obtain⟨p1,p2⟩:=p
      simp only at hr ⊢
      split at hr
      ·rename_i hc
       rw[if_pos hc]
       have key: ∀(us:List (Nat×V)) (cs r:List V),fillV (fPl P t) cs us=some r→fillV (fun j=>(fs.map fun f=>(f.offset,(csz P f.type).getD 0))[j]?) cs us=some r:=by
        intro us
        induction us with
        | nil => intro cs r h; exact h
        | cons u us ih2 =>
          intro cs r h
          obtain⟨j,x⟩:=u
          simp only[fillV] at h ⊢
          cases hp:fPl P t j with
          | none=>rw[hp] at h;cases h
          | some p=>
            rw[hp] at h
            rw[hpl j p hp]
            obtain⟨p1,p2⟩:=p
            simp only at h ⊢
            split at h
            ·rename_i hc;rw[if_pos hc];exact ih2 _ _ h
            ·cases h
       exact key _ _ _ hr
      ·cases hr
 obtain⟨yK,e1,e2⟩:=wA _ _ _ cs z.cells r (Cv hcs gD) (by simp) (fun j u v hu hv=>yV hs ps j u v hu hv) aFC
 refine aW (v:= .agg yK) (w':=w) ?_ (dO hs (.agg _ _ e2.1 fun j x hx=> ?_) hK)
 ·simp only[execOp,ho,Instr.build,Sem.run_bind,fS hi hzz,Result.andThen_ok,run_underlying hfs,aKI]
  rw[e1]
  simp
 ·obtain⟨_,v,h1,h2⟩:=e2.2 j x hx
  have:yK.getD j undef=v:=by simp[Array.getD_eq_getD_getElem?,h1]
  rw[this];exact h2
theorem P1 (cs:List V) (n:Nat): ∀p,((List.replicate n cs).flatten)[p]? =if p<n*cs.length then cs[p % cs.length]? else none:=by
 induction n with
 | zero => intro p; simp
 | succ n ih =>
   intro p
   rw[List.replicate_succ,List.flatten_cons]
   rcases Nat.lt_or_ge p cs.length with hp | hp
   ·rw[List.getElem?_append_left hp,if_pos (by rw[Nat.add_mul];omega),Nat.mod_eq_of_lt hp]
   ·rw[List.getElem?_append_right hp,ih]
    have h1:(p - cs.length) % cs.length=p % cs.length:=by
     rw[Nat.mod_eq_sub_mod hp]
    rw[h1]
    by_cases hq:p<(n+1)*cs.length
    ·rw[if_pos hq,if_pos (by rw[Nat.add_mul] at hq;omega)]
    ·rw[if_neg hq,if_neg (by rw[Nat.add_mul] at hq;omega)]
theorem uU {cs:List V} {z:Value} (hz:cs=z.cells.toList.map ofCell) (gD:cs.all V.one=true) (n:Nat):Gf F w (List.replicate n cs).flatten ((Array.range (n*cs.length)).map (fun i=>z.cells[i % z.cells.size]!)):=by
 have hsz:z.cells.size=cs.length:=by rw[hz];simp
 refine⟨by simp,fun p x hx=> ?_⟩
 rw[P1] at hx
 split at hx
 ·rename_i hp
  refine⟨List.all_eq_true.1 gD x (List.mem_of_getElem? hx),?_⟩
  obtain⟨v,h1,h2⟩:=sE (F:=F) (w:=w) hz _ x hx
  refine⟨v,?_,h2⟩
  rw[Array.getElem?_map]
  have:(Array.range (n*cs.length))[p]? =some p:=by simp[hp]
  rw[this]
  simp only[Option.map_some]
  rw[hsz]
  have h3:z.cells[p % cs.length]? =some v:=by simpa using h1
  rw[getElem!_def,h3]
 ·cases hx
theorem Jx (hs:Sim w0 M F σ a w) {d:Option Nat} (c:Array Value) (t:TypeId) (sz n:Nat) (els:List (List V)) (hn:els.length=n) (hnm:n≤maxLen) (hlen:n*sz≤c.size)
  (hk: ∀k e,els[k]? =some e→e.length=sz∧ ∀j x,e[j]? =some x→x.one=true∧ ∃v,c[k*sz+j]? =some v∧Rep F w x v)
  (hK: ∀g:Int,0≤g→σ.bl g=none→K (({ σ with bl:=upd σ.bl g (some ⟨sz,els⟩) } :St).put d (.lsl g sz 0 n))):
  Nx w0 M F K (a.put d (.slice (some ⟨w.heap.size,0,none⟩) n n)) (w.alloc (.cells c t)):=by
 obtain⟨hnn,hm⟩:=hs.mem.alloc c t sz els (by rw[hn];exact hlen) hk
 have dU: ∀k,k<w.heap.size→(w.alloc (.cells c t)).heap[k]? =w.heap[k]? :=fun k hk=>Below.heap_alloc _ _ _ hk
 have hs':Sim w0 M F ({ σ with bl:=upd σ.bl (w.heap.size:Int) (some ⟨sz,els⟩) } :St) a (w.alloc (.cells c t)):=
  ⟨hm,hs.size,fun t ht=>(hs.sl t ht).mono (fun _ h=>h) (fun k hk=>dU k (hs.mem.fr k hk)) (.of_same dU),hs.defers⟩
 refine⟨_,F,fun _ h=>h,hs'.put ?_,hK _ (by omega) hnn⟩
 have:=Rep.lsl (F:=F) (w:=w.alloc (.cells c t)) (w.heap.size:Int) sz 0 n n (by omega) (Nat.le_refl _) hnm ⟨c,t,(0,0),by show(w.heap.push _)[w.heap.size]? =_;simp,by simpa using hlen⟩
 simpa using this
theorem tW {o:Oper} {t:TypeId} {l c:Operand} (ho:o.op= .makeSlice t l c) (hT:T P o K σ) (hs:Sim w0 M F σ a w) {Q:Exit→Act→World→Prop} :o.wp P a w (Nx w0 M F K) Q:=by
 unfold T at hT;rw[ho] at hT
 obtain⟨e,he,cs,hz,n,hl,hc,hb,hn,hK⟩:=hT
 obtain⟨i,z,hi,hzz,hcs,gD,hlen⟩:=iF hz
 have hlv:=Az (hs.ev l) hl
 have hcv:=Az (hs.ev c) hc
 have hbs:bsz P e=i.bytes:=by simp[bsz,hi]
 rw[hbs] at hb
 refine aW (v:= .slice (some ⟨w.heap.size,0,none⟩) n n) (w':=w.alloc (.cells ((Array.range (n*cs.length)).map (fun i=>z.cells[i % z.cells.size]!)) e)) ?_ (Jx hs _ e cs.length n (List.replicate n cs) (by simp) hn (by simp) (fun k e' he'=> ?_) hK)
 ·have h1:(i.bytes:Int)*(n:Int)≤281474976710656:=by
   have h:((i.bytes*n:Nat):Int)≤281474976710656:=by omega
   rwa [Int.natCast_mul] at h
  have hr:=run_make (P:=P) w t e i z (bN he) hi hzz .i64 .i64 n n (by omega) (Int.le_refl _) h1 (by simp only[maxLen] at hn;omega)
  simp only[Int.toNat_natCast,←hlen,madeCells] at hr
  simp only[execOp,ho,hlv,hcv,Sem.run_bind,hr,Result.andThen_ok,Sem.run_pure]
 ·have hA:=uU (F:=F) (w:=w) hcs gD n
  have hk:k<n:=by have:=(List.getElem?_eq_some_iff.1 he').1;simpa using this
  have:e'=cs:=by rw[List.getElem?_replicate,if_pos hk] at he';cases he';rfl
  subst this
  refine⟨rfl,fun j x hx=> ?_⟩
  have hj:=(List.getElem?_eq_some_iff.1 hx).1
  have hp:k*e'.length+j<n*e'.length:=B0 hk hj
  refine hA.2 (k*e'.length+j) x ?_
  rw[P1,if_pos hp,Nat.add_comm,Nat.add_mul_mod_self_right,Nat.mod_eq_of_lt hj]
  exact hx
end

section
variable {P : Program} {K : St → Prop} {σ : St} {w0 : World} {M F : Nat → Prop} {a : Act} {w : World}
theorem sM {o:Oper} {t:TypeId} {n:Nat} {ps:Array (Nat×Operand)} (ho:o.op= .buildSlice t n ps) (hT:T P o K σ) (hs:Sim w0 M F σ a w) {Q:Exit→Act→World→Prop} :o.wp P a w (Nx w0 M F K) Q:=by
 unfold T at hT;rw[ho] at hT
 obtain⟨e,he,cs,hz,h1c,h24,r,hr,hK⟩:=hT
 obtain⟨i,z,hi,hzz,hcs,gD,hlen⟩:=iF hz
 have hsz:csz P e=some cs.length:=by simp[csz,hi,hlen]
 have Si:z.cells.size=cs.length:=by rw[hcs];simp
 obtain⟨yK,e1,e2⟩:=wA _ _ _ _ _ r (uU (F:=F) (w:=w) hcs gD n) (by simp) (fun j u v hu hv=>yV hs ps j u v hu hv) hr
 have hrl:r.length=n*cs.length:=by
  have key: ∀(us:List (Nat×V)) (pl:Nat→Option (Nat×Nat)) (c r:List V),fillV pl c us=some r→r.length=c.length:=by
   intro us pl
   induction us with
   | nil => intro c r h; cases h; rfl
   | cons u us ih =>
     intro c r h
     obtain⟨j,x⟩:=u
     simp only[fillV] at h
     split at h
     ·split at h
      ·rw[ih _ _ h,jZ]
      ·cases h
     ·cases h
  rw[key _ _ _ _ hr]
  simp
 refine aW (v:= .slice (some ⟨w.heap.size,0,none⟩) n n) (w':=w.alloc (.cells yK e)) ?_ (Jx hs yK e cs.length n _ (by simp) ?_ (by rw[e2.1,hrl];omega) (fun k e' he'=> ?_) hK)
 ·have aMH: ¬ (n*cs.length>2^24):=by omega
  simp only[execOp,ho,Instr.buildSlice,Sem.run_bind,run_underlying (bN he),Result.andThen_ok,run_sizeOf hsz]
  rw[if_neg aMH]
  simp only[Sem.run_bind,Sem.run_pure,Result.andThen_ok]
  by_cases h0:n*cs.length=0
  ·rw[if_pos h0]
   have hn0:n=0:=by
    rcases Nat.mul_eq_zero.1 h0 with h | h
    ·exact h
    ·omega
   subst hn0
   simp only[Nat.zero_mul] at e1 ⊢
   have em: ∀f:Nat→Value,(Array.range 0).map f= #[]:=fun f=>Array.eq_empty_of_size_eq_zero (by simp)
   rw[em] at e1
   simp only[pure_bind,em,e1,Sem.run_bind,kN,Result.andThen_ok,Sem.run_pure]
  ·rw[if_neg h0]
   simp only[Sem.run_bind,fS hi hzz,Result.andThen_ok,Sem.run_pure]
   rw[e1]
   simp only[Sem.run_bind,kN,Result.andThen_ok,Sem.run_pure]
 ·have:n≤n*cs.length:=Nat.le_mul_of_pos_right _ (by omega)
  simp only[maxLen];omega
 ·rw[List.getElem?_map] at he'
  rcases h:(List.range n)[k]? with _ | k'
  ·rw[h] at he';cases he'
  ·rw[h] at he';cases he'
   have hk:k<n:=by have:=(List.getElem?_eq_some_iff.1 h).1;simpa using this
   have hk':k'=k:=by rw[List.getElem?_range hk] at h;cases h;rfl
   subst hk'
   have hkl:(k'+1)*cs.length≤n*cs.length:=Nat.mul_le_mul_right _ hk
   rw[Nat.add_mul] at hkl
   refine⟨by simp;omega,fun j x hx=> ?_⟩
   have hj:j<cs.length:=by have:=(List.getElem?_eq_some_iff.1 hx).1;simp at this;omega
   rw[List.getElem?_take_of_lt hj,List.getElem?_drop] at hx
   exact e2.2 _ x hx
theorem kP {b:Bool} {len cap:Nat} {lo hi:Option Value} {l h:Int} (hlo:(lo=none∧l=0)∨ ∃k,lo=some (.int k l)) (hhi:(hi=none∧h=len)∨ ∃k,hi=some (.int k h))
  (h0:0≤l) (h1:l≤h) (h2:h≤len) (h3:len≤cap):(Instr.sliceBounds b len cap lo hi none).run P w= .ok (l.toNat,h.toNat,cap) w:=by
 have h4:0≤h:=by omega
 have h5:h≤cap:=by omega
 have eh:(h.toNat:Int)=h:=Int.toNat_of_nonneg h4
 rcases hlo with ⟨rfl,rfl⟩| ⟨k,rfl⟩<;>rcases hhi with ⟨rfl,rfl⟩| ⟨k',rfl⟩<;>
  simp[Instr.sliceBounds,run_sliceBound,eh,h0,h1,h2,h4,h5]
def loI :Option V→Option Int | none=>some 0 | some (.int _ n)=>some n | _=>none
def hiI (len:Nat):Option V→Option Int | none=>some (len:Int)| some (.int _ n)=>some n | _=>none
theorem B1 {lo:Option Operand} (hs:Sim w0 M F σ a w) {l:Int} (h:loI (lo.map σ.ev)=some l):(lo.map a.eval=none∧l=0)∨ ∃k,lo.map a.eval=some (.int k l):=by
 cases lo with
 | none => cases h; exact .inl ⟨rfl, rfl⟩
 | some x =>
   have hx:=hs.ev x
   simp only[Option.map_some] at h ⊢
   generalize σ.ev x=xv at h hx
   generalize a.eval x=av at hx
   cases hx<;>simp only[loI] at h<;>try (cases h;done)
   cases h
   exact .inr ⟨_,rfl⟩
theorem C7 {hi:Option Operand} (hs:Sim w0 M F σ a w) {len:Nat} {l:Int} (h:hiI len (hi.map σ.ev)=some l):(hi.map a.eval=none∧l=len)∨ ∃k,hi.map a.eval=some (.int k l):=by
 cases hi with
 | none => cases h; exact .inl ⟨rfl, rfl⟩
 | some x =>
   have hx:=hs.ev x
   simp only[Option.map_some] at h ⊢
   generalize σ.ev x=xv at h hx
   generalize a.eval x=av at hx
   cases hx<;>simp only[hiI] at h<;>try (cases h;done)
   cases h
   exact .inr ⟨_,rfl⟩
theorem sound_slice {o:Oper} {t:TypeId} {x:Operand} {lo hi mx:Option Operand} (ho:o.op= .slice t x lo hi mx) (hT:T P o K σ) (hs:Sim w0 M F σ a w) {Q:Exit→Act→World→Prop} :o.wp P a w (Nx w0 M F K) Q:=by
 unfold T at hT;rw[ho] at hT
 cases mx with
 | some _ => exact hT.elim
 | none =>
 obtain⟨v,hv,hK⟩:=hT
 have hx:=hs.ev x
 have: ∃r,(Instr.sliceAt t (a.eval x) (lo.map a.eval) (hi.map a.eval) none).run P w= .ok r w∧Rep F w v r:=by
  generalize σ.ev x=xv at hv hx
  generalize a.eval x=av at hx
  have hsl: ∀ {e sz len cap l h:Nat} {ad:Option Addr},P.underlying t=some (.slice e)→csz P e=some sz→(Instr.sliceBounds true len cap (lo.map a.eval) (hi.map a.eval) none).run P w= .ok (l,h,cap) w→
    (Instr.sliceAt t (.slice ad len cap) (lo.map a.eval) (hi.map a.eval) none).run P w= .ok (.slice (if cap=l then ad else ad.map (·.add (l*sz))) (h - l) (cap - l)) w:=by
   intro e sz len cap l h ad hu hz hb
   simp only[Instr.sliceAt,Sem.run_bind,run_underlying hu,Result.andThen_ok,Instr.slice,hb,run_sizeOf hz,Sem.run_pure]
  cases hx<;>simp only[sliV] at hv<;>try (cases hv;done)
  case str s=>
   split at hv
   ·rename_i hst
    change(match loI (lo.map σ.ev),hiI s.size (hi.map σ.ev) with | some l,some h=>if 0≤l∧l≤h∧h≤s.size then some (V.str (s.extract l.toNat h.toNat)) else none | _,_=>none)=some v at hv
    split at hv
    ·rename_i l h hl hh
     split at hv
     ·rename_i hc
      cases hv
      refine⟨.string (s.extract l.toNat h.toNat),?_,.str _⟩
      have hb:=kP (P:=P) (w:=w) (b:=false) (B1 hs hl) (C7 hs hh) hc.1 hc.2.1 hc.2.2 (Nat.le_refl _)
      simp only[Instr.sliceAt,Sem.run_bind,run_underlying (kR hst),Result.andThen_ok,Instr.slice]
      rw[if_neg (by simp)]
      simp only[Sem.run_bind,hb,Result.andThen_ok,Sem.run_pure]
     ·cases hv
    ·cases hv
   ·cases hv
  case sl0 ad cap ha=>
   split at hv
   ·rename_i e he
    split at hv
    ·rename_i cO
     simp only[List.all_nil,Bool.true_and] at cO
     obtain⟨sz,hsz⟩:=Option.isSome_iff_exists.1 cO
     change(match loI (lo.map σ.ev),hiI 0 (hi.map σ.ev) with | some l,some h=>if 0≤l∧l≤h∧h≤((0:Nat):Int) then some (V.sl ((([]:List (List V)).take h.toNat).drop l.toNat)) else none | _,_=>none)=some v at hv
     split at hv
     ·rename_i l h hl hh
      split at hv
      ·rename_i hc
       cases hv
       have hb:=kP (P:=P) (w:=w) (b:=true) (B1 hs hl) (C7 hs hh) hc.1 hc.2.1 hc.2.2 (Nat.zero_le cap)
       refine⟨_,hsl (bN he) hsz hb,?_⟩
       have:((([]:List (List V)).take h.toNat).drop l.toNat)= []:=by simp
       rw[this,show h.toNat - l.toNat=0 from by omega]
       exact .sl0 _ _ (fun hn=>by
        cases ad with
        | none => have := ha rfl; omega
        | some a => revert hn; split <;> simp)
      ·cases hv
     ·cases hv
    ·cases hv
   ·cases hv
  case sl b off cap sz xs u hF hle iT hsz hc hr=>
   split at hv
   ·rename_i e he
    split at hv
    ·rename_i cO
     rw[Bool.and_eq_true] at cO
     obtain⟨cO,zB⟩:=cO
     obtain⟨sz',K7⟩:=Option.isSome_iff_exists.1 zB
     change(match loI (lo.map σ.ev),hiI xs.length (hi.map σ.ev) with | some l,some h=>if 0≤l∧l≤h∧h≤(xs.length:Int) then some (V.sl ((xs.take h.toNat).drop l.toNat)) else none | _,_=>none)=some v at hv
     split at hv
     ·rename_i l h hl hh
      split at hv
      ·rename_i hcc
       cases hv
       have hb:=kP (P:=P) (w:=w) (b:=true) (B1 hs hl) (C7 hs hh) hcc.1 hcc.2.1 hcc.2.2 hle
       refine⟨_,hsl (bN he) K7 hb,?_⟩
       obtain⟨l,rfl⟩:=Int.eq_ofNat_of_zero_le hcc.1
       obtain⟨h,rfl⟩:=Int.eq_ofNat_of_zero_le (Int.le_trans hcc.1 hcc.2.1)
       simp only[Int.toNat_natCast]
       have hlen:((xs.take h).drop l).length=h - l:=by simp;omega
       rcases Nat.eq_or_lt_of_le (show l≤h by omega) with rfl | hlt
       ·have:((xs.take l).drop l)= []:=List.eq_nil_of_length_eq_zero (by rw[hlen];omega)
        rw[this,Nat.sub_self]
        exact .sl0 _ _ (fun hn=>by revert hn;split<;>simp)
       ·have hx0:xs[l]? =some (xs[l]'(by omega)):=List.getElem?_eq_getElem (by omega)
        have Vc:sz'=sz:=by
         have h1:=List.all_eq_true.1 cO _ (List.mem_of_getElem? hx0)
         have h2:=hsz _ (List.mem_of_getElem? hx0)
         rw[K7,h2] at h1
         simpa using h1
        subst Vc
        rw[if_neg (by omega),←hlen]
        simp only[Option.map_some,dH]
        refine .sl b (off+l*sz') (cap - l) sz' _ (fun i j=>u (l+i) j) hF (by rw[hlen];omega) (by omega) (fun c hc=>hsz c (List.mem_of_mem_take (List.mem_of_mem_drop hc))) (fun i c j x h1 h2=> ?_) (fun i c j x h1 h2=> ?_)
        ·have hi:i<h - l:=by rw[←hlen];exact(List.getElem?_eq_some_iff.1 h1).1
         rw[List.getElem?_drop,List.getElem?_take_of_lt (by omega)] at h1
         have:=hc (l+i) c j x h1 h2
         rw[Nat.add_mul] at this
         rw[←this];congr 2;omega
        ·have hi:i<h - l:=by rw[←hlen];exact(List.getElem?_eq_some_iff.1 h1).1
         rw[List.getElem?_drop,List.getElem?_take_of_lt (by omega)] at h1
         exact hr (l+i) c j x h1 h2
      ·cases hv
     ·cases hv
    ·cases hv
   ·cases hv
  case lsl g sz off n cap hg hle iT hbk=>
   split at hv
   ·rename_i e he
    change(match loI (lo.map σ.ev),hiI n (hi.map σ.ev) with | some l,some h=>if 0≤g∧0≤l∧l≤h∧h≤(n:Int)∧csz P e=some sz then(if l=0 then some (V.lsl g sz off h.toNat) else if l=h then some (.sl []) else some (.lsl g sz (off+l.toNat) (h.toNat - l.toNat))) else none | _,_=>none)=some v at hv
    split at hv
    ·rename_i l h hl hh
     split at hv
     ·rename_i hcc
      obtain⟨_,h0,h1,h2,hsz⟩:=hcc
      have hb:=kP (P:=P) (w:=w) (b:=true) (B1 hs hl) (C7 hs hh) h0 h1 h2 hle
      refine⟨_,hsl (bN he) hsz hb,?_⟩
      obtain⟨l,rfl⟩:=Int.eq_ofNat_of_zero_le h0
      obtain⟨h,rfl⟩:=Int.eq_ofNat_of_zero_le (Int.le_trans h0 h1)
      simp only[Int.toNat_natCast] at hv ⊢
      obtain⟨c,t',f,P7,xX⟩:=hbk
      split at hv
      ·rename_i hl0
       have hl0:l=0:=by omega
       subst hl0
       cases hv
       have:(if cap=0 then some (⟨g.toNat,off*sz,none⟩:Addr) else Option.map (fun x:Addr=>x.add (0*sz)) (some ⟨g.toNat,off*sz,none⟩))=some ⟨g.toNat,off*sz,none⟩:=by
        split
        ·rfl
        ·simp[dH]
       rw[this]
       simp only[Nat.sub_zero]
       exact .lsl g sz off h cap hg (by omega) iT ⟨c,t',f,P7,xX⟩
      ·split at hv
       ·rename_i hl0 hlh
        cases hv
        rw[show h - l=0 from by omega]
        exact .sl0 _ _ (fun hn=>by revert hn;split<;>simp)
       ·rename_i hl0 hlh
        cases hv
        rw[if_neg (by omega)]
        simp only[Option.map_some,dH]
        have:=Rep.lsl (F:=F) (w:=w) g sz (off+l) (h - l) (cap - l) hg (by omega) (by omega) ⟨c,t',f,P7,by rw[show off+l+(cap - l)=off+cap from by omega];exact xX⟩
        rw[Nat.add_mul] at this
        exact this
     ·cases hv
    ·cases hv
   ·cases hv
  case lsln g sz hg=>
   split at hv
   ·rename_i e he
    change(match loI (lo.map σ.ev),hiI 0 (hi.map σ.ev) with | some l,some h=>if 0≤g∧0≤l∧l≤h∧h≤((0:Nat):Int)∧csz P e=some sz then(if l=0 then some (V.lsl g sz 0 h.toNat) else if l=h then some (.sl []) else some (.lsl g sz (0+l.toNat) (h.toNat - l.toNat))) else none | _,_=>none)=some v at hv
    split at hv
    ·split at hv
     ·rename_i hcc;omega
     ·cases hv
    ·cases hv
   ·cases hv
 obtain⟨r,hr,bU⟩:=this
 refine aW (v:=r) (w':=w) ?_ (dO hs bU hK)
 simp only[execOp,ho,Sem.run_bind,hr,Result.andThen_ok,Sem.run_pure,Option.map_none]
end

section
variable {P : Program} {K : St → Prop} {σ : St} {w0 : World} {M F : Nat → Prop} {a : Act} {w : World} {bl : Int → Option Blk}
def Laid (F:Nat→Prop) (w:World) (v:Value) (sz:Nat) (ys:List (List V)):Prop:=
 ∃(xa:Option Addr) (xc:Nat) (news:List Value),v= .slice xa ys.length xc∧news.length=ys.length*sz∧(ys= []∨ ∃b o,xa=some ⟨b,o,none⟩∧ ∀j u,news[j]? =some u→w.cell? ⟨b,o+j,none⟩=some u)∧
  (∀u,u∈news→u.oneCell'=true)∧ ∀i e,ys[i]? =some e→e.length=sz∧ ∀j y,e[j]? =some y→y.one=true∧ ∃u:Value,news[i*sz+j]? =some u∧Rep F w y u
theorem nF (v:Value) (xa:Option Addr) (xc sz:Nat) (h:v= .slice xa 0 xc):Laid F w v sz []:=
 ⟨xa,xc,[],h,by simp,.inl rfl,by simp,fun i e he=>by cases he⟩
theorem oO {v:Value} {b o sz xc:Nat} {ys:List (List V)} (hv:v= .slice (some ⟨b,o,none⟩) ys.length xc) (hsz:1≤sz)
  (hk: ∀i e,ys[i]? =some e→e.length=sz∧ ∀j y,e[j]? =some y→y.one=true∧ ∃u,w.cell? ⟨b,o+i*sz+j,none⟩=some u∧Rep F w y u):Laid F w v sz ys:=by
 have iL: ∀p,p<ys.length*sz→ ∃e y u,ys[p / sz]? =some e∧e[p % sz]? =some y∧y.one=true∧w.cell? ⟨b,o+p,none⟩=some u∧Rep F w y u:=by
  intro p hp
  have hi:p / sz<ys.length:=(Nat.div_lt_iff_lt_mul (by omega)).2 hp
  have hj:p % sz<sz:=Nat.mod_lt _ (by omega)
  obtain⟨h1,h2⟩:=hk (p / sz) _ (List.getElem?_eq_getElem hi)
  have h3:(ys[p / sz])[p % sz]? =some ((ys[p / sz])[p % sz]'(by rw[h1];exact hj)):=List.getElem?_eq_getElem _
  obtain⟨h4,u,h5,h6⟩:=h2 _ _ h3
  refine⟨_,_,u,List.getElem?_eq_getElem hi,h3,h4,?_,h6⟩
  rw[←h5,Nat.add_assoc,Nat.mul_comm (p / sz),Nat.div_add_mod]
 refine⟨_,xc,(List.range (ys.length*sz)).map fun p=>(w.cell? ⟨b,o+p,none⟩).getD undef,hv,by simp,.inr ⟨b,o,rfl,fun j u hu=> ?_⟩,fun u hu=> ?_,fun i e he=> ?_⟩
 ·rw[List.getElem?_map] at hu
  have hj:j<ys.length*sz:=by
   rcases Nat.lt_or_ge j (ys.length*sz) with h | h
   ·exact h
   ·rw[List.getElem?_eq_none (by simpa using h)] at hu;cases hu
  rw[List.getElem?_range hj] at hu
  obtain⟨_,_,u',_,_,_,h5,_⟩:=iL j hj
  simp only[Option.map_some,h5,Option.getD_some,Option.some.injEq] at hu
  subst hu;exact h5
 ·obtain⟨p,hp,rfl⟩:=List.mem_map.1 hu
  obtain⟨_,y,u',_,_,h4,h5,h6⟩:=iL p (List.mem_range.1 hp)
  rw[h5,Option.getD_some]
  exact h6.one h4
 ·obtain⟨h1,h2⟩:=hk i e he
  refine⟨h1,fun j y hy=> ?_⟩
  obtain⟨h3,u,h4,h5⟩:=h2 j y hy
  refine⟨h3,u,?_,h5⟩
  have hil:i<ys.length:=(List.getElem?_eq_some_iff.1 he).1
  have hjl:j<sz:=by have:=(List.getElem?_eq_some_iff.1 hy).1;omega
  rw[List.getElem?_map,List.getElem?_range (B0 hil hjl)]
  simp only[Option.map_some,Option.some.injEq]
  rw[←Nat.add_assoc,h4];rfl
theorem kQ (hm:Mem w0 M F bl w) {x:V} {v:Value} (hx:Rep F w x v) {sz:Nat} {ys:List (List V)} (hsz:1≤sz) (h:elsV bl sz x=some ys):Laid F w v sz ys:=by
 cases hx<;>simp only[elsV] at h<;>try (cases h;done)
 case nils=>cases h;exact nF _ none 0 sz rfl
 case sle ad cap=>cases h;exact nF _ (some ad) cap sz rfl
 case sl0 ad cap ha=>
  split at h
  ·cases h;exact nF _ ad cap sz rfl
  ·cases h
 case sl b o cap sz' xs u hF hle iT K7 hc hr=>
  split at h
  ·rename_i cO
   cases h
   have dU: ∀c,c∈ys→c.length=sz∧c.all V.one=true:=fun c hcm=>by
    have:=List.all_eq_true.1 cO c hcm
    simpa using this
   refine oO rfl hsz fun i e he=>⟨(dU e (List.mem_of_getElem? he)).1,fun j y hy=>⟨List.all_eq_true.1 (dU e (List.mem_of_getElem? he)).2 y (List.mem_of_getElem? hy),u i j,?_,hr i e j y he hy⟩⟩
   have h1:=K7 e (List.mem_of_getElem? he)
   have h2:=(dU e (List.mem_of_getElem? he)).1
   rw[←h2,h1];exact hc i e j y he hy
  ·cases h
 case lsl g s o n cap hg hle iT hb=>
  rw[if_neg (by omega)] at h
  split at h
  ·rename_i b hbl
   split at h
   ·rename_i hc
    cases h
    obtain⟨h1,h2,h3⟩:=hc
    subst h1 h2
    rcases Nat.eq_zero_or_pos n with rfl | hn
    ·rw[List.take_zero];exact nF _ _ cap b.sz rfl
    ·obtain⟨_,hFg,c,t,hcc,hlen,iL⟩:=(hm.blk g b hbl).at (k:=o) (by omega)
     have hl:((b.els.drop o).take n).length=n:=by simp;omega
     refine oO (b:=g.toNat) (o:=o*b.sz) (xc:=cap) (by rw[hl]) hsz fun i e he=> ?_
     have hi:i<n:=by rw[←hl];exact(List.getElem?_eq_some_iff.1 he).1
     rw[List.getElem?_take_of_lt hi,List.getElem?_drop] at he
     obtain⟨h4,h5⟩:=iL (o+i) e he
     refine⟨h4,fun j y hy=> ?_⟩
     obtain⟨h6,u,h7,h8⟩:=h5 j y hy
     refine⟨h6,u,?_,h8⟩
     rw[fM hcc,←h7,Nat.add_mul]
   ·cases h
  ·cases h
 case lsln g s hg=>
  rw[if_pos hg] at h
  cases h
  exact nF _ none 0 sz rfl
theorem tA : ∀ {els:List (List V)} {ns:List Int},bytesOf els=some ns→els=ns.map fun n=> [.int .u8 n]
 | [], ns, h => by cases h; rfl
 | e :: r, ns, h => by
   unfold bytesOf at h
   split at h
   ·rename_i heq;cases heq
   ·rename_i n r' heq
    cases heq
    split at h
    ·rename_i ns' hn
     cases h
     rw[tA hn];rfl
    ·cases h
   ·cases h
theorem xZ {o:Oper} {s d:TypeId} {x:Operand} (ho:o.op= .convert s d x) (hT:T P o K σ) (hs:Sim w0 M F σ a w) {Q:Exit→Act→World→Prop} :o.wp P a w (Nx w0 M F K) Q:=by
 unfold T at hT;rw[ho] at hT
 obtain⟨v,hv,hK⟩:=hT
 have hx:=hs.ev x
 have hm:=hs.mem
 have: ∃r,(convert s d (a.eval x)).run P w= .ok r w∧Rep F w v r:=by
  have bytes:cvtS P σ.bl s d (σ.ev x)=some v→ ∃r,(convert s d (a.eval x)).run P w= .ok r w∧Rep F w v r:=by
   intro h
   unfold cvtS at h
   split at h
   ·rename_i e he hd
    split at h
    ·rename_i els hu Wp
     split at h
     ·rename_i ns hns
      cases h
      obtain⟨xa,xc,news,hxv,hnl,hnc,hno,hnr⟩:=kQ hm hx (Nat.le_refl 1) Wp
      have Hb:=tA hns
      have aFI:news=ns.map (Value.int .u8):=by
       apply List.ext_getElem?
       intro i
       rw[List.getElem?_map]
       rcases Nat.lt_or_ge i ns.length with hi | hi
       ·have h1:els[i]? =some [.int .u8 ns[i]]:=by rw[Hb,List.getElem?_map,List.getElem?_eq_getElem hi];rfl
        obtain⟨_,h2⟩:=hnr i _ h1
        obtain⟨_,u,h3,h4⟩:=h2 0 _ rfl
        rw[List.getElem?_eq_getElem hi]
        cases h4
        simpa using h3
       ·have:els.length=ns.length:=by rw[Hb];simp
        rw[List.getElem?_eq_none hi,List.getElem?_eq_none (by rw[hnl,this];omega)];rfl
      have hlen:els.length=ns.length:=by rw[Hb];simp
      refine⟨.string (uN ns),?_,.str _⟩
      rw[hxv,run_convert_bytes_string w s d e xa els.length xc (bN he) (uX hu) (kR hd)]
      cases xa with
      | none =>
        rcases hnc with h0 | ⟨b,off,h0,_⟩
        ·subst h0
         have:ns= []:=List.eq_nil_of_length_eq_zero (by simpa using hlen.symm)
         subst this
         simp[Conv.bytesToString,uN]
        ·cases h0
      | some ad =>
        refine run_bytesToString w ad els.length xc ns ?_
        rcases hnc with h0 | ⟨b,off,h0,jF⟩
        ·subst h0
         have:ns= []:=List.eq_nil_of_length_eq_zero (by simpa using hlen.symm)
         subst this
         simp[loadCells,loadCellsFrom]
        ·cases h0
         simp only[loadCells]
         rw[run_loadCellsFrom (fun j=>news.getD j undef) els.length 0 #[] (fun j hj=>by
          have hj':j<news.length:=by rw[hnl];omega
          rw[Nat.zero_add,jF j news[j] (List.getElem?_eq_getElem hj')]
          simp[hj'])]
         congr 1
         rw[←aFI]
         apply Array.ext
         ·simp[hnl]
         ·intro i h1 h2
          have hi:i<news.length:=by simpa using h2
          simp[hi]
     ·cases h
    ·cases h
   ·cases h
  cases hxe:σ.ev x with
  | int k n =>
    rw[hxe] at hv hx
    simp only[cvtV] at hv
    generalize a.eval x=av at hx
    cases hx
    split at hv
    ·rename_i k' ds hk hd
     cases hv
     refine⟨.int k' (k'.wrap n),?_,.int _ _⟩
     simp only[convert,Sem.run_bind,run_underlying hd,run_underlying (uX hk),Result.andThen_ok]
     cases ds<;>rfl
    ·cases hv
  | _ => exact bytes (by rw [hxe] at hv ⊢; exact hv)
 obtain⟨r,hr,bU⟩:=this
 refine aW (v:=r) (w':=w) ?_ (dO hs bU hK)
 simp only[execOp,ho,Sem.run_bind,hr,Result.andThen_ok,Sem.run_pure]
theorem Mem.drew (h:Mem w0 M F bl w):Mem w0 M F bl w.drew:=h.grow (w':=w.drew) rfl rfl rfl (Nat.le_refl _) (fun _ _=>rfl) (fun _ h=>h) h.fr (fun k hk=> .inl hk)
theorem Rep.drew {x:V} {v:Value} (h:Rep F w x v):Rep F w.drew x v:=
 Rep.mono (F:=F) (F':=F) (w:=w) (w':=w.drew) (fun _ h=>h) (fun _ _=>rfl) (.of_same fun _ _=>rfl) h
theorem E6 {g:Int} {sz o n:Nat} {v:Value} (h:Rep F w (.lsl g sz o n) v):(g<0∧o=0∧n=0∧v= .slice none 0 0)∨
  (0≤g∧ ∃cap,n≤cap∧cap≤maxLen∧v= .slice (some ⟨g.toNat,o*sz,none⟩) n cap∧ ∃c t f,w.heap[g.toNat]? =some (.cells c t f)∧(o+cap)*sz≤c.size):=by
 generalize hx:V.lsl g sz o n=x at h
 cases h<;>cases hx
 ·exact .inr ⟨by assumption,_,by assumption,by assumption,rfl,by assumption⟩
 ·rename_i hg;exact .inl ⟨hg,rfl,rfl,rfl⟩
theorem Mem.forget (h:Mem w0 M F bl w) (g:Int):Mem w0 M F (rem bl g) w:=by
 refine⟨h.os,h.tape,h.output,h.size,h.frame,h.gP,h.fr,?_,fun g' b hb=> ?_,fun g' b hb=> ?_⟩
 ·obtain⟨n,hn⟩:=h.fin
  exact⟨n,fun g' hg'=>by unfold rem;split;rfl;exact hn g' hg'⟩
 all_goals
  unfold rem at hb
  split at hb
  ·cases hb
 ·exact h.own g' b hb
 ·exact h.blk g' b hb
theorem Mem.ghost (h:Mem w0 M F bl w) (sz:Nat): ∃g:Int,g<0∧bl g=none∧Mem w0 M F (upd bl g (some ⟨sz,[]⟩)) w:=by
 obtain⟨n,hn⟩:=h.fin
 refine⟨min (n - 1) (-1),by omega,hn _ (by omega),⟨h.os,h.tape,h.output,h.size,h.frame,h.gP,h.fr,⟨min (n - 1) (-1),fun g hg=> ?_⟩,fun g b hb h0=> ?_,fun g b hb=> ?_⟩⟩
 ·rw[aL _ _ _ _ (by omega)];exact hn g (by omega)
 ·rw[aL _ _ _ _ (by omega)] at hb;exact h.own g b hb h0
 ·by_cases hg:g=min (n - 1) (-1)
  ·subst hg
   rw[bO] at hb;cases hb
   unfold cA;rw[if_pos (by omega)]
  ·rw[aL _ _ _ _ hg] at hb;exact h.blk g b hb
theorem I4 (hs:Sim w0 M F σ a w) (bl1:Int→Option Blk) (hm:Mem w0 M F bl1 w) {d:Option Nat} {e:TypeId} {sz:Nat} (els:List (List V)) (all:List Value) (rest:Array Value) (cap:Nat)
  (hl:all.length=els.length*sz) (iT:cap≤maxLen) (hle:els.length≤cap) (hrest:rest.size=(cap - els.length)*sz)
  (hk: ∀i e,els[i]? =some e→e.length=sz∧ ∀j y,e[j]? =some y→y.one=true∧ ∃u:Value,all[i*sz+j]? =some u∧Rep F w y u)
  (hK: ∀g:Int,(0≤g∨els= [])→bl1 g=none→K (({ σ with bl:=upd bl1 g (some ⟨sz,els⟩) } :St).put d (.lsl g sz 0 els.length))):
  Nx w0 M F K (a.put d (.slice (some ⟨w.heap.size,0,none⟩) els.length cap)) (w.drew.alloc (.cells (all.toArray++rest) e)):=by
 have yZ:(all.toArray++rest).size=cap*sz:=by
  rw[Array.size_append,List.size_toArray,hl,hrest,←Nat.add_mul,Nat.add_sub_cancel' hle]
 obtain⟨hnn,hm'⟩:=hm.drew.alloc (all.toArray++rest) e sz els (by rw[yZ];exact Nat.mul_le_mul_right _ hle) (fun k e' he=>⟨(hk k e' he).1,fun j y hy=>by
  obtain⟨h1,u,h2,h3⟩:=(hk k e' he).2 j y hy
  refine⟨h1,u,?_,h3.drew⟩
  rw[Array.getElem?_append_left (by simpa using (List.getElem?_eq_some_iff.1 h2).1)]
  simpa using h2⟩)
 have dU: ∀k,k<w.heap.size→(w.drew.alloc (.cells (all.toArray++rest) e)).heap[k]? =w.heap[k]? :=fun k hk=>Below.heap_alloc w.drew _ _ hk
 have hs':Sim w0 M F ({ σ with bl:=upd bl1 (w.heap.size:Int) (some ⟨sz,els⟩) } :St) a (w.drew.alloc (.cells (all.toArray++rest) e)):=
  ⟨hm',hs.size,fun t ht=>(hs.sl t ht).mono (fun _ h=>h) (fun k hk=>dU k (hs.mem.fr k hk)) (.of_same dU),hs.defers⟩
 refine⟨_,F,fun _ h=>h,hs'.put ?_,hK _ (.inl (by omega)) hnn⟩
 have:=Rep.lsl (F:=F) (w:=w.drew.alloc (.cells (all.toArray++rest) e)) (w.heap.size:Int) sz 0 els.length cap (by omega) hle iT ⟨all.toArray++rest,e,(0,0),by show(w.heap.push _)[w.heap.size]? =_;simp,by rw[yZ];simp⟩
 simpa using this
theorem B4 {o:Oper} {c:Call} (ho:o.op= .call c) (hc:c.callee= .builtin .append) (hT:T P o K σ) (hs:Sim w0 M F σ a w) {Q:Exit→Act→World→Prop} :o.wp P a w (Nx w0 M F K) Q:=by
 unfold T at hT;rw[ho] at hT
 simp only[hc] at hT
 obtain⟨⟨bl1,sz,els⟩,hv,h1,h2,hb,hK⟩:=hT
 obtain⟨s,x,hsx⟩:=Ou h1
 obtain⟨t,tx,htx⟩:=Ou h2
 rw[hsx,htx] at hv
 rw[htx] at hb
 have hv':appV P t tx σ.bl (σ.ev s) (σ.ev x)=some (bl1,sz,els):=hv
 have hb':(slE P t).elim False (fun e=>els.length*bsz P e≤140737488355328∧1≤bsz P e∧ ∃z,zeroC P e=some z∧1≤z.length):=hb
 clear hv hb
 unfold appV at hv'
 split at hv'
 ·rename_i e he htt
  have aLM:t=tx:=of_decide_eq_true htt
  subst aLM
  rw[he] at hb'
  obtain⟨D4,hb1,z,hz,hz1⟩:=hb'
  obtain⟨i,zv,hi,hzz,hcs,gD,hlen⟩:=iF hz
  have aKG:csz P e=some i.size:=by simp[csz,hi]
  have hbs:bsz P e=i.bytes:=by simp[bsz,hi]
  have aCO:1≤i.size:=by omega
  have Si:zv.cells.size=i.size:=by rw[←hlen,hcs];simp
  rw[hbs] at D4 hb1
  rw[aKG] at hv'
  simp only[Option.getD_some] at hv'
  split at hv'
  ·rename_i sz' ys K7 hys
   cases K7
   have hL:=kQ hs.mem (hs.ev x) aCO hys
   obtain⟨xa,xc,news,hxv,hnl,hnc,hno,hnr⟩:=hL
   have Bg: ∀ {r:Value} {w':World},(Builtin.append_ #[t,t] o.type #[a.eval s,a.eval x]).run P w= .ok r w'→Nx w0 M F K (a.put o.dst r) w'→o.wp P a w (Nx w0 M F K) Q:=by
    intro r w' hr hn
    refine aW (v:=r) (w':=w') ?_ hn
    simp only[execOp,ho,resolve,hc,Sem.run_bind,Sem.run_pure,Result.andThen_ok,invoke,builtin,hsx,htx,List.map_toArray,List.map_cons,List.map_nil,hr]
   have hsv:=hs.ev s
   have G8:a.eval s= .slice none 0 0→els=ys→sz=i.size→Mem w0 M F bl1 w→o.wp P a w (Nx w0 M F K) Q:=by
    intro hsn hey Vc hm1
    subst hey Vc
    by_cases hm0:els= []
    ·subst hm0
     obtain⟨g,hg0,hgn,hmg⟩:=hm1.ghost i.size
     have aGP:([]:List (List V)).length=0:=rfl
     rw[aGP] at hxv
     refine Bg (r:= .slice none 0 0) (w':=w) ?_ ?_
     ·rw[hsn,hxv]
      cases xa with
      | none => simp [Builtin.append_, run_underlying (bN he), sizeOf, typeInfo, hi, Builtin.lenOf, Builtin.firstCells]
      | some ad => simp [Builtin.append_, run_underlying (bN he), sizeOf, typeInfo, hi, Builtin.lenOf, Builtin.firstCells, loadCells, loadCellsFrom]
     ·have hs':Sim w0 M F ({ σ with bl:=upd bl1 g (some ⟨i.size,[]⟩) } :St) a w:=⟨hmg,hs.size,hs.sl,hs.defers⟩
      exact⟨_,F,fun _ h=>h,hs'.put (.lsln g i.size hg0),hK g (.inr rfl) hgn⟩
    ·rcases hnc with h | ⟨b,off,rfl,jF⟩
     ·exact absurd h hm0
     ·have pG:0<els.length:=List.length_pos_iff.2 hm0
      have hmb:els.length≤9223372036854775807:=by
       have:els.length*1≤els.length*i.bytes:=Nat.mul_le_mul_left _ hb1
       omega
      have hr:=run_append_nil (P:=P) w t o.type e i zv (bN he) hi hzz ⟨b,off,none⟩ els.length xc news hnl (fun j u hu=>by rw[dH];exact jF j u hu) pG (by omega) (by omega)
      refine Bg (by rw[hsn,hxv];exact hr) ?_
      refine I4 hs bl1 hm1 els news _ _ hnl (grownCap_le_maxLen w _ _ _ (by simp only[maxLen];omega)) (grownCap_ge w _ _ _) (by rw[size_zeroCells,Si]) hnr hK
   cases hss:σ.ev s<;>rw[hss] at hv' hsv<;>simp only at hv'<;>try (cases hv';done)
   case nils=>
    cases hv'
    generalize hav:a.eval s=av at hsv
    cases hsv
    exact G8 hav rfl rfl hs.mem
   case lsl g s' o' n=>
    split at hv'
    ·rename_i b hbg
     split at hv'
     ·rename_i hcc
      obtain⟨rfl,rfl,hs2,aPC⟩:=hcc
      cases hv'
      rcases E6 hsv with ⟨hg0,_,hn0,hav⟩| ⟨hg,cap,hle,iT,hav,cc,ct,cf,P7,xX⟩
      ·subst hn0
       exact G8 hav (by simp) rfl (hs.mem.forget g)
      ·have hav:a.eval s= .slice (some ⟨g.toNat,0,none⟩) n cap:=by rw[hav];simp
       have xV:b.sz=i.size:=hs2
       have hold:Laid F w (.slice (some ⟨g.toNat,0,none⟩) n cap) i.size (b.els.take n):=by
        have:=kQ (sz:=i.size) hs.mem (Rep.lsl (F:=F) (w:=w) g b.sz 0 n cap hg hle iT ⟨cc,ct,cf,P7,xX⟩) aCO (ys:=b.els.take n) (by
         simp only[elsV]
         rw[if_neg (by omega),hbg]
         simp only
         rw[if_pos ⟨trivial,xV,by omega⟩]
         simp)
        simpa using this
       have hbk:=hs.mem.blk g b hbg
       unfold cA at hbk
       rw[if_neg (by omega)] at hbk
       obtain⟨hFg,c0,t0,hc0,aBN,Im⟩:=hbk
       have aLT:cc=c0∧ct=t0:=by rw[P7] at hc0;cases hc0;exact⟨rfl,rfl⟩
       obtain⟨rfl,rfl⟩:=aLT
       have htl:(b.els.take n).length=n:=by simp;omega
       have hel:(b.els.take n++ys).length=n+ys.length:=by rw[List.length_append,htl]
       obtain⟨oa,oc,Pe,hov,hol,Om,hoo,hor⟩:=hold
       rw[htl] at hov hol
       rw[xV] at xX aBN Im
       by_cases hroom:n+ys.length≤cap
       ·
        have hf:(Builtin.firstCells i.size ys.length (.slice xa ys.length xc)).run P w= .ok news.toArray w:=by
         rcases hnc with h | ⟨bb,off,rfl,jF⟩
         ·subst h
          have hn0:news= []:=List.eq_nil_of_length_eq_zero (by simpa using hnl)
          subst hn0
          cases xa<;>simp[Builtin.firstCells,loadCells,loadCellsFrom]
         ·exact run_firstCells_some w i.size ys.length ⟨bb,off,none⟩ ys.length xc news hnl (fun j u hu=>by rw[dH];exact jF j u hu)
        have Fs:(n+ys.length)*i.size≤cc.size:=by
         have:(n+ys.length)*i.size≤(0+cap)*i.size:=Nat.mul_le_mul_right _ (by omega)
         omega
        rw[Nat.add_mul] at Fs
        obtain⟨w',c',hst,g1,g2,g3,g4,g5,g6,g7,g8⟩:=mV (P:=P) (b:=g.toNat) (t:=ct) (o:=n*i.size) news w 0 cc hc0 (by rw[hnl];omega) hno
        have hsh:dM w w':=fun bb c2 t2 f2 hcc=>by
         by_cases hbb:bb=g.toNat
         ·subst hbb
          rw[hc0] at hcc
          cases hcc
          exact⟨c',_,g6,g7⟩
         ·exact⟨c2,f2,by rw[g5 _ hbb];exact hcc,rfl⟩
        have hFs: ∀k,F k→w'.heap[k]? =w.heap[k]? :=fun k hk=>g5 k (fun e=>hFg (e▸hk))
        have bU: ∀ {x v},Rep F w x v→Rep F w' x v:=fun hr=>Rep.mono (fun _ h=>h) hFs hsh hr
        have hm':Mem w0 M F (upd (rem σ.bl g) g (some ⟨b.sz,b.els.take n++ys⟩)) w':=by
         refine hs.mem.step g1 g2 g3 (by omega) hsh (fun k=>k=g.toNat) (fun k _ hk=>g5 k hk) (fun k hk=>hk▸hs.mem.own g b hbg hg) (fun k hk=>by rw[g4];exact hs.mem.fr k hk) ?_ fun g' b' hb'=> ?_
         ·obtain⟨nn,hnn⟩:=hs.mem.fin
          refine⟨min nn 0,fun g' hg'=> ?_⟩
          rw[aL _ _ _ _ (by omega)]
          unfold rem;split
          ·rfl
          ·exact hnn g' (by omega)
         ·by_cases hgg:g'=g
          ·subst hgg
           rw[bO] at hb'
           cases hb'
           refine⟨hs.mem.own g' b hbg,?_⟩
           unfold cA
           rw[if_neg (by omega)]
           refine⟨hFg,c',ct,g6,by rw[hel,g7];simp only[xV];rw[Nat.add_mul];omega,fun k e' he'=> ?_⟩
           simp only[xV]
           rcases Nat.lt_or_ge k n with hk | hk
           ·rw[List.getElem?_append_left (by omega)] at he'
            rw[List.getElem?_take_of_lt hk] at he'
            obtain⟨q1,q2⟩:=Im k e' he'
            refine⟨q1,fun j y hy=> ?_⟩
            obtain⟨q3,u,q4,q5⟩:=q2 j y hy
            refine⟨q3,u,?_,bU q5⟩
            have hj:j<i.size:=by have:=(List.getElem?_eq_some_iff.1 hy).1;omega
            have:=B0 hk hj
            rw[g8,if_neg (by omega)];exact q4
           ·rw[List.getElem?_append_right (by omega),htl] at he'
            obtain⟨q1,q2⟩:=hnr (k - n) e' he'
            refine⟨q1,fun j y hy=> ?_⟩
            obtain⟨q3,u,q4,q5⟩:=q2 j y hy
            refine⟨q3,u,?_,bU q5⟩
            have hj:j<i.size:=by have:=(List.getElem?_eq_some_iff.1 hy).1;omega
            have hkl:=(List.getElem?_eq_some_iff.1 he').1
            have hlt:=B0 hkl hj
            have xE:k*i.size=n*i.size+(k - n)*i.size:=by rw[←Nat.add_mul];congr 1;omega
            rw[g8,if_pos (by rw[hnl,xE];omega),show k*i.size+j - (n*i.size+0)=(k - n)*i.size+j from by rw[xE];omega]
            exact q4
          ·rw[aL _ _ _ _ hgg] at hb'
           unfold rem at hb'
           rw[if_neg hgg] at hb'
           refine⟨hs.mem.own g' b' hb',(hs.mem.blk g' b' hb').mono (fun _ h=>h) (fun h0 hF=> ?_) hFs hsh (fun h0=>g5 _ (by omega))⟩
           have hB:=hs.mem.blk g' b' hb'
           unfold cA at hB
           rw[if_neg (by omega)] at hB
           exact hB.1 hF
        refine Bg (r:= .slice (some ⟨g.toNat,0,none⟩) (n+ys.length) cap) (w':=w') ?_ ?_
        ·rw[hav,hxv]
         simp[Builtin.append_,run_underlying (bN he),sizeOf,typeInfo,hi,Builtin.lenOf,hroom,hf,dH,hst]
        ·have hs':Sim w0 M F ({ σ with bl:=upd (rem σ.bl g) g (some ⟨b.sz,b.els.take n++ys⟩) } :St) a w':=⟨hm',hs.size,fun t ht=>bU (hs.sl t ht),hs.defers⟩
         have hn:=hK g (.inl hg) (by simp[rem])
         simp only[hel] at hn
         rw[←xV] at hn
         refine⟨_,F,fun _ h=>h,hs'.put ?_,hn⟩
         have:=Rep.lsl (F:=F) (w:=w') g b.sz 0 (n+ys.length) cap hg hroom iT ⟨c',ct,(0,0),g6,by rw[xV,g7];exact xX⟩
         simpa using this
       ·
        rcases hnc with h | ⟨bb,off,rfl,jF⟩
        ·subst h;simp at hroom;omega
        have hmb:n+ys.length≤9223372036854775807:=by
         have:(n+ys.length)*1≤(n+ys.length)*i.bytes:=Nat.mul_le_mul_left _ hb1
         rw[hel] at D4
         omega
        have holds: ∀j u,Pe[j]? =some u→w.cell? ((⟨g.toNat,0,none⟩:Addr).add j)=some u:=by
         rcases Om with h | ⟨ob,oo,hoe,aKN⟩
         ·have hn0:n=0:=by rw[h] at htl;simpa using htl.symm
          subst hn0
          have:Pe= []:=List.eq_nil_of_length_eq_zero (by simpa using hol)
          subst this
          intro j u hu;cases hu
         ·rw[hoe] at hov
          cases hov
          intro j u hu;rw[dH];exact aKN j u hu
        have hr:=run_append_grow (P:=P) w t o.type e i zv (bN he) hi hzz ⟨g.toNat,0,none⟩ n cap Pe hol holds ⟨bb,off,none⟩ ys.length xc news hnl (fun j u hu=>by rw[dH];exact jF j u hu) (by omega) (by omega) (growslice_fits (by omega) (by rw[hel] at D4;exact D4))
        refine Bg (by rw[hav,hxv];exact hr) ?_
        have hK':=hK
        simp only at hK'
        rw[←xV] at hK'
        have hgn:=I4 (e:=e) hs (rem σ.bl g) (hs.mem.forget g) (sz:=b.sz) (b.els.take n++ys) (Pe++news) (Builtin.zeroCells zv.cells (grownCap w (n+ys.length) cap e - (n+ys.length))) (grownCap w (n+ys.length) cap e)
         (by rw[hel,List.length_append,hol,hnl,xV,Nat.add_mul]) (grownCap_le_maxLen w _ _ _ (by simp only[maxLen];omega)) (by rw[hel];exact grownCap_ge w _ _ _) (by rw[size_zeroCells,Si,hel,xV]) (fun k e' he'=> ?_) hK'
        ·rw[hel] at hgn
         rw[←List.append_toArray] at hgn
         exact hgn
        ·rw[xV]
         rcases Nat.lt_or_ge k n with hk | hk
         ·rw[List.getElem?_append_left (by omega)] at he'
          obtain⟨q1,q2⟩:=hor k e' he'
          refine⟨q1,fun j y hy=> ?_⟩
          obtain⟨q3,u,q4,q5⟩:=q2 j y hy
          refine⟨q3,u,?_,q5⟩
          rw[List.getElem?_append_left (List.getElem?_eq_some_iff.1 q4).1];exact q4
         ·rw[List.getElem?_append_right (by omega),htl] at he'
          obtain⟨q1,q2⟩:=hnr (k - n) e' he'
          refine⟨q1,fun j y hy=> ?_⟩
          obtain⟨q3,u,q4,q5⟩:=q2 j y hy
          refine⟨q3,u,?_,q5⟩
          have xE:k*i.size=n*i.size+(k - n)*i.size:=by rw[←Nat.add_mul];congr 1;omega
          rw[List.getElem?_append_right (by rw[hol,xE];omega),hol,show k*i.size+j - n*i.size=(k - n)*i.size+j from by rw[xE];omega]
          exact q4
     ·cases hv'
    ·cases hv'
  ·cases hv'
 ·cases hv'
end
end Go.Proofs.YticmgmemnpcbbaaGreat.Vm
