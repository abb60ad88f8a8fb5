import Derived.Test.YticmgmemnpcbbaaGreatQCFnWork3

namespace Go.Proofs.YticmgmemnpcbbaaGreat.Vm
open Go Go.RowKit
set_option linter.unusedVariables false
section
variable {P : Program} {ops : Array Oper} {w0 : World} {M F : Nat → Prop} {a : Act} {w : World}
def late (tl:Nat→Bool) (l:Array Bool) (i:Nat):Bool:=tl i || (List.range l.size).any fun k=>tl k && l.getD k false
def DL (P:Program) (ops:Array Oper) (blK:Int→Option Blk) (tl:Nat→Bool) (K:St→Prop):Nat→Array Bool→St→Prop
 | 0, l, σ => Region.ready .any ops l = [] ∧ K σ
 | fuel + 1, l, σ => (Region.ready .any ops l = [] → K σ) ∧ ∀ i ∈ Region.ready .any ops l, D1 P ops i (fun σ' => (late tl l i = false → Sub blK σ'.bl) ∧ DL P ops blK tl K fuel (l.setIfInBounds i true) σ') σ
theorem H0 {blK:Int→Option Blk} {tl:Nat→Bool} {K:St→Prop} {Q:Exit→Act→World→Prop} {F0:Nat→Prop} (hQ: ∀σ F a w,(∀b,F0 b→F b)→Sim w0 M F σ a w→K σ→Q .normal a w):
  ∀(fuel:Nat) (l:Array Bool) (σ:St) (F:Nat→Prop) (a:Act) (w:World),(∀b,F0 b→F b)→DL P ops blK tl K fuel l σ→Sim w0 M F σ a w→wpAny P .any ops Q fuel l a w
 | 0, l, σ, F, a, w, hF, h, hs => ⟨h.1, hQ σ F a w hF hs h.2⟩
 | fuel + 1, l, σ, F, a, w, hF, h, hs => ⟨fun h0 => hQ σ F a w hF hs (h.1 h0), fun i hi => M3 (h.2 i hi) hs fun σ' F' a' w' hF' hs' hk => H0 hQ fuel _ σ' F' a' w' (fun b hb => hF' b (hF b hb)) hk.2 hs'⟩
theorem H6 {id:Nat} {K:Ex→St→Prop} {σ:St} (hm:P.follows .mixedOrders=true) (blK:Int→Option Blk) {tl:Nat→Bool} (h:DL P ops blK tl (K .normal) ops.size (Array.replicate ops.size false) σ):AW P (.region id ops true) K σ:=by
 intro w0 M F a w hs
 refine wp_region_any hm (H0 (F0:=F) (w0:=w0) (M:=M) (fun σ' F' a' w' hF' hs' hK=>⟨.normal,σ',F',rfl,hF',hs',hK⟩) _ _ σ F a _ (fun _ h=>h) h ?_)
 have hsh:dM w { w with drawn:=w.drawn+1 } :=fun b c t f hc=>⟨c,f,hc,rfl⟩
 refine⟨⟨hs.mem.os,hs.mem.tape,hs.mem.output,hs.mem.size,hs.mem.frame,hs.mem.gP,hs.mem.fr,hs.mem.fin,hs.mem.own,fun g b hb=> ?_⟩,hs.size,fun t ht=> ?_,hs.defers⟩
 ·have hh: ∀b,F b→({ w with drawn:=w.drawn+1 } :World).heap[b]? =w.heap[b]? :=fun _ _=>rfl
  have hg:0≤g→({ w with drawn:=w.drawn+1 } :World).heap[g.toNat]? =w.heap[g.toNat]? :=fun _=>rfl
  refine cA.mono (fun _ h=>h) (fun h0 hFg=> ?_) hh hsh hg (hs.mem.blk g b hb)
  have:=hs.mem.blk g b hb
  unfold cA at this
  rw[if_neg (by omega)] at this
  exact this.1 hFg
 ·have hh: ∀b,F b→({ w with drawn:=w.drawn+1 } :World).heap[b]? =w.heap[b]? :=fun _ _=>rfl
  exact Rep.mono (fun _ h=>h) hh hsh (hs.sl t ht)
theorem N9 {blK:Int→Option Blk} {tl:Nat→Bool} {K:St→Prop} {i:Nat} {oi:Oper} {v:V} (hi:ops[i]? =some oi) (hti:tl i=false) (hT: ∀j oj,tl j=true→ops[j]? =some oj→ ∃e∈oj.after,Region.binds .any e=true∧e.on=i): ∀(fuel:Nat) (l:Array Bool) (σ:St),
  (∀j oj,ops[j]? =some oj→j≠i→l.getD j true=false→(∀e∈oj.after,Region.binds .any e=true→e.on≠i)→oi.apart ops oj=true)→(∀k,tl k=true→l.getD k false=false)→
  i∈Region.ready .any ops l→Sub blK σ.bl→DY P ops blK oi σ v→DL P ops blK tl K fuel (l.setIfInBounds i true) (σ.put oi.dst v)→DL P ops blK tl K (fuel+1) l σ:=by
 have hbl: ∀(σ:St),(σ.put oi.dst v).bl=σ.bl:=fun σ=>by cases oi.dst<;>rfl
 intro fuel
 induction fuel with
 | zero =>
   intro l σ _ hN hr hs hy H
   refine⟨fun h=>(by rw[h] at hr;cases hr),fun j hj=> ?_⟩
   by_cases hji:j=i
   ·subst hji;exact hy.step hi hs ⟨fun _=>by rw[hbl];exact hs,H⟩
   ·have:=ready_mono hj hji
    rw[H.1] at this
    cases this
 | succ fuel ih =>
   intro l σ tC hN hr hs hy H
   refine⟨fun h=>(by rw[h] at hr;cases hr),fun j hj=> ?_⟩
   by_cases hji:j=i
   ·subst hji;exact hy.step hi hs ⟨fun _=>by rw[hbl];exact hs,H⟩
   ·have h1:=H.2 j (ready_mono hj hji)
    obtain⟨D9,oj,hoj,cO⟩:=mem_ready.1 hj
    have Q2: ∀e∈oj.after,Region.binds .any e=true→e.on≠i:=fun e he hb heq=>by
     have h1:=cO e he hb
     have h0:=(mem_ready.1 hr).1
     rw[heq] at h1
     rcases Nat.lt_or_ge i l.size with h' | h'
     ·simp[h'] at h0 h1;rw[h0] at h1;cases h1
     ·simp[Array.getElem?_eq_none h'] at h1
    have h2:=DY.put hoj (tC j oj hoj hji D9 Q2) hy h1
    have vH: ∀k ok,ops[k]? =some ok→k≠i→(l.setIfInBounds j true).getD k true=false→
      (∀e∈ok.after,Region.binds .any e=true→e.on≠i)→oi.apart ops ok=true:=fun k ok hk hki hun hno=>by
     refine tC k ok hk hki ?_ hno
     by_cases hjk:j=k
     ·subst hjk;exact D9
     ·rw[getD_set_ne true hjk] at hun;exact hun
    refine F3 h2 fun σ' ⟨h3,h4,h5⟩=> ?_
    have htj:tl j=false:=by
     cases htl:tl j with
     | false => rfl
     | true =>
       obtain⟨e,he,hb,hon⟩:=hT j oj htl hoj
       exact absurd hon (Q2 e he hb)
    have aG2:late tl (l.setIfInBounds i true) j=false:=by
     unfold late
     rw[htj,Bool.false_or,List.any_eq_false]
     intro k _ hk
     simp only[Bool.and_eq_true] at hk
     by_cases hki:i=k
     ·subst hki;rw[hti] at hk;cases hk.1
     ·rw[getD_set_ne false hki,hN k hk.1] at hk;cases hk.2
    have hN': ∀k,tl k=true→(l.setIfInBounds j true).getD k false=false:=fun k hk=>by
     by_cases hkj:j=k
     ·subst hkj;rw[htj] at hk;cases hk
     ·rw[getD_set_ne false hkj];exact hN k hk
    have h4:=h4 aG2
    rw[hbl] at h4
    refine⟨fun _=>h4,ih (l.setIfInBounds j true) σ' vH hN' (ready_mono hr (Ne.symm hji)) h4 h3 ?_⟩
    rw[Array.setIfInBounds_comm _ _ hji]
    exact h5
theorem M4 {blK:Int→Option Blk} {tl:Nat→Bool} {K:St→Prop} (fuel:Nat): ∀(is:List Nat) (l:Array Bool) (σ:St),(∀i,i∈is→tl i=false)→(∀k,tl k=true→l.getD k false=false)→(∀i,i∈is→ ∀j oj,tl j=true→ops[j]? =some oj→ ∃e∈oj.after,Region.binds .any e=true∧e.on=i)→hoistB ops is l=true→Sub blK σ.bl→
  Hoist P ops blK is (DL P ops blK tl K fuel (gA is l)) σ→DL P ops blK tl K (fuel+is.length) l σ
 | [], l, σ, _, _, _, _, _, h => h
 | i :: is, l, σ, hI, hN, hT, hB, hs, h => by
   simp only[hoistB,Bool.and_eq_true] at hB
   obtain⟨⟨hr,hf⟩,hB'⟩:=hB
   unfold Hoist at h
   split at h
   ·rename_i o ho
    obtain⟨v,hy,hK⟩:=h
    have:fuel+(i::is).length=(fuel+is.length)+1:=by simp;omega
    rw[this]
    refine N9 ho (hI i List.mem_cons_self) (hT i List.mem_cons_self) _ _ _ (Region.free_spec ho hf) hN (by simpa using hr) hs hy (M4 fuel is _ _ (fun i hi=>hI i (List.mem_cons_of_mem _ hi)) (fun k hk=> ?_) (fun i hi=>hT i (List.mem_cons_of_mem _ hi)) hB' ?_ hK)
    ·by_cases hki:i=k
     ·subst hki;rw[hI i List.mem_cons_self] at hk;cases hk
     ·rw[getD_set_ne false hki];exact hN k hk
    cases o.dst<;>exact hs
   ·exact h.elim
end
theorem Ce {P:Program} {id:Nat} {ops:Array Oper} {K:Ex→St→Prop} {σ:St} (hm:P.follows .mixedOrders=true) (blK:Int→Option Blk) (hs:Sub blK σ.bl) (is:List Nat) (fuel n:Nat) (hn:(ops.size==fuel+is.length && is.all (fun i=>decide (i<ops.size))&& hoistB ops is (Array.replicate ops.size false)&& yO ops (fun j=>decide (n≤j)) is && is.all (fun i=>decide (i<n)))=true)
  (h:HoistF P (ops.toList.map (·.dst)) blK (is.filterMap fun i=>ops[i]?) (DL P ops blK (fun j=>decide (n≤j)) (K .normal) fuel (gA is (Array.replicate ops.size false))) σ):AW P (.region id ops true) K σ:=by
 simp only[Bool.and_eq_true,beq_iff_eq] at hn
 refine H6 hm blK (tl:=fun j=>decide (n≤j)) ?_
 have:=M4 (P:=P) (ops:=ops) (blK:=blK) (tl:=fun j=>decide (n≤j)) (K:=K .normal) fuel is (Array.replicate ops.size false) σ
  (fun i hi=>by have:=List.all_eq_true.1 hn.2 i hi;simp at this ⊢;exact this) (fun k _=>by
    rw[Array.getD_eq_getD_getElem?,Array.getElem?_replicate];split<;>rfl) (jC hn.1.2) hn.1.1.2 hs (iO _ is σ (filter_some is hn.1.1.1.2) h)
 rw[←hn.1.1.1.1] at this
 exact this
section
variable {P : Program} {ops : Array Oper} {blK : Int → Option Blk} {tl : Nat → Bool} {K : St → Prop} {fuel : Nat} {l : Array Bool} {σ : St}
theorem Ln (hr:Region.ready .any ops l= []) (h:K σ):DL P ops blK tl K fuel l σ:=by
 cases fuel with
 | zero => exact ⟨hr, h⟩
 | succ n => exact ⟨fun _ => h, fun i hi => by rw [hr] at hi; cases hi⟩
theorem zQ {i:Nat} {o:Oper} {e:Bool} (ho:ops[i]? =some o) (hg:o.guard=none) (he:late tl l i=e) (h:T P o (fun σ'=>(e=false→Sub blK σ'.bl)∧DL P ops blK tl K fuel (l.setIfInBounds i true) σ') σ):
  D1 P ops i (fun σ'=>(late tl l i=false→Sub blK σ'.bl)∧DL P ops blK tl K fuel (l.setIfInBounds i true) σ') σ:=by
 subst he;unfold D1;rw[ho];simp only[hg];exact h
theorem Uc {i:Nat} {o:Oper} (e:Bool) (hr:Region.ready .any ops l= [i]) (ho:ops[i]? =some o) (hg:o.guard=none) (he:late tl l i=e) (h:T P o (fun σ'=>(e=false→Sub blK σ'.bl)∧DL P ops blK tl K fuel (l.setIfInBounds i true) σ') σ):DL P ops blK tl K (fuel+1) l σ:=by
 refine⟨fun h0=>(by rw[hr] at h0;cases h0),fun k hk=> ?_⟩
 rw[hr] at hk
 obtain rfl:k=i:=by simpa using hk
 exact zQ ho hg he h
theorem Ro {i j:Nat} {o p:Oper} (e f:Bool) (hr:Region.ready .any ops l= [i,j]) (ho:ops[i]? =some o) (hg:o.guard=none) (he:late tl l i=e) (ho':ops[j]? =some p) (hg':p.guard=none) (he':late tl l j=f)
  (h:T P o (fun σ'=>(e=false→Sub blK σ'.bl)∧DL P ops blK tl K fuel (l.setIfInBounds i true) σ') σ)
  (h':T P p (fun σ'=>(f=false→Sub blK σ'.bl)∧DL P ops blK tl K fuel (l.setIfInBounds j true) σ') σ):DL P ops blK tl K (fuel+1) l σ:=by
 refine⟨fun h0=>(by rw[hr] at h0;cases h0),fun k hk=> ?_⟩
 rw[hr] at hk
 rcases List.mem_cons.1 hk with rfl | hk
 ·exact zQ ho hg he h
 ·obtain rfl:k=j:=by simpa using hk
  exact zQ ho' hg' he' h'
theorem xK {i j m:Nat} {o p q:Oper} (e f g:Bool) (hr:Region.ready .any ops l= [i,j,m]) (ho:ops[i]? =some o) (hg:o.guard=none) (he:late tl l i=e) (ho':ops[j]? =some p) (hg':p.guard=none) (he':late tl l j=f) (ho2:ops[m]? =some q) (hg2:q.guard=none) (he2:late tl l m=g)
  (h:T P o (fun σ'=>(e=false→Sub blK σ'.bl)∧DL P ops blK tl K fuel (l.setIfInBounds i true) σ') σ)
  (h':T P p (fun σ'=>(f=false→Sub blK σ'.bl)∧DL P ops blK tl K fuel (l.setIfInBounds j true) σ') σ)
  (h2:T P q (fun σ'=>(g=false→Sub blK σ'.bl)∧DL P ops blK tl K fuel (l.setIfInBounds m true) σ') σ):DL P ops blK tl K (fuel+1) l σ:=by
 refine⟨fun h0=>(by rw[hr] at h0;cases h0),fun k hk=> ?_⟩
 rw[hr] at hk
 rcases List.mem_cons.1 hk with rfl | hk
 ·exact zQ ho hg he h
 ·rcases List.mem_cons.1 hk with rfl | hk
  ·exact zQ ho' hg' he' h'
  ·obtain rfl:k=m:=by simpa using hk
   exact zQ ho2 hg2 he2 h2
end
def Pj (P:Program) (y:Code) (K:Ex→St→Prop) (e:Ex) (σ:St):Prop:=match e with | .normal=>AW P y K σ | .exit i=>K (.exit i) σ | .ret=>K .ret σ
@[simp] theorem Qw (P : Program) (y : Code) (K : Ex → St → Prop) (σ : St) : Pj P y K .normal σ = AW P y K σ := rfl
@[simp] theorem Xl (P : Program) (y : Code) (K : Ex → St → Prop) (i : Nat) (σ : St) : Pj P y K (.exit i) σ = K (.exit i) σ := rfl
@[simp] theorem aBV (P : Program) (y : Code) (K : Ex → St → Prop) (σ : St) : Pj P y K .ret σ = K .ret σ := rfl
theorem aE {P:Program} {x y:Code} {K:Ex→St→Prop} {σ:St} (h:runC P x (Pj P y K) σ):AW P (.seq x y) K σ:=by
 refine cK ((aC h).mono fun e σ' h'=> ?_)
 cases e with
 | normal => exact h'
 | exit i => exact h'
 | ret => exact h'
def Wl {α:Type} (S:α→List (Nat×V)) (B:α→Int→Option Blk) (I:α→Prop) (n:Nat) (e:Ex) (σ:St):Prop:=e= .normal∧ ∃a,I a∧Fit (S a) n (B a) σ
theorem aG {α:Type} (S:α→List (Nat×V)) (B:α→Int→Option Blk) (I:α→Prop) (n:Nat) (σ:St):Wl S B I n .normal σ= ∃a,I a∧Fit (S a) n (B a) σ:=by simp[Wl]
theorem jY {α:Type} {P:Program} {x y:Code} {K:Ex→St→Prop} {σ:St} (S:α→List (Nat×V)) (B:α→Int→Option Blk) (I:α→Prop) (n:Nat) (h1:AW P x (Wl S B I n) σ)
  (h2: ∀a,I a→AW P y K ⟨n,hv (S a),B a⟩):AW P (.seq x y) K σ:=by
 refine cK (h1.mono fun e σ' ⟨he,a,hI,hf⟩=> ?_)
 subst he
 exact gV _ _ _ hf (h2 a hI)
section
variable (P : Program) (ds : List (Option Tmp)) (blK : Int → Option Blk) (rest : List Oper) (K : St → Prop) (σ : St) (d : Option Tmp) (ty : TypeId) (pos : String) (af : Array Edge)
@[simp high] theorem Lh (f : Operand) (args : Array Operand) (ats : Array TypeId) : HoistF P ds blK (⟨d, .call ⟨.value f, args, ats⟩, ty, pos, af, none⟩ :: rest) K σ = hcQ P ds blK rest K σ d (callV σ f args.toList) := (rfl)
@[simp high] theorem Pk (x : Operand) (t : TypeId) : HoistF P ds blK (⟨d, .call ⟨.builtin .len, #[x], #[t]⟩, ty, pos, af, none⟩ :: rest) K σ = hoQ P ds blK rest K σ d (lenV P t (σ.ev x)) := (rfl)
@[simp high] theorem Li (c a b : Operand) : HoistF P ds blK (⟨d, .pick c a b, ty, pos, af, none⟩ :: rest) K σ = hoQ P ds blK rest K σ d (qval P blK σ (.pick c a b)) := (rfl)
@[simp high] theorem Lg (t : TypeId) (x : Operand) : HoistF P ds blK (⟨d, .load t x, ty, pos, af, none⟩ :: rest) K σ = hoQ P ds blK rest K σ d (qval P blK σ (.load t x)) := (rfl)
@[simp high] theorem Aw (x : Operand) : HoistF P ds blK (⟨d, .nilCheck x, ty, pos, af, none⟩ :: rest) K σ = hoQ P ds blK rest K σ d (Q1 (σ.ev x)) := (rfl)
@[simp high] theorem Gs (op : BinOp) (t : TypeId) (x y : Operand) (t' : TypeId) : HoistF P ds blK (⟨d, .binOp op t x y t', ty, pos, af, none⟩ :: rest) K σ = hoQ P ds blK rest K σ d (binV P op t (σ.ev x) (σ.ev y)) := (rfl)
@[simp high] theorem Lj (op : UnOp) (t : TypeId) (x : Operand) : HoistF P ds blK (⟨d, .unOp op t x, ty, pos, af, none⟩ :: rest) K σ = hoQ P ds blK rest K σ d (unV op (σ.ev x)) := (rfl)
@[simp high] theorem Dg (s t : TypeId) (x : Operand) : HoistF P ds blK (⟨d, .convert s t x, ty, pos, af, none⟩ :: rest) K σ = hoQ P ds blK rest K σ d (cvtV P blK s t (σ.ev x)) := (rfl)
@[simp high] theorem Hl (t : TypeId) (x : Operand) (lo hi : Option Operand) : HoistF P ds blK (⟨d, .slice t x lo hi none, ty, pos, af, none⟩ :: rest) K σ = hoQ P ds blK rest K σ d (sliV P t (σ.ev x) (lo.map σ.ev) (hi.map σ.ev)) := (rfl)
@[simp high] theorem Q8 (t : TypeId) (x : Operand) (i : Nat) : HoistF P ds blK (⟨d, .fieldAddr t x i, ty, pos, af, none⟩ :: rest) K σ = hoQ P ds blK rest K σ d (fldV P t i (σ.ev x)) := (rfl)
@[simp high] theorem Ek (t : TypeId) (x : Operand) (i : Nat) : HoistF P ds blK (⟨d, .field t x i, ty, pos, af, none⟩ :: rest) K σ = hoQ P ds blK rest K σ d (fieldV P t i (σ.ev x)) := (rfl)
@[simp high] theorem R5 (t : TypeId) (x i : Operand) : HoistF P ds blK (⟨d, .indexAddr t x i, ty, pos, af, none⟩ :: rest) K σ = hoQ P ds blK rest K σ d (idxV P t (σ.ev x) (σ.ev i)) := (rfl)
@[simp high] theorem Km (t : TypeId) (x i : Operand) : HoistF P ds blK (⟨d, .index t x i, ty, pos, af, none⟩ :: rest) K σ = hoQ P ds blK rest K σ d (idsV P t (σ.ev x) (σ.ev i)) := (rfl)
@[simp high] theorem Bz (x : Operand) (i : Nat) : HoistF P ds blK (⟨d, .extract x i, ty, pos, af, none⟩ :: rest) K σ = hoQ P ds blK rest K σ d (extV i (σ.ev x)) := (rfl)
end
def hgQ (P:Program) (ds:List (Option Tmp)) (blK:Int→Option Blk) (rest:List Oper) (K:St→Prop) (σ:St) (d:Option Tmp) (op:Op) (b:Bool) (v:V):Prop:=match v with
 | .bool q => if q = b then aY (qval P blK σ op) fun v => HoistF P ds blK rest K (σ.put d v) else HoistF P ds blK rest K (σ.put d (.tup []))
 | .tup [] => HoistF P ds blK rest K (σ.put d (.tup []))
 | _ => False
def hgS (P:Program) (ds:List (Option Tmp)) (blK:Int→Option Blk) (rest:List Oper) (K:St→Prop) (σ:St) (d:Option Tmp) (op:Op) (b:Bool) (x:Option (Option Tmp)):Prop:=match x with
 | some (some t) => hgQ P ds blK rest K σ d op b (σ.ev (.tmp t))
 | _ => False
section
variable (P : Program) (ds : List (Option Tmp)) (blK : Int → Option Blk) (rest : List Oper) (K : St → Prop) (σ : St) (d : Option Tmp) (op : Op) (ty : TypeId) (pos : String) (af : Array Edge) (b : Bool)
@[simp] theorem Lz (j : Nat) : HoistF P ds blK (⟨d, op, ty, pos, af, some (j, b)⟩ :: rest) K σ = hgS P ds blK rest K σ d op b (ds[j]?) := (rfl)
@[simp] theorem aGZ (t : Tmp) : hgS P ds blK rest K σ d op b (some (some t)) = hgQ P ds blK rest K σ d op b (σ.ev (.tmp t)) := (rfl)
@[simp] theorem aKM : hgQ P ds blK rest K σ d op true (.bool true) = hoQ P ds blK rest K σ d (qval P blK σ op) := by simp [hgQ, hoQ]
@[simp] theorem aL1 : hgQ P ds blK rest K σ d op false (.bool false) = hoQ P ds blK rest K σ d (qval P blK σ op) := by simp [hgQ, hoQ]
@[simp] theorem aK2 : hgQ P ds blK rest K σ d op true (.bool false) = HoistF P ds blK rest K (σ.put d (.tup [])) := by simp [hgQ]
@[simp] theorem aMI : hgQ P ds blK rest K σ d op false (.bool true) = HoistF P ds blK rest K (σ.put d (.tup [])) := by simp [hgQ]
@[simp] theorem aDJ : hgQ P ds blK rest K σ d op b (.tup []) = HoistF P ds blK rest K (σ.put d (.tup [])) := (rfl)
end
theorem qV {P:Program} {ds:List (Option Tmp)} {blK:Int→Option Blk} {K:St→Prop} (S:List (Option Tmp)) (σ0:St): ∀(l:List Oper) (σ:St),HoistF P ds blK l K σ→(∀o,o∈l→o.dst∈S)→(σ.n=σ0.n∧ ∀t,some t∉S→σ.sl t=σ0.sl t)→
  HoistF P ds blK l (fun σ'=>K σ'∧σ'.n=σ0.n∧ ∀t,some t∉S→σ'.sl t=σ0.sl t) σ
 | [], σ, h, _, h0 => ⟨h, h0⟩
 | o :: rest, σ, h, hS, h0 => by
   have next: ∀v,HoistF P ds blK rest K (σ.put o.dst v)→HoistF P ds blK rest (fun σ'=>K σ'∧σ'.n=σ0.n∧ ∀t,some t∉S→σ'.sl t=σ0.sl t) (σ.put o.dst v):=fun v hv=>
    qV S σ0 rest _ hv (fun o' ho'=>hS o' (List.mem_cons_of_mem _ ho')) (by
     have hd:=hS o List.mem_cons_self
     cases hod:o.dst with
     | none => exact h0
     | some d =>
       rw[hod] at hd
       exact⟨h0.1,fun t ht=>by
        show upd σ.sl d v t=_
        rw[aL _ _ _ _ (fun e=>ht (by rw[e];exact hd))];exact h0.2 t ht⟩)
   unfold HoistF at h ⊢
   cases hg:o.guard with
   | none=>
     simp only[hg] at h ⊢
     split at h
     ·obtain⟨p,h1,v,n,ys,h2,h3⟩:=h
      exact⟨p,h1,v,n,ys,h2,next v h3⟩
     ·obtain⟨v,h1,h2⟩:=h
      exact⟨v,h1,next v h2⟩
   | some jb=>
     obtain⟨j,b⟩:=jb
     simp only[hg] at h ⊢
     split at h
     ·rename_i d hd
      split at h
      ·split at h
       ·rename_i hq
        obtain⟨v,h1,h2⟩:=h
        rw[if_pos hq]
        exact⟨v,h1,next v h2⟩
       ·rename_i hq
        rw[if_neg hq]
        exact next _ h
      ·exact next _ h
      ·exact h.elim
     ·exact h.elim
theorem Lb {f:Nat→V} : ∀(l:List (Nat×V)),(∀p,p∈l→f p.1=p.2)→ ∀p,p∈l→hv l p.1=f p.1
 | [], _, p, hp => by cases hp
 | (u, y) :: r, h, p, hp => by
   unfold hv
   by_cases e:p.1=u
   ·rw[if_pos e,e];exact(h (u,y) List.mem_cons_self).symm
   ·rw[if_neg e]
    rcases List.mem_cons.1 hp with rfl | hp
    ·exact absurd rfl e
    ·exact Lb r (fun q hq=>h q (List.mem_cons_of_mem _ hq)) p hp
theorem Aq {P:Program} {id:Nat} {ops:Array Oper} {K:Ex→St→Prop} {σ:St} (hm:P.follows .mixedOrders=true) (hB:V5 ops=true) (l:List (Nat×V)) (n:Nat) (bl:Int→Option Blk) (t:Nat) (v:V) (hf:Fit l n bl σ) (hd:(l.all fun p=> !(ops.toList.map (·.dst)).contains (some p.1))=true)
  (h1:HoistF P (ops.toList.map (·.dst)) bl ops.toList (fun σ'=>σ'.sl t=v∧σ'.bl=bl) ⟨n,hv l,bl⟩) (h2:K .normal ⟨n,hv ((t,v)::l),bl⟩):AW P (.region id ops true) K σ:=by
 refine gV l n bl hf ?_
 have hq:AW P (.region id ops true) (fun e σ'=>e= .normal∧(σ'.sl t=v∧σ'.bl=bl)∧σ'.n=n∧ ∀u,some u∉ops.toList.map (·.dst)→σ'.sl u=hv l u) ⟨n,hv l,bl⟩:=by
  refine bQ hm hB ?_
  have:=qV (ops.toList.map (·.dst)) ⟨n,hv l,bl⟩ ops.toList ⟨n,hv l,bl⟩ h1 (fun o ho=>List.mem_map_of_mem ho) ⟨rfl,fun _ _=>rfl⟩
  simpa using this
 intro w0 M F a w hs
 refine wp_mono (hq w0 M F a w hs) fun e a' w' hp=> ?_
 obtain⟨ex,σ',F',e1,e2,e3,rfl,⟨k1,k2⟩,k3,k4⟩:=hp
 refine⟨.normal,⟨n,hv ((t,v)::l),bl⟩,F',e1,e2,e3.le ?_,h2⟩
 refine O0 ⟨k3,fun p hp=> ?_,by rw[k2];exact Sub.refl _⟩
 rcases List.mem_cons.1 hp with rfl | hp
 ·exact k1
 ·have:=List.all_eq_true.1 hd p hp
  have h5:some p.1∉ops.toList.map (·.dst):=by
   intro hc
   rw[Bool.not_eq_true'] at this
   have h6:=List.contains_iff_mem.2 hc
   rw[this] at h6;cases h6
  rw[k4 _ h5,Lb l hf.2.1 p hp,hf.2.1 p hp]
theorem Nd {P:Program} {id:Nat} {ops:Array Oper} {K:Ex→St→Prop} {σ:St} (l:List (Nat×V)) (n:Nat) (bl:Int→Option Blk) (t:Nat) (v:V) (hf:Fit l n bl σ) (hd:(l.all fun p=> !(ops.toList.map (·.dst)).contains (some p.1))=true)
  (h1:OpsF P (ops.toList.map (·.dst)) ops.toList (fun σ'=>σ'.sl t=v∧Sub bl σ'.bl) ⟨n,hv l,bl⟩) (h2:K .normal ⟨n,hv ((t,v)::l),bl⟩):AW P (.region id ops false) K σ:=by
 refine gV l n bl hf ?_
 have hq:AW P (.region id ops false) (fun e σ'=>e= .normal∧(σ'.sl t=v∧Sub bl σ'.bl)∧σ'.n=n∧ ∀u,some u∉ops.toList.map (·.dst)→σ'.sl u=hv l u) ⟨n,hv l,bl⟩:=by
  refine sX ?_
  exact I5 _ (zX _ (sB h1)) fun σ' h=>⟨rfl,h⟩
 intro w0 M F a w hs
 refine wp_mono (hq w0 M F a w hs) fun e a' w' hp=> ?_
 obtain⟨ex,σ',F',e1,e2,e3,rfl,⟨k1,k2⟩,k3,k4⟩:=hp
 refine⟨.normal,⟨n,hv ((t,v)::l),bl⟩,F',e1,e2,e3.le ?_,h2⟩
 refine O0 ⟨k3,fun p hp=> ?_,k2⟩
 rcases List.mem_cons.1 hp with rfl | hp
 ·exact k1
 ·have:=List.all_eq_true.1 hd p hp
  have h5:some p.1∉ops.toList.map (·.dst):=by
   intro hc
   rw[Bool.not_eq_true'] at this
   have h6:=List.contains_iff_mem.2 hc
   rw[this] at h6;cases h6
  rw[k4 _ h5,Lb l hf.2.1 p hp,hf.2.1 p hp]
theorem Y5 {P:Program} {f:FuncId} {xs ys:List V} {bl bl2:Int→Option Blk} {k:V→(Int→Option Blk)→Prop} (n:Nat) (hs:Sub bl2 bl) (hx:frzL (dropB bl bl2) n xs=some ys) (h:bJ P f ys bl2 k):bJ P f xs bl k:=by
 refine⟨h.1,fun w0 M F w vs hm bU=> ?_⟩
 have hlen:=uS hx
 have H2:Mr (fun k=>F k∨Own (dropB bl bl2) k) w ys vs:=by
  refine⟨by rw[bU.1,hlen.1],fun i y hy=> ?_⟩
  obtain⟨x,h1,h2⟩:=hlen.2 i y hy
  exact nT (fun g b hb=>sH hm g b hb) (fun g b hb h0=> .inr ⟨g,b,hb,h0,rfl⟩) (fun b hb=> .inl hb) n x y _ (bU.2 i x h1) h2
 exact(h.2 w0 M _ w vs (hm.freeze hs) H2).mono fun e w' ⟨v,r,bl',F',h1,h2,h3,h4,h5,h6,h7⟩=>⟨v,r,bl',F',h1,fun b hb=>h2 b (.inl hb),fun b hb=>h3 b (.inl hb),h4,h5,h6,h7⟩
theorem gK {P:Program} {f:FuncId} {xs:List V} {bl:Int→Option Blk} {r:V} {k:V→(Int→Option Blk)→Prop} (n:Nat) (bl2:Int→Option Blk) (ys:List V) (hs:Sub bl2 bl) (hx:frzL (dropB bl bl2) n xs=some ys) (h:RO P f ys r) (hk:k r bl2):bJ P f xs bl k:=
 Y5 n hs hx (aD h hk)
theorem bY {P:Program} {id:Nat} {ops:Array Oper} {K:Ex→St→Prop} {σ:St} (hm:P.follows .mixedOrders=true) (blK:Int→Option Blk) (hs:Sub blK σ.bl) (is:List Nat) (fuel:Nat) (hn:(ops.size==fuel+is.length && is.all (fun i=>decide (i<ops.size))&& hoistB ops is (Array.replicate ops.size false))=true)
  (h:HoistF P (ops.toList.map (·.dst)) blK (is.filterMap fun i=>ops[i]?) (iM P ops blK (fun _=>false) (K .normal) fuel (gA is (Array.replicate ops.size false))) σ):AW P (.region id ops true) K σ:=by
 simp only[Bool.and_eq_true,beq_iff_eq] at hn
 exact iH hm is fuel blK hs hn.1.1 hn.2 (tl:=fun _=>false) (fun _ _ _ _ h=>by cases h) (iO _ is σ (filter_some is hn.1.2) h)
section
variable {P : Program} {ops : Array Oper} {blK : Int → Option Blk} {tl : Nat → Bool} {K : St → Prop} {fuel : Nat} {l : Array Bool} {σ : St}
theorem Dq (i:Nat) {o:Oper} (e:Bool) (h:T P o (fun σ'=>(e=false→Sub blK σ'.bl)∧DL P ops blK tl K fuel (l.setIfInBounds i true) σ') σ) (hr:Region.ready .any ops l= [i]:=by kernel_rfl) (ho:ops[i]? =some o:=by exact rfl) (hg:o.guard=none:=by exact rfl) (he:late tl l i=e:=by kernel_rfl):DL P ops blK tl K (fuel+1) l σ:=Uc e hr ho hg he h
end
section
variable {P : Program} {ops : Array Oper} {blK : Int → Option Blk} {tl : Nat → Bool} {K : St → Prop} {fuel : Nat} {l : Array Bool} {σ : St}
theorem Dw (i j:Nat) {o p:Oper} (e f:Bool) (h:T P o (fun σ'=>(e=false→Sub blK σ'.bl)∧DL P ops blK tl K fuel (l.setIfInBounds i true) σ') σ) (h':T P p (fun σ'=>(f=false→Sub blK σ'.bl)∧DL P ops blK tl K fuel (l.setIfInBounds j true) σ') σ) (hr:Region.ready .any ops l= [i,j]:=by kernel_rfl) (ho:ops[i]? =some o:=by exact rfl) (hg:o.guard=none:=by exact rfl) (he:late tl l i=e:=by kernel_rfl) (ho':ops[j]? =some p:=by exact rfl) (hg':p.guard=none:=by exact rfl) (he':late tl l j=f:=by kernel_rfl):DL P ops blK tl K (fuel+1) l σ:=Ro e f hr ho hg he ho' hg' he' h h'
end
section
variable {P : Program} {ops : Array Oper} {blK : Int → Option Blk} {tl : Nat → Bool} {K : St → Prop} {fuel : Nat} {l : Array Bool} {σ : St}
theorem Dd (h:K σ) (hr:Region.ready .any ops l= []:=by kernel_rfl):DL P ops blK tl K fuel l σ:=Ln hr h
end
end Go.Proofs.YticmgmemnpcbbaaGreat.Vm

namespace Go.Proofs.YticmgmemnpcbbaaGreat.Vm
open Go Go.Proofs
set_option linter.unusedSimpArgs false
set_option linter.unusedVariables false
theorem bK (a i:Nat) (h:i<(lim a).length):(iv (lim a))[i]? =some [.int .i64 (dg a i:Nat)]:=by rw[cH _ _ h,fA h]
theorem mN (a b:Int):(a==b)=decide (a=b):=by rw[Bool.eq_iff_iff];simp
theorem An (ns:List Int):(iv ns).all (fun c=>1==c.length)=true:=by simp[iv]
theorem uK (ns:List Int) (n:Nat):(iv ns).take n=iv (ns.take n):=by simp[iv,List.map_take]
@[simp high] theorem Xv (P : Program) (t : TypeId) (a b : Int) : binV P .add t (.int .i64 a) (.int .i64 b) = some (.int .i64 (IntKind.i64.wrap (a + b))) := (rfl)
@[simp high] theorem aAP (P : Program) (t : TypeId) (a b : Int) : binV P .sub t (.int .i64 a) (.int .i64 b) = some (.int .i64 (IntKind.i64.wrap (a - b))) := (rfl)
@[simp high] theorem aA1 (P : Program) (t : TypeId) (a b : Int) : binV P .mul t (.int .i64 a) (.int .i64 b) = some (.int .i64 (IntKind.i64.wrap (a * b))) := (rfl)
@[simp high] theorem Yg (P : Program) (t : TypeId) (a b : Int) : binV P .quo t (.int .i64 a) (.int .i64 b) = if b = 0 then none else some (.int .i64 (IntKind.i64.wrap (a.tdiv b))) := (rfl)
@[simp high] theorem Yn (P : Program) (t : TypeId) (a b : Int) : binV P .rem t (.int .i64 a) (.int .i64 b) = if b = 0 then none else some (.int .i64 (a.tmod b)) := (rfl)
@[simp high] theorem Yv (P : Program) (t : TypeId) (a b : Int) : binV P .eql t (.int .i64 a) (.int .i64 b) = some (.bool (a == b)) := (rfl)
@[simp high] theorem Zp (P : Program) (t : TypeId) (a b : Int) : binV P .neq t (.int .i64 a) (.int .i64 b) = some (.bool (a != b)) := (rfl)
@[simp high] theorem aAG (P : Program) (t : TypeId) (a b : Int) : binV P .lss t (.int .i64 a) (.int .i64 b) = some (.bool (decide (a < b))) := (rfl)
@[simp high] theorem Wy (P : Program) (t : TypeId) (a b : Int) : binV P .leq t (.int .i64 a) (.int .i64 b) = some (.bool (decide (a ≤ b))) := (rfl)
@[simp high] theorem Yc (P : Program) (t : TypeId) (a b : Int) : binV P .gtr t (.int .i64 a) (.int .i64 b) = some (.bool (decide (b < a))) := (rfl)
@[simp high] theorem Zb (P : Program) (t : TypeId) (a b : Int) : binV P .geq t (.int .i64 a) (.int .i64 b) = some (.bool (decide (b ≤ a))) := (rfl)
theorem iD (a b:Nat) (ha:(lim a).length≤1048576) (hb:(lim b).length≤1048576):RO Tryz.prog 100 [.sl (iv (lim a)),.sl (iv (lim b))] (.int .i64 (iE a b)):=by
 refine aI Tryz.func100 rfl rfl (by rw[Tryz.ntmps100];simp) fun bl=> ?_
 rw[Tryz.ntmps100,Tryz.results100]
 refine aC ?_
 simp
 refine⟨fun h=>⟨fun h1=> ?_,fun h1=> ?_⟩,fun h=> ?_⟩
 ·exact aM (by simp[wC h1]) rfl rfl
 ·exact aM (by simp[vF (show(lim b).length<(lim a).length by omega)]) rfl rfl
 have h:(lim a).length=(lim b).length:=by omega
 have w0:IntKind.i64.wrap (((lim a).length:Int) - 1)=((lim a).length:Int) - 1:=i64_in (by omega) (by omega)
 simp[w0]
 refine aK (fun k:Nat=> [(0,.sl (iv (lim a))),(1,.sl (iv (lim b))),(5,.int .i64 ((k:Int) - 1))]) (fun _=>bl) (fun k=>k≤(lim a).length∧ ∀j,k≤j→dg a j=dg b j) (fun k=>k) _ (lim a).length ⟨Nat.le_refl _,fun j hj=>by rw[kV hj,kV (by omega)]⟩ ⟨rfl,by simp,Sub.refl _⟩ ?_
 intro k ⟨hk,hc⟩
 refine aC ?_
 simp
 refine⟨fun h1=> ?_,fun h1=> ?_⟩
 ·obtain⟨m,rfl⟩: ∃m,k=m+1:=⟨k - 1,by omega⟩
  have hm:m<(lim a).length:=by omega
  have hm2:m<(lim b).length:=by omega
  have e1:((m+1:Nat):Int) - 1=m:=by omega
  refine bQ aQ (by kernel_rfl) ?_
  simp[e1,bK _ _ hm,bK _ _ hm2]
  refine⟨fun h2=> ?_,fun h2=> ?_⟩
  ·exact aM (by simp[Kf h hm (fun j hj=>hc j (by omega)) h2]) rfl rfl
  refine bQ aQ (by kernel_rfl) ?_
  simp[e1,bK _ _ hm,bK _ _ hm2]
  refine⟨fun h3=> ?_,fun h3=> ?_⟩
  ·exact aM (by simp[Fg h hm (fun j hj=>hc j (by omega)) h3]) rfl rfl
  have w1:IntKind.i64.wrap ((m:Int) - 1)=(m:Int) - 1:=i64_in (by omega) (by omega)
  simp[w1,aB]
  refine⟨m,⟨by omega,fun j hj=> ?_⟩,by omega,rfl,by simp,Sub.refl _⟩
  rcases Nat.lt_or_ge m j with hlt | hge
  ·exact hc j (by omega)
  ·obtain rfl:j=m:=by omega
   omega
 ·have:k=0:=by omega
  subst this
  exact aM (by simp[Ku h fun j=>hc j (Nat.zero_le _)]) rfl rfl
theorem qP (ns:List Int) (hd:Dig ns) (hn:ns.length≤1048576):RO Tryz.prog 238 [.sl (iv ns)] (.sl (iv (lim (val ns)))):=by
 refine aI Tryz.func238 rfl rfl (by rw[Tryz.ntmps238];simp) fun bl=> ?_
 rw[Tryz.ntmps238,Tryz.results238]
 refine aC ?_
 simp
 refine aK (fun n:Nat=> [(0,.sl (iv (ns.take n)))]) (fun _=>bl) (fun n=>n≤ns.length∧ ∀i (hi:i<ns.length),n≤i→ns[i]=0) (fun n=>n) _ ns.length ⟨Nat.le_refl _,fun i hi h=>by omega⟩ ⟨rfl,by simp,Sub.refl _⟩ ?_
 intro n ⟨hl,hz⟩
 have hlen:(ns.take n).length=n:=by simp;omega
 refine aC ?_
 simp
 refine aV [(0,.sl (iv (ns.take n)))] _ bl 14 (.bool (decide (0<n)&& decide (ns.getD (n - 1) 1=0))) ⟨rfl,by simp,Sub.refl _⟩ rfl ?_ ?_
 ·simp[hlen]
  refine⟨fun h=> ?_,fun h=>by simp[h]⟩
  have w1:IntKind.i64.wrap ((n:Int) - 1)=((n - 1:Nat):Int):=by rw[i64_in (by omega) (by omega)];omega
  have h2:n - 1<ns.length:=by omega
  have q:(iv (ns.take n))[n - 1]? =some [.int .i64 ns[n - 1]]:=by rw[cH _ _ (by omega)];simp
  simp[w1,h2,h,q,mN]
 simp
 refine⟨fun h1 h2=> ?_,fun h1=> ?_⟩
 ·have w1:IntKind.i64.wrap ((n:Int) - 1)=((n - 1:Nat):Int):=by rw[i64_in (by omega) (by omega)];omega
  simp[Nat.min_eq_left hl,w1,sliV,An,aB]
  refine⟨n - 1,⟨by omega,fun i hi h3=> ?_⟩,by omega,rfl,?_,Sub.refl _⟩
  ·rcases Nat.lt_or_ge i n with h4 | h4
   ·obtain rfl:i=n - 1:=by omega
    simpa [hi] using h2
   ·exact hz i hi h4
  ·simp[uK,List.take_take]
   try (congr 2;omega)
 ·have hz2: ∀i (hi:i<ns.length),n=i+1→ns[i]≠0:=by
   intro i hi e
   subst e
   have:=h1 (by omega)
   simpa [hi] using this
  have:=wE hd hl hz hz2
  rw[this]
  exact aM (by simp) rfl rfl
theorem kS {o:List Int} {i k:Nat} (h:o.length=i) (x z:Int):(o++List.replicate (k+1) z).set i x=(o++ [x])++List.replicate k z:=by
 subst h
 rw[List.set_append_right _ _ (Nat.le_refl _),Nat.sub_self,List.replicate_succ,List.set_cons_zero,List.append_assoc];rfl
theorem iV {o:List Int} {i k:Nat} (h:o.length=i) (z:Int):(iv (o++List.replicate (k+1) z))[i]? =some [.int .i64 z]:=by
 subst h
 rw[cH _ _ (by simp)]
 simp
theorem dP (ns:List Int) (i:Nat) (x:Int):(iv ns).set i [.int .i64 x]=iv (ns.set i x):=by simp[iv,List.map_set]
theorem wq {x n:Int} (h0:0≤x) (h1:x≤9223372036854775807) (hn:0<n):IntKind.i64.wrap (x.tdiv n)=x.tdiv n:=by
 rw[Int.tdiv_eq_ediv_of_nonneg h0]
 have a1:=Int.ediv_nonneg h0 (by omega:0≤n)
 have a2:=Int.ediv_le_self n h0
 exact i64_in (by omega) (by omega)
theorem jP {bl bl':Int→Option Blk} {g:Int} {ns:List Int} {n:Nat} (hg0:0≤g) (hg:bl g=none) (hb:bl' g=some ⟨1,iv ns⟩) (hn:ns.length=n):frzL (dropB bl' bl) 1 [.lsl g 1 0 n]=some [.sl (iv ns)]:=by
 unfold frzL frzL
 rw[cM hg0 hg hb (by simp[hn]) (lS ns)]
theorem Gq {o:List Int} {i:Nat} (h:o.length=i) (x z:Int):(o++ [z]).set i x=o++ [x]:=by
 have:=kS (k:=0) h x z
 simpa using this
structure PL where
 i:Nat
 o:List Int
 c:Int
theorem Lx (a b:Nat) (ha:(lim a).length≤1048575) (hb:(lim b).length≤1048575):RO Tryz.prog 271 [.sl (iv (lim a)),.sl (iv (lim b))] (.sl (iv (lim (a+b)))):=by
 refine aI Tryz.func271 rfl rfl (by rw[Tryz.ntmps271];simp) fun bl=> ?_
 rw[Tryz.ntmps271,Tryz.results271]
 refine aE ?_
 simp
 refine jY (fun p:Nat×Nat=> [(0,.sl (iv (lim p.1))),(1,.sl (iv (lim p.2)))]) (fun _=>bl) (fun p=>p.1+p.2=a+b∧(lim p.2).length≤(lim p.1).length∧(lim p.1).length≤1048575) 55 ?_ ?_
 ·refine aC ?_
  simp
  refine⟨fun h=> ?_,fun h=> ?_⟩
  ·rw[aG]
   exact⟨(b,a),⟨Nat.add_comm _ _,by simp only;omega,hb⟩,rfl,by simp,Sub.refl _⟩
  ·rw[aG]
   exact⟨(a,b),⟨rfl,by simp only;omega,ha⟩,rfl,by simp,Sub.refl _⟩
 rintro⟨x,y⟩ ⟨hxy,hle,hx⟩
 simp only at hxy hle hx
 rw[←hxy]
 refine aC ?_
 have w0:IntKind.i64.wrap (((lim x).length:Int)+1)=(lim x).length+1:=i64_in (by omega) (by omega)
 simp[w0]
 refine⟨(lim x).length+1,by simp,by simp,by omega,by unfold maxLen;omega,fun g hg0 hg=> ?_⟩
 have er:List.replicate ((lim x).length+1) [V.int IntKind.i64 0]=iv (List.replicate ((lim x).length+1) 0):=by simp[iv]
 simp[er]
 refine aK (fun p:PL=> [(0,.sl (iv (lim x))),(1,.sl (iv (lim y))),(5,.lsl g 1 0 ((lim x).length+1)),(6,.int .i64 p.c),(20,.sl (iv (lim x))),(21,.int .i64 (lim x).length),(22,.int .i64 p.i)]) (fun p=>upd bl g (some ⟨1,iv (p.o++List.replicate ((lim x).length+1 - p.i) 0)⟩))
  (fun p=>p.i≤(lim x).length∧mA x y p.i p.o p.c) (fun p=>(lim x).length - p.i) _ ⟨0,[],0⟩ ⟨Nat.zero_le _,mA.start x y⟩ ⟨rfl,by simp,sub_eq (by simp)⟩ ?_
 rintro⟨i,o,c⟩ ⟨hi,hI⟩
 simp only at hi hI
 have hb1:=hI.x
 have hd1:=dQ x i
 have hd2:=dQ y i
 have hc0:=hI.c0
 have hc1:=hI.c1
 obtain⟨k,hk⟩: ∃k,(lim x).length+1 - i=k+1:=⟨(lim x).length - i,by omega⟩
 refine aC ?_
 simp
 refine⟨fun h1=> ?_,fun h1=> ?_⟩
 ·have w1:IntKind.i64.wrap ((dg x i:Int)+c)=dg x i+c:=i64_in (by omega) (by omega)
  have w2:IntKind.i64.wrap ((dg x i:Int)+c+dg y i)=dg x i+c+dg y i:=i64_in (by omega) (by omega)
  have w3:IntKind.i64.wrap ((i:Int)+1)=i+1:=i64_in (by omega) (by omega)
  simp[bK _ _ h1,w1]
  refine⟨fun h2=> ?_,fun h2=> ?_⟩
  ·have w4:=wq (x:=(dg x i:Int)+c+dg y i) (n:=1000000000) (by omega) (by omega) (by omega)
   simp[bK _ _ h2,w2,w3,w4,hk,iV hI.len]
   refine⟨by omega,?_⟩
   rw[aB]
   refine⟨⟨i+1,o++ [((dg x i:Int)+c+dg y i).tmod 1000000000],((dg x i:Int)+c+dg y i).tdiv 1000000000⟩,⟨by simp only;omega,hI.next (by omega)⟩,by simp only;omega,rfl,by simp,sub_eq ?_⟩
   rw[dP,kS hI.len]
   have e:(lim x).length+1 - (i+1)=k:=by omega
   simp[e]
  ·have d0:dg y i=0:=kV (by omega)
   have w4:=wq (x:=(dg x i:Int)+c) (n:=1000000000) (by omega) (by omega) (by omega)
   simp[w3,w4,hk,iV hI.len]
   refine⟨by omega,?_⟩
   rw[aB]
   refine⟨⟨i+1,o++ [((dg x i:Int)+c).tmod 1000000000],((dg x i:Int)+c).tdiv 1000000000⟩,⟨by simp only;omega,hI.next (by omega)⟩,by simp only;omega,rfl,by simp,sub_eq ?_⟩
   rw[dP,kS hI.len]
   have e:(lim x).length+1 - (i+1)=k:=by omega
   simp[e]
 ·have e:i=(lim x).length:=by omega
  subst e
  obtain⟨hD,hv⟩:=hI.impl (Nat.le_refl _) hle
  simp[hk,iV hI.len]
  have k0:k=0:=by omega
  subst k0
  have hg':bl g=none:=hg
  simp[dP,Gq hI.len]
  refine⟨by omega,gK 1 bl _ (by simp[hg']) (jP hg0 hg' (by simp) (by simp[hI.len])) (qP _ hD (by simp[hI.len];omega)) ?_⟩
  rw[hv]
  simp
  exact aM (by simp) rfl rfl

theorem O7 {n:Nat} (h:0<n):lim n=((n % 1000000000:Nat):Int)::lim (n / 1000000000):=lQ (by omega)
theorem qH {N:Nat} (h:N≤18446744073709551615):(lim N).length≤3:=aF.2 (Nat.lt_of_le_of_lt h (by decide+kernel))
theorem Y4 (N:Nat) (hN:N≤18446744073709551615):NW Tryz.prog 230 [.int .u64 N] (fl 1 (iv (lim N))):=by
 have hL:=qH hN
 refine iQ Tryz.func230 rfl rfl (by rw[Tryz.ntmps230];simp) fun bl=> ?_
 rw[Tryz.ntmps230,Tryz.results230]
 refine aC ?_
 simp
 refine qG 3 1 (by simp) fun g00 oN=> ?_
 refine aK (fun p:Int×List Int×Nat=> [(0,.int .u64 p.2.2),(3,.lsl p.1 1 0 p.2.1.length)]) (fun p=>upd bl p.1 (some ⟨1,iv p.2.1⟩)) (fun p=>lim N=p.2.1++lim p.2.2∧p.2.2≤18446744073709551615∧bl p.1=none∧(p.1<0→p.2.1= [])) (fun p=>p.2.2) _ (g00,[],N) ⟨by simp,hN,oN,fun _=>rfl⟩ ⟨rfl,by simp,sub_eq (by simp[iv])⟩ ?_
 rintro⟨g,o,n⟩ ⟨hl,hn,hg,h0⟩
 simp only at hl hn hg h0
 have hlo:o.length≤3:=by have:=congrArg List.length hl;simp at this;omega
 refine aC ?_
 simp
 refine⟨fun h=> ?_,fun h=> ?_⟩
 ·intro g2 hg2 h2g hb2
  simp[h2g,Ne.symm h2g,appV,elsV,Int.not_lt.2 hg2]
  refine⟨by omega,fun g3 hg3 hb3=> ?_⟩
  have gZ:bl g3=none:=by grind
  have m0:(n:Int).tmod 1000000000=((n % 1000000000:Nat):Int):=by rw[Int.tmod_eq_emod_of_nonneg (by omega)];omega
  have q0:(n:Int).tdiv 1000000000=((n / 1000000000:Nat):Int):=by rw[Int.tdiv_eq_ediv_of_nonneg (by omega)];omega
  have w1:IntKind.i64.wrap ((n:Int) % 1000000000)=(n:Int) % 1000000000:=i64_in (by omega) (by omega)
  have w2:IntKind.u64.wrap ((n:Int) / 1000000000)=(n:Int) / 1000000000:=IntWalk.u64_in _ ⟨by omega,by omega⟩
  simp[m0,q0,w1,w2]
  rw[aB]
  refine⟨(g3,o++ [((n % 1000000000:Nat):Int)],n / 1000000000),⟨by rw[hl,O7 h];simp,by simp only;omega,gZ,by simp only;omega⟩,by simp only;omega,rfl,by simp,?_⟩
  rw[eM]
  exact eP (by rw[eV];simp[iv]) (by simp[hg,hb2,h2g])
 ·have e:n=0:=by omega
  subst e
  rw[aU,List.append_nil] at hl
  refine eE [.lsl g 1 0 o.length] [g] (by simp) ?_ (by simpa using hg) (by simp[hg])
  rw[hl]
  exact fZ.2 (.inr ⟨g,rfl,rfl,by simp,h0⟩)
theorem pH (N:Nat) (hN:N≤18446744073709551615):RO Tryz.prog 230 [.int .u64 N] (.sl (iv (lim N))):=by
 have:=eH 1 (Y4 N hN) (kT _ _ 0)
 simpa using this
structure ML where
 i:Nat
 o:List Int
 br:Nat
theorem J8 (a b:Nat) (hab:b≤a) (ha:(lim a).length≤1048575):RO Tryz.prog 272 [.sl (iv (lim a)),.sl (iv (lim b))] (.sl (iv (lim (a - b)))):=by
 refine aI Tryz.func272 rfl rfl (by rw[Tryz.ntmps272];simp) fun bl=> ?_
 rw[Tryz.ntmps272,Tryz.results272]
 refine aC ?_
 simp
 refine⟨by omega,by unfold maxLen;omega,fun g hg0 hg=> ?_⟩
 have er:List.replicate ((lim a).length) [V.int IntKind.i64 0]=iv (List.replicate ((lim a).length) 0):=by simp[iv]
 simp[er]
 refine aK (fun p:ML=> [(0,.sl (iv (lim a))),(1,.sl (iv (lim b))),(5,.lsl g 1 0 (lim a).length),(6,.int .i64 p.br),(12,.sl (iv (lim a))),(13,.int .i64 (lim a).length),(14,.int .i64 p.i)]) (fun p=>upd bl g (some ⟨1,iv (p.o++List.replicate ((lim a).length - p.i) 0)⟩))
  (fun p=>p.i≤(lim a).length∧fI a b p.i p.o p.br) (fun p=>(lim a).length - p.i) _ ⟨0,[],0⟩ ⟨Nat.zero_le _,fI.start a b⟩ ⟨rfl,by simp,sub_eq (by simp)⟩ ?_
 rintro⟨i,o,br⟩ ⟨hi,hI⟩
 simp only at hi hI
 have hb1:=hI.x
 have hd1:=dQ a i
 have hd2:=dQ b i
 have hc1:=hI.c1
 refine aC ?_
 simp
 refine⟨fun h1=> ?_,fun h1=> ?_⟩
 ·obtain⟨k,hk⟩: ∃k,(lim a).length - i=k+1:=⟨(lim a).length - i - 1,by omega⟩
  have e:(lim a).length - (i+1)=k:=by omega
  have w1:IntKind.i64.wrap ((dg a i:Int) - br)=dg a i - br:=i64_in (by omega) (by omega)
  have w2:IntKind.i64.wrap ((dg a i:Int) - br - dg b i)=dg a i - br - dg b i:=i64_in (by omega) (by omega)
  have w3:IntKind.i64.wrap ((i:Int)+1)=i+1:=i64_in (by omega) (by omega)
  simp[bK _ _ h1,w1]
  refine⟨fun h2=> ?_,fun h2=> ?_⟩
  ·simp[bK _ _ h2,w2,w3,hk,iV hI.len]
   refine⟨fun h3=> ?_,fun h3=> ?_⟩
   ·have w4:IntKind.i64.wrap ((dg a i:Int) - br - dg b i+1000000000)=dg a i - br - dg b i+1000000000:=i64_in (by omega) (by omega)
    simp[w4,w3,h1,hk,iV hI.len]
    rw[aB]
    refine⟨⟨i+1,o++ [(dg a i:Int) - br - dg b i+1000000000],1⟩,⟨by simp only;omega,hI.zF rfl (by omega)⟩,by simp only;omega,rfl,by simp,sub_eq ?_⟩
    rw[dP,kS hI.len]
    simp[e]
   ·simp[w3,h1,hk,iV hI.len]
    rw[aB]
    refine⟨⟨i+1,o++ [(dg a i:Int) - br - dg b i],0⟩,⟨by simp only;omega,hI.zR rfl (by omega)⟩,by simp only;omega,rfl,by simp,sub_eq ?_⟩
    rw[dP,kS hI.len]
    simp[e]
  ·have d0:dg b i=0:=kV (by omega)
   simp[w3,hk,iV hI.len]
   refine⟨fun h3=> ?_,fun h3=> ?_⟩
   ·have w4:IntKind.i64.wrap ((dg a i:Int) - br+1000000000)=dg a i - br+1000000000:=i64_in (by omega) (by omega)
    simp[w4,w3,h1,hk,iV hI.len]
    rw[aB]
    refine⟨⟨i+1,o++ [(dg a i:Int) - br+1000000000],1⟩,⟨by simp only;omega,hI.zF (x:=(dg a i:Int) - br) (by omega) (by omega)⟩,by simp only;omega,rfl,by simp,sub_eq ?_⟩
    rw[dP,kS hI.len]
    simp[e]
   ·simp[w3,h1,hk,iV hI.len]
    rw[aB]
    refine⟨⟨i+1,o++ [(dg a i:Int) - br],0⟩,⟨by simp only;omega,hI.zR (x:=(dg a i:Int) - br) (by omega) (by omega)⟩,by simp only;omega,rfl,by simp,sub_eq ?_⟩
    rw[dP,kS hI.len]
    simp[e]
 ·have e:i=(lim a).length:=by omega
  subst e
  have hv:=hI.done hab (Nat.le_refl _)
  have hg':bl g=none:=hg
  simp
  refine gK 1 bl _ (by simp[hg']) (jP (ns:=o) hg0 hg' (by simp) (by simp[hI.len])) (qP _ hI.dig (by simp[hI.len];omega)) ?_
  simp[hv]
  exact aM (by simp) rfl rfl

theorem Mi {bl:Int→Option Blk} {K:V→(Int→Option Blk)→Prop} (ns:List Int) (hd:Dig ns) (hn:ns.length≤1048576) (g:Int) (hg0:0≤g) (hb:bl g=some ⟨1,iv ns⟩)
  (hK: ∀m,m≤ns.length→ns.take m=lim (val ns)→K (.lsl g 1 0 m) bl):bJ Tryz.prog 238 [.lsl g 1 0 ns.length] bl K:=by
 refine aZ Tryz.func238 rfl rfl (by rw[Tryz.ntmps238];simp) ?_
 rw[Tryz.ntmps238,Tryz.results238]
 refine aC ?_
 simp
 refine aK (fun n:Nat=> [(0,.lsl g 1 0 n)]) (fun _=>bl) (fun n=>n≤ns.length∧ ∀i (hi:i<ns.length),n≤i→ns[i]=0) (fun n=>n) _ ns.length ⟨Nat.le_refl _,fun i hi h=>by omega⟩ ⟨rfl,by simp,Sub.refl _⟩ ?_
 intro n ⟨hl,hz⟩
 refine aC ?_
 simp
 refine aV [(0,.lsl g 1 0 n)] _ bl 14 (.bool (decide (0<n)&& decide (ns.getD (n - 1) 1=0))) ⟨rfl,by simp,Sub.refl _⟩ rfl ?_ ?_
 ·simp
  refine⟨fun h=> ?_,fun h=>by simp[h]⟩
  have w1:IntKind.i64.wrap ((n:Int) - 1)=((n - 1:Nat):Int):=by rw[i64_in (by omega) (by omega)];omega
  have h2:n - 1<ns.length:=by omega
  simp[w1,h2,h,hb,mN]
  omega
 simp
 refine⟨fun h1 h2=> ?_,fun h1=> ?_⟩
 ·have w1:IntKind.i64.wrap ((n:Int) - 1)=((n - 1:Nat):Int):=by rw[i64_in (by omega) (by omega)];omega
  simp[w1,sliV,hg0,aB]
  refine⟨n - 1,⟨by omega,fun i hi h3=> ?_⟩,by omega,rfl,?_,Sub.refl _⟩
  ·rcases Nat.lt_or_ge i n with h4 | h4
   ·obtain rfl:i=n - 1:=by omega
    simpa [hi] using h2
   ·exact hz i hi h4
  ·simp
 ·have hz2: ∀i (hi:i<ns.length),n=i+1→ns[i]≠0:=by
   intro i hi e
   subst e
   have:=h1 (by omega)
   simpa [hi] using this
  have:=wE hd hl hz hz2
  rw[aX]
  exact⟨[_],by simp,hK n hl this⟩
theorem Nl {bl bl':Int→Option Blk} {g:Int} {ns:List Int} {n:Nat} (hg0:0≤g) (hg:bl g=none) (hb:bl' g=some ⟨1,iv ns⟩) (hn:n≤ns.length):frz (dropB bl' bl) 1 (.lsl g 1 0 n)=some (.sl (iv (ns.take n))):=by
 unfold frz
 rw[if_neg (by omega)]
 unfold dropB
 rw[hg]
 simp only[hb]
 rw[if_pos (by simp;exact hn),List.drop_zero,uK,if_pos (lS _)]
structure TL where
 i:Nat
 j:Nat
 O:List Int
 c:Nat
theorem O3 {bl:Int→Option Blk} {K:V→(Int→Option Blk)→Prop} (a b:Nat) (ha:(lim a).length≤400000) (hb:(lim b).length≤400000) (ha0:a≠0) (hb0:b≠0)
  (hK: ∀g O,0≤g→bl g=none→(lim (a*b)).length≤O.length→O.take (lim (a*b)).length=lim (a*b)→K (.lsl g 1 0 (lim (a*b)).length) (upd bl g (some ⟨1,iv O⟩))):bJ Tryz.prog 228 [.sl (iv (lim a)),.sl (iv (lim b))] bl K:=by
 have la:(lim a).length≠0:=fun h=>ha0 (cW.1 (List.length_eq_zero_iff.1 h))
 have lb:(lim b).length≠0:=fun h=>hb0 (cW.1 (List.length_eq_zero_iff.1 h))
 refine aZ Tryz.func228 rfl rfl (by rw[Tryz.ntmps228];simp) ?_
 rw[Tryz.ntmps228,Tryz.results228]
 refine aC ?_
 simp
 refine aV [(0,.sl (iv (lim a))),(1,.sl (iv (lim b)))] _ bl 19 (.bool false) ⟨rfl,by simp,Sub.refl _⟩ rfl ?_ ?_
 ·have na:lim a≠ []:=fun h=>la (by rw[h];rfl)
  have nb:lim b≠ []:=fun h=>lb (by rw[h];rfl)
  simp[na,nb]
 have w0:IntKind.i64.wrap (((lim a).length:Int)+(lim b).length)=(lim a).length+(lim b).length:=i64_in (by omega) (by omega)
 simp[w0]
 refine⟨(lim a).length+(lim b).length,by simp,by simp,by omega,by unfold maxLen;omega,fun g hg0 hg=> ?_⟩
 have er:List.replicate ((lim a).length+(lim b).length) [V.int IntKind.i64 0]=iv (List.replicate ((lim a).length+(lim b).length) 0):=by simp[iv]
 simp[er]
 refine aK (fun p:TL=> [(0,.sl (iv (lim a))),(1,.sl (iv (lim b))),(5,.lsl g 1 0 ((lim a).length+(lim b).length)),(26,.sl (iv (lim a))),(27,.int .i64 (lim a).length),(28,.int .i64 p.i)]) (fun p=>upd bl g (some ⟨1,iv p.O⟩))
  (fun p=>p.i≤(lim a).length∧fJ a b p.i 0 p.O 0) (fun p=>(lim a).length - p.i) _ ⟨0,0,_,0⟩ ⟨Nat.zero_le _,fJ.start a b⟩ ⟨rfl,by simp,sub_eq (by simp)⟩ ?_
 rintro⟨i,j0,O,c0⟩ ⟨hi,hI⟩
 simp only at hi hI
 refine aC ?_
 simp
 refine⟨fun h1=> ?_,fun h1=> ?_⟩
 ·simp[bK _ _ h1]
  refine aK (fun p:TL=> [(0,.sl (iv (lim a))),(1,.sl (iv (lim b))),(5,.lsl g 1 0 ((lim a).length+(lim b).length)),(6,.int .i64 i),(7,.int .i64 (dg a i:Nat)),(8,.int .i64 p.c),(26,.sl (iv (lim a))),(27,.int .i64 (lim a).length),(28,.int .i64 i),(33,.sl (iv (lim b))),(34,.int .i64 (lim b).length),(35,.int .i64 p.j)]) (fun p=>upd bl g (some ⟨1,iv p.O⟩))
   (fun p=>p.j≤(lim b).length∧fJ a b i p.j p.O p.c) (fun p=>(lim b).length - p.j) _ ⟨i,0,O,0⟩ ⟨Nat.zero_le _,hI⟩ ⟨rfl,by simp,sub_eq (by simp)⟩ ?_
  rintro⟨i',j,O,c⟩ ⟨hj,hJ⟩
  simp only at hj hJ
  have hlen:=hJ.len
  refine aC ?_
  simp
  refine⟨fun h2=> ?_,fun h2=> ?_⟩
  ·have hk:i+j<O.length:=by omega
   obtain⟨n1,n2,n3,hN⟩:=hJ.next h1 h2 hk
   have w1:IntKind.i64.wrap ((i:Int)+j)=(i:Int)+j:=i64_in (by omega) (by omega)
   have p1:0≤(i:Int)+j:=by omega
   have p2:(i:Int)+j<(lim a).length+(lim b).length:=by omega
   have p3:((i:Int)+j).toNat=i+j:=by omega
   have w3:IntKind.i64.wrap ((j:Int)+1)=j+1:=i64_in (by omega) (by omega)
   have hm:0≤(dg a i:Int)*dg b j∧(dg a i:Int)*dg b j<1000000000000000000:=by
    have hO:=hJ.dig.at hk
    have e:0≤(dg a i:Int)*dg b j:=by rw[←Int.natCast_mul];omega
    exact⟨e,by omega⟩
   have hO:=hJ.dig.at hk
   have w4:IntKind.i64.wrap ((dg a i:Int)*dg b j)=(dg a i:Int)*dg b j:=i64_in (by omega) (by omega)
   have w5:IntKind.i64.wrap (O[i+j]+(dg a i:Int)*dg b j)=O[i+j]+(dg a i:Int)*dg b j:=i64_in (by omega) (by omega)
   have w6:IntKind.i64.wrap (O[i+j]+(dg a i:Int)*dg b j+c)=O[i+j]+(dg a i:Int)*dg b j+c:=i64_in (by omega) (by omega)
   have w7:=wq (x:=O[i+j]+(dg a i:Int)*dg b j+c) (n:=1000000000) n3 (by omega) (by omega)
   simp[bK _ _ h2,w1,w3,w4,w5,w6,w7,p1,p2,p3,hk]
   rw[aB]
   obtain⟨c',hc'⟩: ∃c':Nat,(O[i+j]+(dg a i:Int)*dg b j+c).tdiv 1000000000=c':=⟨((O[i+j]+(dg a i:Int)*dg b j+c).tdiv 1000000000).toNat,by omega⟩
   refine⟨⟨i,j+1,O.set (i+j) ((O[i+j]+(dg a i:Int)*dg b j+c).tmod 1000000000),c'⟩,⟨by simp only;omega,?_⟩,by simp only;omega,rfl,by simp[hc'],sub_eq ?_⟩
   ·rw[hc'] at hN;exact hN
   ·rw[dP]
  ·have e:j=(lim b).length:=by omega
   have hk:i+(lim b).length<O.length:=by omega
   have hR:=hJ.row h1 (by omega) hj hk
   have w1:IntKind.i64.wrap ((i:Int)+(lim b).length)=(i:Int)+(lim b).length:=i64_in (by omega) (by omega)
   have p1:0≤(i:Int)+(lim b).length:=by omega
   have p2:(i:Int)+(lim b).length<(lim a).length+(lim b).length:=by omega
   have p3:((i:Int)+(lim b).length).toNat=i+(lim b).length:=by omega
   have w3:IntKind.i64.wrap ((i:Int)+1)=i+1:=i64_in (by omega) (by omega)
   simp[w1,w3,p1,p2,p3,hk]
   rw[aB]
   refine⟨⟨i+1,0,O.set (i+(lim b).length) c,0⟩,⟨by simp only;omega,hR⟩,by simp only;omega,rfl,by simp,sub_eq ?_⟩
   rw[dP]
 ·have hv:=hI.done (c:=0) (by omega)
  have hlen:=hI.len
  have hg':bl g=none:=by simpa using hg
  have e:((lim a).length+(lim b).length:Nat)=O.length:=hlen.symm
  rw[e]
  refine Mi O hI.dig (by omega) g hg0 (by simp) fun m hm ht=> ?_
  rw[hv] at ht
  have hml:m=(lim (a*b)).length:=by rw[←ht];simp;omega
  subst hml
  simp
  rw[aX]
  exact⟨[_],by simp,hK g O hg0 hg' hm ht⟩
theorem kI (a b:Nat) (ha:(lim a).length≤400000) (hb:(lim b).length≤400000):RO Tryz.prog 228 [.sl (iv (lim a)),.sl (iv (lim b))] (.sl (iv (lim (a*b)))):=by
 by_cases h0:a=0∨b=0
 ·have hz:a*b=0:=Nat.mul_eq_zero.2 h0
  rw[hz,aU]
  refine aI Tryz.func228 rfl rfl (by rw[Tryz.ntmps228];simp) fun bl=> ?_
  rw[Tryz.ntmps228,Tryz.results228]
  refine aC ?_
  simp
  refine aV [(0,.sl (iv (lim a))),(1,.sl (iv (lim b)))] _ bl 19 (.bool true) ⟨rfl,by simp,Sub.refl _⟩ rfl ?_ ?_
  ·simp
   rcases h0 with h0 | h0
   ·simp[h0,aU]
   ·simp[h0,aU]
  simp
  exact aN [.nils] 0 (by simp) rfl (Sub.refl _)
 ·intro bl
  refine sI (O3 a b ha hb (by omega) (by omega) fun g O hg0 hg hl ht=>⟨1,?_,by simp[hg]⟩) ⟨rfl,rfl⟩
  have:=Nl (bl':=upd bl g (some ⟨1,iv O⟩)) hg0 hg (by simp) hl
  rw[ht] at this
  exact this
structure SL where
 i:Nat
 Q:List Int
 r:Int
theorem qD (a b:Nat) (ha:(lim a).length≤1048576) (hb0:0<b) (hb:b<1000000000):RO Tryz.prog 235 [.sl (iv (lim a)),.int .i64 b] (.tup [.sl (iv (lim (a / b))),.int .i64 (a % b:Nat)]):=by
 refine aI Tryz.func235 rfl rfl (by rw[Tryz.ntmps235];simp) fun bl=> ?_
 rw[Tryz.ntmps235,Tryz.results235]
 refine aC ?_
 simp
 refine⟨by omega,by unfold maxLen;omega,fun g hg0 hg=> ?_⟩
 have er:List.replicate ((lim a).length) [V.int IntKind.i64 0]=iv (List.replicate ((lim a).length) 0):=by simp[iv]
 have w0:IntKind.i64.wrap (((lim a).length:Int) - 1)=((lim a).length:Int) - 1:=i64_in (by omega) (by omega)
 simp[er,w0]
 refine aK (fun p:SL=> [(0,.sl (iv (lim a))),(1,.int .i64 b),(6,.lsl g 1 0 (lim a).length),(7,.int .i64 p.r),(8,.int .i64 ((p.i:Int) - 1))]) (fun p=>upd bl g (some ⟨1,iv (List.replicate p.i 0++p.Q)⟩))
  (fun p=>0≤p.r∧nE a b p.i p.Q p.r.toNat) (fun p=>p.i) _ ⟨(lim a).length,[],0⟩ ⟨Int.le_refl _,nE.start a b hb0⟩ ⟨rfl,by simp,sub_eq (by simp)⟩ ?_
 rintro⟨i,Q,r⟩ ⟨hr0,hI⟩
 simp only at hr0 hI
 have hr:=hI.rlt
 have hle:=hI.le
 have hql:=hI.len
 refine aC ?_
 simp[-binV, -intV]
 refine⟨fun h1=> ?_,fun h1=> ?_⟩
 ·obtain⟨m,rfl⟩: ∃m,i=m+1:=⟨i - 1,by omega⟩
  have hm:m<(lim a).length:=by omega
  have hd:=dQ a m
  obtain⟨z,hz⟩: ∃z,z=r.toNat*1000000000+dg a m:=⟨_,rfl⟩
  have hN:=hI.next (q:=z / b) (r':=z % b) (by rw[hz]) (by rw[hz])
  have e1:((m+1:Nat):Int) - 1=m:=by omega
  have w1:IntKind.i64.wrap (r*1000000000)=r*1000000000:=i64_in (by omega) (by omega)
  have w2:IntKind.i64.wrap (r*1000000000+dg a m)=z:=by rw[i64_in (by omega) (by omega)];omega
  have hz2:z≤9223372036854775807:=by omega
  simp[-binV, -intV,e1,bK _ _ hm,w1,w2]
  clear w1 w2 hz
  have b0: ¬ b=0:=by omega
  have hg':bl g=none:=by simpa using hg
  have w3:=wq (x:=(z:Int)) (n:=b) (by omega) (by omega) (by omega)
  have w4:(z:Int).tdiv b=(z / b:Nat):=by rw[Int.tdiv_eq_ediv_of_nonneg (by omega)];simp
  have w5:(z:Int).tmod b=(z % b:Nat):=by rw[Int.tmod_eq_emod_of_nonneg (by omega)];simp
  rw[w4] at w3
  have w3':IntKind.i64.wrap ((z:Int) / b)=(z:Int) / b:=by simpa using w3
  refine⟨by omega,bY aQ bl (by simp[hg']) [0,1,2,3,4,5,6,7,8] 2 (by kernel_rfl) ?_⟩
  simp[-binV, -intV,w3',w4,w5,hm,b0]
  have q:(iv (List.replicate (m+1) 0++Q))[m]? =some [.int .i64 0]:=by rw[cH _ _ (by simp;omega)];simp
  have w6:IntKind.i64.wrap ((m:Int) - 1)=(m:Int) - 1:=i64_in (by omega) (by omega)
  refine Dz 9 ?_
  simp[-binV, -intV,q,hg']
  refine Dz 10 ?_
  simp[-binV, -intV,hg']
  refine Dy ?_
  simp[-binV, -intV,w6,aB]
  refine⟨⟨m,((z / b:Nat):Int)::Q,(z % b:Nat)⟩,⟨by simp only;omega,by show nE a b m _ (((z % b:Nat):Int)).toNat;rw[Int.toNat_natCast];exact hN⟩,by simp only;omega,rfl,by simp,sub_eq ?_⟩
  rw[←mS m _ 0 Q,←dP]
  simp
 ·have e:i=0:=by omega
  subst e
  obtain⟨h2,h3⟩:=hI.done
  have h4:r=(a % b:Nat):=by omega
  have hg':bl g=none:=by simpa using hg
  simp
  refine gK 1 bl _ (by simp[hg']) (jP (ns:=Q) hg0 hg' (by simp) (by simp[hql])) (qP _ hI.dig (by omega)) ?_
  simp[h2,h4]
  exact aN [.sl (iv (lim (a / b))),.int .i64 (a % b:Nat)] 1 (by simp) rfl (by simp)

structure KL where
 i:Nat
 O:List Int
 c:Int
theorem Pb {bl:Int→Option Blk} {K:V→(Int→Option Blk)→Prop} (u:List Int) (V0 g j n m:Nat) (gu:Int) (hgu:0≤gu) (hb:bl gu=some ⟨1,iv u⟩) (hu:Dig u) (hn:(lim V0).length=n) (hm:j+m=u.length) (hnm:n<m) (hg:g<1000000000) (hul:u.length≤1048576)
  (hK: ∀(O:List Int) (c:Nat) (hk:j+n<O.length),gJ u V0 g j n O c→K (.bool (decide (O[j+n] - c<0))) (upd bl gu (some ⟨1,iv (O.set (j+n) (O[j+n] - c))⟩))):
  bJ Tryz.prog 236 [.lsl gu 1 j m,.sl (iv (lim V0)),.int .i64 g] bl K:=by
 have hu0:upd bl gu (some ⟨1,iv u⟩)=bl:=by
  funext x;simp only[aA];split
  ·rename_i h;rw[h,hb]
  ·rfl
 refine aZ Tryz.func236 rfl rfl (by rw[Tryz.ntmps236];simp) ?_
 rw[Tryz.ntmps236,Tryz.results236]
 refine aC ?_
 simp[hn]
 refine aK (fun p:KL=> [(0,.lsl gu 1 j m),(1,.sl (iv (lim V0))),(2,.int .i64 g),(7,.int .i64 p.c),(11,.sl (iv (lim V0))),(12,.int .i64 n),(13,.int .i64 p.i)]) (fun p=>upd bl gu (some ⟨1,iv p.O⟩))
  (fun p=>p.i≤n∧0≤p.c∧gJ u V0 g j p.i p.O p.c.toNat) (fun p=>n - p.i) _ ⟨0,u,0⟩ ⟨Nat.zero_le _,Int.le_refl _,gJ.start V0 g j hu⟩ ⟨rfl,by simp,sub_eq (by rw[hu0])⟩ ?_
 rintro⟨i,O,c⟩ ⟨hi,hc0,hI⟩
 simp only at hi hc0 hI
 have hc1:=hI.c1
 have hlen:=hI.len
 refine aC ?_
 simp[-binV, -intV]
 refine⟨fun h1=> ?_,fun h1=> ?_⟩
 ·have hv:i<(lim V0).length:=by omega
  have hk:j+i<O.length:=by omega
  have hO:=hI.dig.at hk
  obtain⟨m0,m1⟩:=hI.x hg hk
  have w3:IntKind.i64.wrap ((i:Int)+1)=i+1:=i64_in (by omega) (by omega)
  have w1:IntKind.i64.wrap ((g:Int)*dg V0 i)=(g:Int)*dg V0 i:=i64_in (by omega) (by omega)
  have w2:IntKind.i64.wrap (O[j+i] - (g:Int)*dg V0 i)=O[j+i] - (g:Int)*dg V0 i:=i64_in (by omega) (by omega)
  have w4:IntKind.i64.wrap (O[j+i] - (g:Int)*dg V0 i - c)=O[j+i] - (g:Int)*dg V0 i - c:=i64_in (by omega) (by omega)
  have him:(i:Int)<m:=by omega
  obtain⟨x,hx⟩: ∃x,x=O[j+i] - (g:Int)*dg V0 i - c:=⟨_,rfl⟩
  have hx':x=O[j+i] - (g:Int)*dg V0 i - (c.toNat:Int):=by rw[hx];omega
  have wx:IntKind.i64.wrap x=x:=i64_in (by omega) (by omega)
  have w5:IntKind.i64.wrap (999999999 - x)=999999999 - x:=i64_in (by omega) (by omega)
  have key:x<0→0≤(999999999 - x).tdiv 1000000000∧(999999999 - x).tdiv 1000000000<1000000000∧gJ u V0 g j (i+1) (O.set (j+i) (x+(999999999 - x).tdiv 1000000000*1000000000)) ((999999999 - x).tdiv 1000000000).toNat:=fun h=>hI.zF hg hk hx' h (by simp)
  obtain⟨y,hy⟩: ∃y,y=(999999999 - x).tdiv 1000000000:=⟨_,rfl⟩
  rw[←hy] at key
  simp[-binV, -intV,bK _ _ hv,w1,w2,w4,hk,him,←hx,wx,w3,w5,←hy]
  refine⟨fun h3=> ?_,fun h3=> ?_⟩
  ·obtain⟨k1,k2,k3⟩:=key h3
   have w6:IntKind.i64.wrap y=y:=i64_in (by omega) (by omega)
   have w7:IntKind.i64.wrap (y*1000000000)=y*1000000000:=i64_in (by omega) (by omega)
   have w8:IntKind.i64.wrap (x+y*1000000000)=x+y*1000000000:=by
    have:=k3.dig.at (k:=j+i) (by simpa using hk)
    rw[List.getElem_set_self] at this
    exact i64_in (by omega) (by omega)
   simp[-binV, -intV,w6,w7,w8]
   rw[aB]
   refine⟨⟨i+1,O.set (j+i) (x+y*1000000000),y⟩,⟨by simp only;omega,k1,k3⟩,by simp only;omega,rfl,by simp,sub_eq ?_⟩
   rw[dP]
  ·rw[aB]
   refine⟨⟨i+1,O.set (j+i) x,0⟩,⟨by simp only;omega,Int.le_refl _,hI.zR hg hk hx' (by omega)⟩,by simp only;omega,rfl,by simp,sub_eq ?_⟩
   rw[dP]
 ·have e:i=n:=by omega
  subst e
  have hk:j+i<O.length:=by omega
  have hO:=hI.dig.at hk
  obtain⟨c',rfl⟩: ∃c':Nat,c=c':=⟨c.toNat,by omega⟩
  have w1:IntKind.i64.wrap (O[j+i] - (c':Int))=O[j+i] - (c':Int):=i64_in (by omega) (by omega)
  have him:(i:Int)<m:=by omega
  simp[-binV, -intV,hn,him,hk,w1]
  refine⟨hnm,?_⟩
  rw[aX]
  refine⟨[.bool (decide (O[j+i] - (c':Int)<0))],by simp,?_⟩
  have:=hK O c' hk (by simpa using hI)
  rw[←dP] at this
  exact this
theorem Mq {bl:Int→Option Blk} {K:V→(Int→Option Blk)→Prop} (O:List Int) (t:Int) (V0 j n m:Nat) (gu:Int) (hgu:0≤gu) (hk:j+n<O.length) (hb:bl gu=some ⟨1,iv (O.set (j+n) t)⟩) (hO:Dig O) (hn:(lim V0).length=n) (hm:j+m=O.length) (ht: -1000000000≤t∧t≤1000000000) (hul:O.length≤1048576)
  (hK: ∀(v:V) (W:List Int) (d:Nat) (hk2:j+n<W.length),qJ O V0 j n W d→K v (upd bl gu (some ⟨1,iv (W.set (j+n) (t+d))⟩))):
  bJ Tryz.prog 237 [.lsl gu 1 j m,.sl (iv (lim V0))] bl K:=by
 have hu0:upd bl gu (some ⟨1,iv (O.set (j+n) t)⟩)=bl:=by
  funext x;simp only[aA];split
  ·rename_i h;rw[h,hb]
  ·rfl
 refine aZ Tryz.func237 rfl rfl (by rw[Tryz.ntmps237];simp) ?_
 rw[Tryz.ntmps237,Tryz.results237]
 refine aC ?_
 simp[hn]
 refine aK (fun p:KL=> [(0,.lsl gu 1 j m),(1,.sl (iv (lim V0))),(4,.int .i64 p.c),(8,.sl (iv (lim V0))),(9,.int .i64 n),(10,.int .i64 p.i)]) (fun p=>upd bl gu (some ⟨1,iv (p.O.set (j+n) t)⟩))
  (fun p=>p.i≤n∧0≤p.c∧qJ O V0 j p.i p.O p.c.toNat) (fun p=>n - p.i) _ ⟨0,O,0⟩ ⟨Nat.zero_le _,Int.le_refl _,qJ.start V0 j hO⟩ ⟨rfl,by simp,sub_eq (by rw[hu0])⟩ ?_
 rintro⟨i,W,c⟩ ⟨hi,hc0,hI⟩
 simp only at hi hc0 hI
 have hc1:=hI.c1
 have hlen:=hI.len
 refine aC ?_
 simp
 refine⟨fun h1=> ?_,fun h1=> ?_⟩
 ·have hv:i<(lim V0).length:=by omega
  have hki:j+i<W.length:=by omega
  have hne:j+n≠j+i:=by omega
  have hd:=dQ V0 i
  have hW:=hI.dig.at hki
  obtain⟨n1,n2,n3,hN⟩:=hI.next hki
  have ec:((c.toNat:Nat):Int)=c:=by omega
  rw[ec] at n1 n2 n3 hN
  have q:(iv (W.set (j+n) t))[j+i]? =some [.int .i64 W[j+i]]:=by rw[cH _ _ (by simpa using hki),List.getElem_set_ne hne]
  have w3:IntKind.i64.wrap ((i:Int)+1)=i+1:=i64_in (by omega) (by omega)
  have w1:IntKind.i64.wrap (W[j+i]+(dg V0 i:Int))=W[j+i]+(dg V0 i:Int):=i64_in (by omega) (by omega)
  have w2:IntKind.i64.wrap (W[j+i]+(dg V0 i:Int)+c)=W[j+i]+(dg V0 i:Int)+c:=i64_in (by omega) (by omega)
  have w4:=wq (x:=W[j+i]+(dg V0 i:Int)+c) (n:=1000000000) n1 (by omega) (by omega)
  have him:(i:Int)<m:=by omega
  simp[-cH,bK _ _ hv,q,w1,w2,w3,w4,him]
  rw[aB]
  refine⟨⟨i+1,W.set (j+i) ((W[j+i]+(dg V0 i:Int)+c).tmod 1000000000),(W[j+i]+(dg V0 i:Int)+c).tdiv 1000000000⟩,⟨by simp only;omega,n3,hN⟩,by simp only;omega,rfl,by simp,sub_eq ?_⟩
  rw[dP,List.set_comm _ _ hne]
 ·have e:i=n:=by omega
  subst e
  have hki:j+i<W.length:=by omega
  obtain⟨c',rfl⟩: ∃c':Nat,c=c':=⟨c.toNat,by omega⟩
  have w1:IntKind.i64.wrap (t+(c':Int))=t+(c':Int):=i64_in (by omega) (by omega)
  have him:(i:Int)<m:=by omega
  have q:(iv (W.set (j+i) t))[j+i]? =some [.int .i64 t]:=by rw[cH _ _ (by simpa using hki),List.getElem_set_self]
  simp[-cH,hn,him,hki,q,w1]
  refine⟨by omega,?_⟩
  rw[mW]
  refine⟨[],rfl,?_⟩
  have:=hK (retV []) W c' hki (by simpa using hI)
  rw[dP,List.set_set]
  exact this

theorem kB (a:List Int) (ha:a.length≤1048576):NW Tryz.prog 174 [.sl (iv a)] (fl 1 (iv a)):=by
 cases a with
 | nil =>
   intro bl
   refine vG ?_ ?_
   ·refine pN ?_
    refine aZ Tryz.func174 rfl rfl (by rw[Tryz.ntmps174];simp) ?_
    rw[Tryz.ntmps174,Tryz.results174]
    refine aC ?_
    simp
    exact eE [.nils] [] rfl (fZ.2 (.inl ⟨rfl,rfl,rfl⟩)) (by simp) (Sub.refl _)
   ·refine pN ?_
    refine aZ Tryz.func174 rfl rfl (by rw[Tryz.ntmps174];simp) ?_
    rw[Tryz.ntmps174,Tryz.results174]
    refine aC ?_
    simp
    intro g hg0 hg
    simp[appV,elsV]
    intro g' hb'
    refine eE [.lsl g' 1 0 0] [g'] (by simp) (fZ.2 (.inr ⟨g',rfl,rfl,by simp[iv],fun _=>rfl⟩)) ?_ ?_
    ·simp;grind
    ·have:bl g'=none:=by grind
     simp[hg,this]
 | cons x a =>
   simp only[List.length_cons] at ha
   refine iQ Tryz.func174 rfl rfl (by rw[Tryz.ntmps174];simp) fun bl=> ?_
   rw[Tryz.ntmps174,Tryz.results174]
   refine aC ?_
   simp[iv]
   intro g hg0 hg
   simp[appV,elsV]
   refine⟨by omega,fun g' hg' hb'=> ?_⟩
   have hbn:bl g'=none:=by grind
   refine eE [.lsl g' 1 0 (a.length+1)] [g'] (by simp) ?_ (by simpa using hbn) (by simp[hg,hbn])
   exact(fZ (ns:=x::a)).2 (.inr ⟨g',by simp,rfl,by simp[iv],by omega⟩)
theorem yH (a:List Int) (ha:a.length≤1048576):RO Tryz.prog 174 [.sl (iv a)] (.sl (iv a)):=by
 have:=eH 1 (kB a ha) (kT _ _ 0)
 simpa using this

theorem Ay {a b:Nat} :iE a b<0 ↔ a<b:=by unfold iE;split<;>(try split)<;>omega
theorem Ow {b:Nat} (h:(lim b).length=1):dg b 0=b∧b<1000000000∧0<b:=by
 have h1:=cX b 0
 rw[gE (by omega)] at h1
 have h2:=dQ b 0
 have h3:b≠0:=fun h0=>by rw[h0,aU] at h;simp at h
 simp at h1
 omega
theorem Tg {d:Nat} (h0:0<d) (h1:d<1000000000):1≤1000000000 / (d+1)∧1000000000 / (d+1)<1000000000∧1000000000 / (d+1)*(d+1)≤1000000000:=by
 refine⟨?_,?_,Nat.div_mul_le_self _ _⟩
 ·rw[Nat.le_div_iff_mul_le (by omega)];omega
 ·exact Nat.div_lt_self (by omega) (by omega)
theorem Z4 {f:Nat} (h0:0<f) (h1:f<1000000000):lim f= [(f:Int)]:=by
 rw[lQ (by omega),show f / LB=0 from Nat.div_eq_of_lt h1,aU,show f % LB=f from Nat.mod_eq_of_lt h1]
theorem Sk {b f n:Nat} (hn:(lim b).length=n+1) (hf:f*(dg b n+1)≤LB) (hf0:0<f):(lim (b*f)).length=n+1:=by
 have h1:=bI (a:=b) (b:=b*f) (Nat.le_mul_of_pos_right _ hf0)
 have h2:(lim (b*f)).length≤n+1:=by
  refine aF.2 ?_
  have e:=cX b n
  rw[gE (by omega)] at e
  have hl:=O8 b n
  have h3:b+1≤LB^n*(dg b n+1):=by rw[Nat.mul_add];omega
  have h4:(b+1)*f≤LB^n*(dg b n+1)*f:=Nat.mul_le_mul_right _ h3
  have h5:LB^n*(dg b n+1)*f≤LB^n*LB:=by
   rw[Nat.mul_assoc,Nat.mul_comm (dg b n+1)];exact Nat.mul_le_mul_left _ hf
  rw[Nat.pow_succ]
  rw[Nat.add_mul,Nat.one_mul] at h4
  omega
 omega
theorem KnI.start {a b f k n:Nat} (hn:(lim b).length=n) (hf:0<f) (hb:0<b) (hL:(lim a).length+1≤(lim (a*f)).length+k) (hnL:n≤(lim a).length):
  KnI (a*f) (b*f) ((lim (a*f)).length+k) n ((lim (a*f)).length+k - n) (lim (a*f)++List.replicate k 0) []:=by
 have hd:Dig (lim (a*f)++List.replicate k 0):=Dig.append.2 ⟨eR _,oY k⟩
 have hv:val (lim (a*f)++List.replicate k 0)=a*f:=by rw[fU,oU,dE];simp
 refine⟨by simp,hd,by omega,by simp,(fun _ h=>by cases h),by rw[hv];simp[val],?_⟩
 generalize hj:(lim (a*f)).length+k - n=j
 have hs:=iG (lim (a*f)++List.replicate k 0) (k:=j) (by simp;omega)
 rw[hv] at hs
 generalize val ((lim (a*f)++List.replicate k 0).drop j)=x at hs ⊢
 rcases Nat.lt_or_ge x (b*f) with h | h
 ·exact h
 exfalso
 have h1:LB^j*(b*f)≤a*f:=by
  have:=Nat.mul_le_mul_left (LB^j) h
  omega
 have h2:LB^j*b≤a:=by
  rw[←Nat.mul_assoc] at h1
  exact Nat.le_of_mul_le_mul_right h1 hf
 have h3:=wS (n:=b) (by omega)
 have h4:LB^j*LB^((lim b).length - 1)≤LB^j*b:=Nat.mul_le_mul_left _ h3
 rw[←Nat.pow_add] at h4
 have h5:a<LB^(lim a).length:=aF.1 (Nat.le_refl _)
 have hb1:(lim b).length≠0:=fun h0=>by have:=cW.1 (List.length_eq_zero_iff.1 h0);omega
 have h6:LB^(lim a).length≤LB^(j+((lim b).length - 1)):=Nat.pow_le_pow_right gU (by omega)
 omega
theorem X4 {a b f:Nat} (hf:0<f):a*f / (b*f)=a / b∧a*f % (b*f)=a % b*f:=⟨Nat.mul_div_mul_right _ _ hf,Nat.mul_mod_mul_right _ _ _⟩
structure GC (U V top t1 v1 v2 T ul vl : Nat) : Prop where
 hu:U=(top*LB+t1)*T+ul
 hv:V=(v1*LB+v2)*T+vl
 hul:ul<T
 hvl:vl<T
 hv1:0<v1
 hv2:v2<LB
 aGV:v1<LB
 ht1:t1<LB
 pZ:top≤v1*LB+(LB - 1)
 hlt:U<LB*V
theorem GC.V0 {U V top t1 v1 v2 T ul vl:Nat} (h:GC U V top t1 v1 v2 T ul vl):0<V:=by
 rw[h.hv]
 have:=h.hvl
 have h0:0<v1*LB+v2:=by have:=Nat.mul_pos h.hv1 gU;omega
 have h1:=Nat.mul_pos h0 (show 0<T by omega)
 omega
structure GI (U V top v1 g r : Nat) : Prop where
 eq:top=g*v1+r
 lt:r<LB
 le:U / V≤g
theorem GC.start {U V top t1 v1 v2 T ul vl:Nat} (h:GC U V top t1 v1 v2 T ul vl):GI U V top v1 (top / v1) (top % v1):=by
 refine⟨by rw[Nat.mul_comm];exact(Nat.div_add_mod _ _).symm,Nat.lt_trans (Nat.mod_lt _ h.hv1) h.aGV,?_⟩
 have e1:U=top*(LB*T)+(t1*T+ul):=by rw[h.hu,Nat.add_mul,Nat.mul_assoc,Nat.add_assoc]
 have e2:V=v1*(LB*T)+(v2*T+vl):=by rw[h.hv,Nat.add_mul,Nat.mul_assoc,Nat.add_assoc]
 rw[e1,e2]
 refine N4 ?_ h.hv1
 have h1:(t1+1)*T≤LB*T:=Nat.mul_le_mul_right _ h.ht1
 rw[Nat.add_mul] at h1
 have:=h.hul
 omega
theorem GC.dec {U V top t1 v1 v2 T ul vl g r:Nat} (h:GC U V top t1 v1 v2 T ul vl) (hI:GI U V top v1 g r) (hc:LB≤g∨r*LB+t1<g*v2):0<g∧U / V≤g - 1∧top=(g - 1)*v1+(r+v1):=by
 have h1:U / V<g:=by
  rcases hc with hc | hc
  ·exact Y9 h.V0 h.hlt hc
  ·have h2:=(vT (v2:=v2) (u:=t1) hI.eq).1 hc
   rw[h.hu,h.hv]
   exact Ci (by have:=h.hul;omega) h.hul (by have:=Nat.mul_pos h.hv1 gU;omega) h2
 generalize U / V=q at h1 ⊢
 refine⟨by omega,by omega,?_⟩
 obtain⟨k,rfl⟩: ∃k,g=k+1:=⟨g - 1,by omega⟩
 have:=hI.eq
 rw[Nat.add_mul] at this
 rw[Nat.add_sub_cancel]
 omega
theorem GC.done {U V top t1 v1 v2 T ul vl g r:Nat} (h:GC U V top t1 v1 v2 T ul vl) (hI:GI U V top v1 g r) (h1:g<LB) (h2:g*v2≤r*LB+t1):g=U / V∨g=U / V+1:=by
 have hle:=hI.le
 have h3:g*(v1*LB+v2)≤top*LB+t1:=by
  have:=vT (v2:=v2) (u:=t1) hI.eq
  omega
 have:=zW (ul:=ul) h.hvl h.hv1 h1 h3
 rw[←h.hu,←h.hv] at this
 generalize U / V=q at *
 omega
theorem GC.brk {U V top t1 v1 v2 T ul vl g r:Nat} (h:GC U V top t1 v1 v2 T ul vl) (h0:top=g*v1+r) (h1:LB≤r) (h2:U / V≤g):g<LB∧(g=U / V∨g=U / V+1):=by
 obtain⟨h3,h4⟩:=L9 (u:=t1) h0 h1 h.pZ h.hv2 h.hv1
 have:=zW (ul:=ul) h.hvl h.hv1 h3 h4
 rw[←h.hu,←h.hv] at this
 generalize U / V=q at *
 exact⟨h3,by omega⟩

structure OL where
 j:Nat
 u:List Int
 Q:List Int
structure QL where
 g:Int
 r:Int
set_option maxHeartbeats 2000000 in
theorem uF (a b:Nat) (hb0:0<b) (ha:(lim a).length≤300000) (hbl:(lim b).length≤300000):RO Tryz.prog 176 [.sl (iv (lim a)),.sl (iv (lim b))] (.tup [.sl (iv (lim (a / b))),.sl (iv (lim (a % b)))]):=by
 refine aI Tryz.func176 rfl rfl (by rw[Tryz.ntmps176];simp) fun bl=> ?_
 rw[Tryz.ntmps176,Tryz.results176]
 refine aE ?_
 simp
 refine aE ?_
 simp
 refine aD (iD a b (by omega) (by omega)) ?_
 simp[Ay]
 refine⟨fun h=> ?_,fun h=> ?_⟩
 ·refine aD (yH (lim a) (by omega)) ?_
  have e1:a / b=0:=Nat.div_eq_of_lt h
  have e2:a % b=a:=Nat.mod_eq_of_lt h
  simp[e1,e2,aU]
  exact aN [.nils,.sl (iv (lim a))] 1 (by simp) rfl (Sub.refl _)
 refine aE ?_
 simp
 refine⟨fun h1=> ?_,fun h1=> ?_⟩
 ·have h1':(lim b).length=1:=by omega
  obtain⟨b1,b2,b3⟩:=Ow h1'
  simp[bK b 0 (by omega),b1]
  refine aD (qD a b (by omega) b3 b2) ?_
  have hr:a % b<b:=Nat.mod_lt _ b3
  obtain⟨r,hr2⟩: ∃r,r=a % b:=⟨_,rfl⟩
  rw[←hr2] at hr ⊢
  have w1:IntKind.u64.wrap (r:Int)=r:=IntWalk.u64_in _ ⟨by omega,by omega⟩
  simp[w1]
  refine aD (pH r (by omega)) ?_
  simp
  exact aN [.sl (iv (lim (a / b))),.sl (iv (lim r))] 1 (by simp) rfl (Sub.refl _)
 have hab:b≤a:=by omega
 have hla:=bI hab
 have hbz:(lim b).length≠0:=fun h0=>by have:=cW.1 (List.length_eq_zero_iff.1 h0);omega
 obtain⟨n,hn⟩: ∃n,(lim b).length=n+2:=⟨(lim b).length - 2,by omega⟩
 have hd0:0<dg b (n+1):=D7 hn
 have hd1:=dQ b (n+1)
 obtain⟨f0,f1,f2⟩:=Tg hd0 hd1
 obtain⟨f,hf⟩: ∃f,f=1000000000 / (dg b (n+1)+1):=⟨_,rfl⟩
 rw[←hf] at f0 f1 f2
 have hbf:=Sk hn (show f*(dg b (n+1)+1)≤LB from f2) f0
 have hlf:=Z4 f0 f1
 have hfl:(lim f).length=1:=by rw[hlf];rfl
 refine aE ?_
 have w0:IntKind.i64.wrap (((lim b).length:Int) - 1)=((n+1:Nat):Int):=by rw[i64_in (by omega) (by omega)];omega
 have w1:IntKind.i64.wrap ((dg b (n+1):Int)+1)=(dg b (n+1):Int)+1:=i64_in (by omega) (by omega)
 have w2:IntKind.i64.wrap ((1000000000:Int).tdiv ((dg b (n+1):Int)+1))=f:=by
  rw[Int.tdiv_eq_ediv_of_nonneg (by omega),show(1000000000:Int) / ((dg b (n+1):Int)+1)=((1000000000 / (dg b (n+1)+1):Nat):Int) by simp,←hf]
  exact i64_in (by omega) (by omega)
 have hz1: ¬ (dg b (n+1):Int)+1=0:=by omega
 generalize hdd:dg b (n+1)=d at *
 have lg:=bK b (n+1) (by omega)
 rw[hdd] at lg
 have er1:List.range 1= [0]:=rfl
 simp[-binV, -intV,w0,w1,w2,lg,hz1,er1]
 refine⟨by omega,fun g8 hg8 hb8=> ?_⟩
 refine bZ 1 8 (.sl (iv (lim f))) bl (by simp[hb8]) ?_ ?_
 ·rw[hlf]
  exact cM hg8 hb8 (by simp;rfl) rfl rfl
 refine aE ?_
 simp
 refine O3 a f (by omega) (by omega) (by omega) (by omega) fun g O hg0 hg hO ht=> ?_
 simp
 intro g2 hg2 h2g hb2
 simp[h2g,Ne.symm h2g,appV,elsV,Int.not_lt.2 hg2,hO,Int.not_lt.2 hg0]
 have aN9:(lim (a*f)).length≤(lim a).length+1:=by
  refine aF.2 ?_
  have h2:a<LB^(lim a).length:=aF.1 (Nat.le_refl _)
  rw[Nat.pow_succ]
  exact Nat.mul_lt_mul_of_lt_of_le h2 (Nat.le_of_lt f1) gU
 have aOT:=bI (a:=a) (b:=a*f) (Nat.le_mul_of_pos_right _ f0)
 refine⟨by omega,fun g3 hg3 hb3=> ?_⟩
 have gZ:bl g3=none:=by grind
 refine aD (kI b f (by omega) (by omega)) ?_
 simp
 refine jY (fun p:Int×Nat=> [(0,.sl (iv (lim a))),(8,.sl (iv (lim f))),(9,.lsl p.1 1 0 ((lim (a*f)).length+p.2)),(10,.sl (iv (lim (b*f))))]) (fun p=>upd bl p.1 (some ⟨1,iv (lim (a*f)++List.replicate p.2 0)⟩))
  (fun p=>bl p.1=none∧0≤p.1∧(lim a).length+1≤(lim (a*f)).length+p.2∧1≤p.2∧p.2≤3) 172 ?_ ?_
 ·refine aC ?_
  simp
  refine aK (fun p:Int×Nat=> [(0,.sl (iv (lim a))),(8,.sl (iv (lim f))),(9,.lsl p.1 1 0 ((lim (a*f)).length+p.2)),(10,.sl (iv (lim (b*f))))]) (fun p=>upd bl p.1 (some ⟨1,iv (lim (a*f)++List.replicate p.2 0)⟩))
   (fun p=>bl p.1=none∧0≤p.1∧1≤p.2∧p.2≤3) (fun p=>3 - p.2) _ (g3,1) ⟨gZ,hg3,by simp,by simp⟩ ⟨rfl,by simp,eP (by simp[eM,uK,ht];rfl) (by simp[hg,hb2])⟩ ?_
  rintro⟨g4,k⟩ ⟨hb4,hg4,hk1,hk3⟩
  simp only at hb4 hg4 hk1 hk3
  refine aC ?_
  simp
  refine⟨fun h2=> ?_,fun h2=> ?_⟩
  ·intro g5 hg5 h54 hb5
   simp[h54,Ne.symm h54,appV,elsV,Int.not_lt.2 hg5]
   refine⟨by omega,fun g6 hg6 hb6=> ?_⟩
   have aL8:bl g6=none:=by grind
   rw[aB]
   refine⟨(g6,k+1),⟨aL8,hg6,by simp,by simp only;omega⟩,by simp only;omega,rfl,by simp[Nat.add_assoc],eP ?_ (by simp[hb4,hb5])⟩
   rw[List.take_of_length_le (by simp)]
   simp[iv,List.replicate_succ']
  ·rw[aG]
   exact⟨(g4,k),⟨hb4,hg4,by simp only;omega,hk1,hk3⟩,rfl,by simp,Sub.refl _⟩
 rintro⟨g4,k⟩ ⟨hb4,hg4,hk0,hk1,hk3⟩
 simp only at hb4 hg4 hk0 hk1 hk3
 have hKs:=KnI.start (a:=a) (b:=b) (f:=f) (k:=k) hn f0 hb0 hk0 (by omega)
 generalize hL:(lim (a*f)).length+k=L at *
 obtain⟨N,hN⟩: ∃N,N=n+2:=⟨_,rfl⟩
 have Tq:(lim (b*f)).length=N:=by omega
 rw[←hN] at hKs
 have hLn:N≤L:=by omega
 have w3:IntKind.i64.wrap ((L:Int) - (N:Int))=((L - N:Nat):Int):=by rw[i64_in (by omega) (by omega)];omega
 have w4:IntKind.i64.wrap (((L - N:Nat):Int) - 1)=((L - N:Nat):Int) - 1:=i64_in (by omega) (by omega)
 refine aC ?_
 simp[Tq,w3,w4]
 refine⟨by omega,by unfold maxLen;omega,fun g5 hg5 h54 hb5=> ?_⟩
 have er:List.replicate (L - N) [V.int IntKind.i64 0]=iv (List.replicate (L - N) 0):=by simp[iv]
 simp[er,h54,Ne.symm h54,Tq,w3,w4]
 refine aK (fun p:OL=> [(8,.sl (iv (lim f))),(9,.lsl g4 1 0 L),(10,.sl (iv (lim (b*f)))),(11,.int .i64 N),(12,.lsl g5 1 0 (L - N)),(13,.int .i64 ((p.j:Int) - 1))]) (fun p=>upd (upd bl g4 (some ⟨1,iv p.u⟩)) g5 (some ⟨1,iv (List.replicate p.j 0++p.Q)⟩))
  (fun p=>p.j≤L - N∧KnI (a*f) (b*f) L N p.j p.u p.Q) (fun p=>p.j) _ ⟨L - N,_,[]⟩ ⟨Nat.le_refl _,hKs⟩ ⟨rfl,by simp,sub_eq (by simp)⟩ ?_
 rintro⟨j,u,Q⟩ ⟨hj,hI⟩
 simp only at hj hI
 have hlen:=hI.len
 refine aE ?_
 simp
 refine⟨fun h2=> ?_,fun h2=> ?_⟩
 ·obtain⟨m,rfl⟩: ∃m,j=m+1:=⟨j - 1,by omega⟩
  have hV:=Tq
  generalize hVV:b*f=W at *
  have hUV:=hI.U
  have hz:=hI.zero hV
  have hk3:m+N<u.length:=by omega
  have hk2:m+(n+1)<u.length:=by omega
  have hk1:m+n<u.length:=by omega
  have t3:=hI.dig.at hk3
  have t2:=hI.dig.at hk2
  have t1:=hI.dig.at hk1
  obtain⟨vR,pZ⟩: ∃t,t=u[m+N].toNat*LB+u[m+(n+1)].toNat:=⟨_,rfl⟩
  have hGC:GC (val (u.drop m)) W vR u[m+n].toNat (dg W (n+1)) (dg W n) (LB^n) (val ((u.drop m).take n)) (pv W n):=by
   have hLB:LB=1000000000:=rfl
   subst hN
   have htv:=hI.top hV hk3
   refine⟨?_,aCH hV,?_,O8 _ _,D7 hV,?_,?_,?_,?_,hUV⟩
   ·rw[pZ];exact aDU hI.dig hz hk3 hk2 hk1
   ·exact kO fun d hd=>hI.dig d (List.mem_of_mem_drop hd)
   ·exact dQ _ _
   ·exact dQ _ _
   ·rw[hLB];omega
   ·rw[pZ,hLB];omega
  have hv1:=hGC.hv1
  have aGV:=dQ W (n+1)
  have aOI:=dQ W n
  refine jY (fun p:OL=> [(8,.sl (iv (lim f))),(9,.lsl g4 1 0 L),(10,.sl (iv (lim W))),(11,.int .i64 N),(12,.lsl g5 1 0 (L - N)),(13,.int .i64 (p.j:Int))]) (fun p=>upd (upd bl g4 (some ⟨1,iv p.u⟩)) g5 (some ⟨1,iv (List.replicate p.j 0++p.Q)⟩))
   (fun p=>p.j=m∧KnI (a*f) W L N m p.u p.Q) 172 ?_ ?_
  ·refine cD ?_
   refine aE ?_
   simp[-binV, -intV]
   have e1:((m+1:Nat):Int) - 1=m:=by omega
   have i1:IntKind.i64.wrap ((m:Int)+N)=(m:Int)+N:=i64_in (by omega) (by omega)
   have i2:IntKind.i64.wrap ((m:Int)+N - 1)=(m:Int)+(n+1):=by rw[i64_in (by omega) (by omega)];omega
   have i3:IntKind.i64.wrap ((N:Int) - 1)=(n:Int)+1:=by rw[i64_in (by omega) (by omega)];omega
   have p1:0≤(m:Int)+N:=by omega
   have p2:0≤(m:Int)+(n+1):=by omega
   have p3:0≤(n:Int)+1:=by omega
   have l1:(m:Int)+N<L:=by omega
   have l2:(m:Int)+(n+1)<L:=by omega
   have c1:((m:Int)+N).toNat=m+N:=by omega
   have c2:((m:Int)+(n+1)).toNat=m+(n+1):=by omega
   have c3:((n:Int)+1).toNat=n+1:=by omega
   have hLB:LB=1000000000:=rfl
   have x1:IntKind.i64.wrap (u[m+N]*1000000000)=u[m+N]*1000000000:=i64_in (by omega) (by omega)
   have x2:IntKind.i64.wrap (u[m+N]*1000000000+u[m+(n+1)])=vR:=by rw[i64_in (by omega) (by omega),pZ,hLB];omega
   have hz0: ¬ dg W (n+1)=0:=by omega
   have aNX:vR≤1000000000000000000:=by rw[pZ,hLB];omega
   have lw:=bK W (n+1) (by omega)
   have y1:(vR:Int).tdiv (dg W (n+1):Nat)=(vR / dg W (n+1):Nat):=by rw[Int.tdiv_eq_ediv_of_nonneg (by omega)];simp
   have y2:(vR:Int).tmod (dg W (n+1):Nat)=(vR % dg W (n+1):Nat):=by rw[Int.tmod_eq_emod_of_nonneg (by omega)];simp
   have y3:=wq (x:=(vR:Int)) (n:=(dg W (n+1):Nat)) (by omega) (by omega) (by omega)
   rw[y1] at y3
   obtain⟨g0,oN⟩: ∃g0:Int,g0=(vR / dg W (n+1):Nat):=⟨_,rfl⟩
   obtain⟨r0,So⟩: ∃r0:Int,r0=(vR % dg W (n+1):Nat):=⟨_,rfl⟩
   rw[←oN] at y1 y3
   rw[←So] at y2
   refine bQ aQ (by kernel_rfl) ?_
   simp[-binV, -intV,e1,i1,i2,p1,p2,l1,l2,c1,c2,hk3,hk2,x1,x2,h54,Ne.symm h54]
   refine aE ?_
   simp
   refine bQ aQ (by kernel_rfl) ?_
   simp[-binV, -intV,e1,i3,p3,c3,lw,hz0,y1,y2,y3]
   refine jY (fun p:QL=> [(8,.sl (iv (lim f))),(9,.lsl g4 1 0 L),(10,.sl (iv (lim W))),(11,.int .i64 N),(12,.lsl g5 1 0 (L - N)),(13,.int .i64 m),(15,.int .i64 p.g)]) (fun p=>upd (upd bl g4 (some ⟨1,iv u⟩)) g5 (some ⟨1,iv (List.replicate (m+1) 0++Q)⟩))
    (fun p=>0≤p.g∧p.g<1000000000∧(p.g.toNat=val (u.drop m) / W∨p.g.toNat=val (u.drop m) / W+1)) 172 ?_ ?_
   ·refine aC ?_
    simp[-binV, -intV]
    refine aK (fun p:QL=> [(8,.sl (iv (lim f))),(9,.lsl g4 1 0 L),(10,.sl (iv (lim W))),(11,.int .i64 N),(12,.lsl g5 1 0 (L - N)),(13,.int .i64 m),(15,.int .i64 p.g),(16,.int .i64 p.r)]) (fun p=>upd (upd bl g4 (some ⟨1,iv u⟩)) g5 (some ⟨1,iv (List.replicate (m+1) 0++Q)⟩))
     (fun p=>0≤p.g∧0≤p.r∧GI (val (u.drop m)) W vR (dg W (n+1)) p.g.toNat p.r.toNat) (fun p=>p.g.toNat) _ ⟨g0,r0⟩ ⟨by simp only[oN];exact Int.natCast_nonneg _,by simp only[So];exact Int.natCast_nonneg _,?_⟩ ⟨rfl,by simp,sub_eq (by simp)⟩ ?_
    ·have:=hGC.start
     simp only[oN,So,Int.toNat_natCast]
     exact this
    rintro⟨gg,rr⟩ ⟨hgg,hrr,hGI⟩
    simp only at hgg hrr hGI
    refine aE ?_
    simp[-binV, -intV]
    have hgN:gg≤1000000000000000000:=by
     have e:=hGI.eq
     have h3:gg.toNat*1≤gg.toNat*dg W (n+1):=Nat.mul_le_mul_left _ hv1
     omega
    have hrl:=hGI.lt
    rw[hLB] at hrl
    have i4:IntKind.i64.wrap ((N:Int) - 2)=(n:Int):=by rw[i64_in (by omega) (by omega)];omega
    have i5:IntKind.i64.wrap ((m:Int)+N - 2)=(m:Int)+n:=by rw[i64_in (by omega) (by omega)];omega
    have p4:0≤(m:Int)+n:=by omega
    have l4:(m:Int)+n<L:=by omega
    have c4:((m:Int)+n).toNat=m+n:=by omega
    have lw2:=bK W n (by omega)
    have z1:IntKind.i64.wrap (rr*1000000000)=rr*1000000000:=i64_in (by omega) (by omega)
    have z2:IntKind.i64.wrap (rr*1000000000+u[m+n])=rr*1000000000+u[m+n]:=i64_in (by omega) (by omega)
    refine Aq aQ (by kernel_rfl) [(8,.sl (iv (lim f))),(9,.lsl g4 1 0 L),(10,.sl (iv (lim W))),(11,.int .i64 N),(12,.lsl g5 1 0 (L - N)),(13,.int .i64 m),(15,.int .i64 gg),(16,.int .i64 rr)] _ (upd (upd bl g4 (some ⟨1,iv u⟩)) g5 (some ⟨1,iv (List.replicate (m+1) 0++Q)⟩))
     131 (.bool (decide (1000000000≤gg)|| decide (rr*1000000000+u[m+n]<gg*(dg W n:Nat)))) ⟨rfl,by simp,Sub.refl _⟩ rfl ?_ ?_
    ·by_cases hbig:1000000000≤gg
     ·simp[-binV, -intV,hbig]
     ·have z3:IntKind.i64.wrap (gg*(dg W n:Nat))=gg*(dg W n:Nat):=by
       have q1:0≤gg*(dg W n:Nat):=Int.mul_nonneg hgg (by omega)
       have q2:gg*(dg W n:Nat)≤1000000000*1000000000:=Int.mul_le_mul (by omega) (by omega) (by omega) (by omega)
       exact i64_in (by omega) (by omega)
      simp[-binV, -intV,hbig,i1,i4,i5,p4,l4,c4,hk1,lw2,z1,z2,z3,h54,Ne.symm h54]
    have conv:(1000000000≤gg∨rr*1000000000+u[m+n]<gg*(dg W n:Nat)) ↔ (LB≤gg.toNat∨rr.toNat*LB+u[m+n].toNat<gg.toNat*dg W n):=by
     have e:gg*(dg W n:Nat)=((gg.toNat*dg W n:Nat):Int):=by rw[Int.natCast_mul,Int.toNat_of_nonneg hgg]
     rw[e,hLB];omega
    simp[-binV, -intV]
    refine⟨fun hc=> ?_,fun hc1 hc2=> ?_⟩
    ·obtain⟨d1,d2,d3⟩:=hGC.dec hGI (conv.1 hc)
     have q1:IntKind.i64.wrap (gg - 1)=gg - 1:=i64_in (by omega) (by omega)
     have q2:IntKind.i64.wrap (rr+(dg W (n+1):Nat))=rr+(dg W (n+1):Nat):=i64_in (by omega) (by omega)
     have e1:(gg - 1).toNat=gg.toNat - 1:=by omega
     have e2:(rr+(dg W (n+1):Nat)).toNat=rr.toNat+dg W (n+1):=by omega
     refine aC ?_
     simp[-binV, -intV,q1,q2,i3,p3,c3,lw]
     refine⟨fun hb=> ?_,fun hb=> ?_⟩
     ·obtain⟨f3,f4⟩:=hGC.brk d3 (by rw[hLB];omega) d2
      rw[hLB] at f3
      rw[aG]
      exact⟨⟨gg - 1,0⟩,⟨by simp only;omega,by simp only;omega,by rw[e1];exact f4⟩,rfl,by simp,Sub.refl _⟩
     ·rw[aB]
      exact⟨⟨gg - 1,rr+(dg W (n+1):Nat)⟩,⟨by simp only;omega,by simp only;omega,⟨by rw[e1,e2];exact d3,by rw[e2,hLB];omega,by rw[e1];exact d2⟩⟩,by simp only;omega,rfl,by simp,Sub.refl _⟩
    ·have hn: ¬ (LB≤gg.toNat∨rr.toNat*LB+u[m+n].toNat<gg.toNat*dg W n):=fun hh=>(conv.2 hh).elim (fun h=>by omega) (fun h=>by omega)
     have f4:=hGC.done hGI (by rcases Nat.lt_or_ge gg.toNat LB with h | h;exact h;exact(hn (.inl h)).elim) (by rcases Nat.lt_or_ge (rr.toNat*LB+u[m+n].toNat) (gg.toNat*dg W n) with h | h;exact(hn (.inr h)).elim;exact h)
     rw[aG]
     exact⟨⟨gg,0⟩,⟨hgg,by simp only;omega,f4⟩,rfl,by simp,Sub.refl _⟩
   ·rintro⟨gg,rr⟩ ⟨hgg,hg9,hgD⟩
    simp only at hgg hg9 hgD
    obtain⟨gN,rfl⟩: ∃gN:Nat,gg=gN:=⟨gg.toNat,by omega⟩
    rw[Int.toNat_natCast] at hgD
    have hs:sliV Tryz.prog 27 (.lsl g4 1 0 L) (some (.int .i64 (m:Nat))) none=some (.lsl g4 1 m (L - m)):=by
     simp[sliV]
     rcases Nat.eq_zero_or_pos m with h | h
     ·subst h;simp;omega
     ·simp[show ¬ m=0 by omega,show ¬ m=L by omega];omega
    have hW0:=hGC.V0
    have b4:(upd (upd bl g4 (some ⟨1,iv u⟩)) g5 (some ⟨1,iv (List.replicate (m+1) 0++Q)⟩)) g4=some ⟨1,iv u⟩:=by simp[Ne.symm h54]
    have q5:(iv (List.replicate (m+1) 0++Q))[m]? =some [.int .i64 0]:=by rw[cH _ _ (by simp;omega)];simp
    have lm:m<L - N:=by omega
    refine aE ?_
    simp[hs]
    refine Pb u W gN m N (L - m) g4 hg4 b4 hI.dig hV (by omega) (by omega) (by omega) (by omega) fun O c hk hT=> ?_
    have hOl:=hT.len
    simp
    refine⟨fun hc=> ?_,fun hc=> ?_⟩
    ·have hov:=S6 hI.dig hT hV hk hz hgD hW0 (by omega)
     have q1:IntKind.i64.wrap ((gN:Int) - 1)=(val (u.drop m) / W:Nat):=by rw[i64_in (by omega) (by omega),hov];simp
     have hO9:=hT.dig.at hk
     have hc9:=hT.c1
     simp[hs,q1]
     refine Mq O (O[m+N] - c) W m N (L - m) g4 hg4 hk (by simp[Ne.symm h54]) hT.dig hV (by omega) (by omega) (by omega) fun v W2 d2 hk2 hG=> ?_
     obtain⟨z0,zD,zv⟩:=R2 hI.dig hT hG hV hk hk2 hz hov hW0
     rw[z0]
     have hN2:=hI.next (O:=W2.set (m+N) 0) (by simp[hG.len,hOl,hlen]) zD zv
     simp
     refine aC ?_
     simp[q5,h54,Ne.symm h54,lm]
     rw[aG]
     refine⟨⟨m,W2.set (m+N) 0,((val (u.drop m) / W:Nat):Int)::Q⟩,⟨rfl,hN2⟩,rfl,by simp,sub_eq ?_⟩
     funext x
     simp only[aA,←mS m _ 0 Q,←dP]
     by_cases x1:x=g5
     ·simp[x1]
     ·by_cases x2:x=g4<;>simp[x1,x2]
    ·obtain⟨zD,zq,zv⟩:=S2 hI.dig hT hV hk hgD hW0 (by omega)
     have hN2:=hI.next (O:=O.set (m+N) (O[m+N] - c)) (by simp[hOl,hlen]) zD zv
     refine aC ?_
     rw[zq]
     simp[q5,h54,Ne.symm h54,lm]
     rw[aG]
     refine⟨⟨m,O.set (m+N) (O[m+N] - c),((val (u.drop m) / W:Nat):Int)::Q⟩,⟨rfl,hN2⟩,rfl,by simp,sub_eq ?_⟩
     funext x
     simp only[aA,←mS m _ 0 Q,←dP]
     by_cases x1:x=g5
     ·simp[x1]
     ·by_cases x2:x=g4<;>simp[x1,x2]
  ·rintro⟨j',u',Q'⟩ ⟨hj',hI'⟩
   simp only at hj' hI'
   subst hj'
   have w5:IntKind.i64.wrap ((j':Int) - 1)=(j':Int) - 1:=i64_in (by omega) (by omega)
   refine aC ?_
   simp[w5]
   rw[aB]
   exact⟨⟨j',u',Q'⟩,⟨by simp only;omega,hI'⟩,by simp only;omega,rfl,by simp,Sub.refl _⟩
 ·have e:j=0:=by omega
  subst e
  obtain⟨v1,v2⟩:=hI.done
  obtain⟨s1,s2⟩:=X4 (a:=a) (b:=b) (f:=f) f0
  rw[s1] at v1
  rw[s2] at v2
  have lf:=bK f 0 (by omega)
  have df:dg f 0=f:=(Ow hfl).1
  have hq2:a % b*f / f=a % b:=Nat.mul_div_cancel _ f0
  have hlu:(lim (a % b*f)).length≤1048576:=by
   have:=bI (a:=a % b*f) (b:=a*f) (Nat.mul_le_mul_right _ (Nat.mod_le _ _));omega
  refine bZ 1 9 (.sl (iv u)) (upd bl g5 (some ⟨1,iv Q⟩)) (by intro x y;simp only[aA];grind) ?_ ?_
  ·exact cM hg4 (by simp[Ne.symm h54,hb4]) (by simp[Ne.symm h54]) (by simp[hlen]) (lS u)
  refine bZ 1 12 (.sl (iv Q)) bl (by simp[hb5]) ?_ ?_
  ·exact cM hg5 hb5 (by simp) (by simp[hI.Ui]) (lS Q)
  refine bQ aQ (by kernel_rfl) ?_
  simp
  refine aO (qP u hI.dig (by omega)) ?_
  simp[v2,lf,df]
  refine aO (qD _ f hlu f0 f1) ?_
  simp[hq2]
  refine aD (qP Q hI.aC7 (by have:=hI.Ui;omega)) ?_
  simp[v1]
  exact aN [.sl (iv (lim (a / b))),.sl (iv (lim (a % b)))] 1 (by simp) rfl (Sub.refl _)
end Go.Proofs.YticmgmemnpcbbaaGreat.Vm

namespace Go.Proofs.YticmgmemnpcbbaaGreat.Vm
set_option linter.unusedSimpArgs false
set_option linter.unusedVariables false
structure RT where
 neg:Bool
 m:List Int
 d:List Int
 deriving DecidableEq
def rq (q:Rat):RT:=⟨decide (q.num<0),lim q.num.natAbs,lim q.den⟩
def rz :RT:=⟨false,[],[]⟩
def fits (q:Rat):Prop:=(lim q.num.natAbs).length≤24∧(lim q.den).length≤24
instance (q : Rat) : Decidable (fits q) := by unfold fits; infer_instance
def fit (q:Rat):Option Rat:=if fits q then some q else none
def RT.ok (r:RT):Prop:=lim (val r.m)=r.m∧lim (val r.d)=r.d∧r.m.length≤24∧r.d.length≤24∧r.d≠ []∧ ¬ (r.neg=true∧r.m= [])∧Nat.gcd (val r.m) (val r.d)=1
instance (r : RT) : Decidable r.ok := by unfold RT.ok; infer_instance
def RT.num (r:RT):Int:=if r.neg then -(val r.m:Int) else val r.m
def rd (r:RT):Option Rat:=if r.ok then some (mkRat r.num (val r.d)) else none
def ro (x:Option Rat):RT:=match x with | some q=>rq q | none=>rz
@[simp] theorem aIW : ro none = rz := rfl
@[simp] theorem aIU (q : Rat) : ro (some q) = rq q := rfl
theorem yD {n:Int} {d:Nat} (hd:d≠0) (h:Nat.gcd n.natAbs d=1):(mkRat n d).num=n∧(mkRat n d).den=d:=by
 rw[←Rat.normalize_eq_mkRat hd,Rat.normalize_eq hd]
 constructor
 ·show n / ((Nat.gcd n.natAbs d:Nat):Int)=n
  rw[h];simp
 ·show d / Nat.gcd n.natAbs d=d
  rw[h];simp
theorem RT.X2 (r:RT):r.num.natAbs=val r.m:=by
 unfold RT.num;split<;>simp
theorem rd_some {r:RT} {q:Rat} (h:rd r=some q):r=rq q∧fits q:=by
 unfold rd at h
 split at h
 ·rename_i hok
  obtain⟨h1,h2,h3,h4,h5,h6,h7⟩:=hok
  have hq:mkRat r.num (val r.d)=q:=Option.some.inj h
  have hd0:val r.d≠0:=fun h0=>by rw[h0,aU] at h2;exact h5 h2.symm
  have ha:=r.X2
  obtain⟨e1,e2⟩:=yD (n:=r.num) hd0 (by rw[ha];exact h7)
  rw[hq] at e1 e2
  have f1:lim q.num.natAbs=r.m:=by rw[e1,ha,h1]
  have f2:lim q.den=r.d:=by rw[e2,h2]
  refine⟨?_,by rw[f1];exact h3,by rw[f2];exact h4⟩
  unfold rq
  rw[f1,f2,e1]
  cases r with
  | mk neg m d =>
    congr 1
    unfold RT.num
    simp only at h1 h6 ⊢
    cases neg
    ·simp
    ·simp
     have:m≠ []:=fun hm=>h6 ⟨rfl,hm⟩
     have:val m≠0:=fun h0=>by rw[h0,aU] at h1;exact this h1.symm
     omega
 ·cases h
theorem aF7 {q:Rat} (h:fits q):rd (rq q)=some q:=by
 have hok:(rq q).ok:=by
  unfold rq RT.ok
  simp only[dE]
  refine⟨trivial,trivial,h.1,h.2,fun h0=>q.den_nz (cW.1 h0),?_,q.reduced⟩
  rintro⟨h1,h2⟩
  have h3:q.num.natAbs=0:=cW.1 h2
  have:q.num<0:=by simpa using h1
  omega
 unfold rd
 rw[if_pos hok]
 congr 1
 have:(rq q).num=q.num:=by
  unfold rq RT.num
  simp only[dE]
  by_cases h1:q.num<0
  ·simp[h1];omega
  ·simp[h1];omega
 rw[this]
 show mkRat q.num (val (lim q.den))=q
 rw[dE,Rat.mkRat_self]
theorem aG8 :rd rz=none:=by
 unfold rd
 rw[if_neg]
 rintro⟨_,_,_,_,h,_⟩
 exact h rfl
theorem aEI {r:RT} :(rd r).isSome=true ↔ r.ok:=by
 unfold rd;split<;>simp_all
theorem Cd :fits 0:=by
 unfold fits
 show(lim 0).length≤24∧(lim 1).length≤24
 rw[aU]
 exact⟨by simp,aF.2 (by decide+kernel)⟩
theorem fits_int {n:Int} (h:n.natAbs≤9223372036854775808):fits (n:Rat):=by
 unfold fits
 refine⟨aF.2 ?_,aF.2 ?_⟩
 ·show n.natAbs<_
  exact Nat.lt_of_le_of_lt h (by decide+kernel)
 ·show 1<_
  decide+kernel
end Go.Proofs.YticmgmemnpcbbaaGreat.Vm

namespace Go.Proofs.YticmgmemnpcbbaaGreat.Vm
open Go Go.Proofs
set_option linter.unusedSimpArgs false
set_option linter.unusedVariables false
theorem wQ (a b:Nat) (ha:(lim a).length≤300000) (hb:(lim b).length≤300000):RO Tryz.prog 101 [.sl (iv (lim a)),.sl (iv (lim b))] (.sl (iv (lim (Nat.gcd a b)))):=by
 refine aI Tryz.func101 rfl rfl (by rw[Tryz.ntmps101];simp) fun bl=> ?_
 rw[Tryz.ntmps101,Tryz.results101]
 refine aC ?_
 simp
 refine aK (fun p:Nat×Nat=> [(0,.sl (iv (lim p.1))),(1,.sl (iv (lim p.2)))]) (fun _=>bl) (fun p=>Nat.gcd p.1 p.2=Nat.gcd a b∧(lim p.1).length≤300000∧(lim p.2).length≤300000) (fun p=>p.2) _ (a,b) ⟨rfl,ha,hb⟩ ⟨rfl,by simp,Sub.refl _⟩ ?_
 rintro⟨x,y⟩ ⟨hg,hx,hy⟩
 simp only at hg hx hy
 refine aC ?_
 simp
 refine⟨fun h=> ?_,fun h=> ?_⟩
 ·have hy0:0<y:=by
   rcases Nat.eq_zero_or_pos y with h0 | h0
   ·rw[h0,aU] at h;simp at h
   ·exact h0
  refine aD (uF x y hy0 hx hy) ?_
  simp[aB]
  have hlt:=Nat.mod_lt x hy0
  refine⟨y,x % y,⟨?_,hy,?_⟩,hlt,rfl,by simp,Sub.refl _⟩
  ·rw[←hg,Nat.gcd_comm x y,Nat.gcd_rec y x,Nat.gcd_comm]
  ·exact Nat.le_trans (bI (Nat.le_of_lt hlt)) hy
 ·have h0:y=0:=cW.1 (by simpa using h)
  subst h0
  rw[Nat.gcd_zero_right] at hg
  rw[←hg]
  exact aM (by simp) rfl rfl
def iN (ns:List Int):Bool:=decide (ns.length≤60)&& decide (lim (val ns)=ns)
theorem K4 {ns:List Int} :lim (val ns)=ns ↔ Dig ns∧(ns.length=0∨ns.getD (ns.length - 1) 1≠0):=by
 have Qz: ∀d,ns.getLast? =some d ↔ ns.length≠0∧ns.getD (ns.length - 1) 1=d:=by
  intro d
  rw[List.getLast?_eq_getElem?]
  rcases Nat.eq_zero_or_pos ns.length with h | h
  ·rw[List.getElem?_eq_none (by omega)];simp[h]
  ·have h1:ns.length - 1<ns.length:=by omega
   have h2:ns≠ []:=fun h0=>by rw[h0] at h;simp at h
   rw[List.getElem?_eq_getElem h1]
   simp[h1,h2]
 constructor
 ·intro h
  refine⟨h▸eR _,?_⟩
  by_cases h0:ns.length=0
  ·exact .inl h0
  ·exact .inr (I3 (val ns) _ (by rw[h];exact(Qz _).2 ⟨h0,rfl⟩))
 ·rintro⟨h1,h2⟩
  refine E2 h1 fun d hd=> ?_
  obtain⟨h3,h4⟩:=(Qz d).1 hd
  rcases h2 with h2 | h2
  ·exact absurd h2 h3
  ·rw[←h4];exact h2
theorem nW {ns:List Int} :iN ns=true ↔ ns.length≤60∧Dig ns∧(ns.length=0∨ns.getD (ns.length - 1) 1≠0):=by
 unfold iN
 rw[Bool.and_eq_true,decide_eq_true_eq,decide_eq_true_eq,K4]
theorem Ch (n:Int):RO Tryz.prog 175 [.int .i64 n] (.bool (decide (n<0)|| decide (1000000000≤n))):=by
 refine aI Tryz.func175 rfl rfl (by rw[Tryz.ntmps175];simp) fun bl=> ?_
 rw[Tryz.ntmps175,Tryz.results175]
 refine aC ?_
 simp
 refine dN [(0,.int .i64 n)] _ bl 2 (.bool (decide (n<0)|| decide (1000000000≤n))) bl ⟨rfl,by simp,Sub.refl _⟩ rfl ?_ ?_
 ·simp;grind
 simp
 exact aM (by simp) rfl rfl
theorem oZ (ns:List Int) (hn:ns.length≤140737488351232):RO Tryz.prog 99 [.sl (iv ns)] (.bool (iN ns)):=by
 refine aI Tryz.func99 rfl rfl (by rw[Tryz.ntmps99];simp) fun bl=> ?_
 rw[Tryz.ntmps99,Tryz.results99]
 refine aC ?_
 simp
 refine aV [(0,.sl (iv ns))] _ bl 19 (.bool (decide (60<ns.length)|| (decide (0<ns.length)&& decide (ns.getD (ns.length - 1) 1=0)))) ⟨rfl,by simp,Sub.refl _⟩ rfl ?_ ?_
 ·have w1:0<ns.length→IntKind.i64.wrap ((ns.length:Int) - 1)=((ns.length - 1:Nat):Int):=fun h=>by rw[i64_in (by omega) (by omega)];omega
  have q1: ∀h:0<ns.length,(iv ns)[ns.length - 1]? =some [.int .i64 (ns[ns.length - 1]'(by omega))]:=fun h=>cH _ _ (by omega)
  simp
  refine⟨fun h=> .inl (by omega),fun h=>⟨fun h3=> ?_,fun h3=> ?_⟩⟩
  ·have h4:ns.length - 1<ns.length:=by omega
   have h5:ns.length≤60:=by omega
   have h6: ¬ 60<ns.length:=by omega
   simp[w1 h3,q1 h3,h3,h4,h6,mN]
  ·subst h3;simp
 simp
 refine⟨fun h=> ?_,fun h1 h2=> ?_⟩
 ·refine aM ?_ rfl rfl
  have:iN ns=false:=by
   rw[Bool.eq_false_iff]
   intro hk
   obtain⟨k1,_,k3⟩:=nW.1 hk
   rcases h with h | ⟨h,h4⟩
   ·omega
   ·rcases k3 with k3 | k3
    ·omega
    ·simp at k3;exact k3 h4
  simp[this]
 ·refine aD (iK ns _ [] (fun n=>decide (n<0)|| decide (1000000000≤n)) hn fun n _=>Ch n) ?_
  simp
  refine aM ?_ rfl rfl
  have:iN ns= !(ns.any fun n=>decide (n<0)|| decide (1000000000≤n)):=by
   rw[Bool.eq_iff_iff,nW]
   simp
   constructor
   ·rintro⟨_,k2,_⟩ x hx
    have:=k2 x hx
    omega
   ·intro h3
    refine⟨h1,fun d hd=>by have:=h3 d hd;omega,?_⟩
    by_cases h0:ns.length=0
    ·exact .inl (List.length_eq_zero_iff.1 h0)
    ·exact .inr (h2 (by omega))
  simp[this]
theorem oQ (ns:List Int) (hn:ns.length≤140737488351232):RO Tryz.prog 261 [.sl (iv ns)] (.bool (iN ns)):=by
 refine aI Tryz.func261 rfl rfl (by rw[Tryz.ntmps261];simp) fun bl=> ?_
 rw[Tryz.ntmps261,Tryz.results261]
 refine aC ?_
 simp
 refine aK (fun i:Nat=> [(0,.sl (iv ns)),(5,.sl (iv ns)),(6,.int .i64 ns.length),(7,.int .i64 i)]) (fun _=>bl) (fun i=>i≤ns.length∧ ∀j (h:j<ns.length),j<i→0≤ns[j]∧ns[j]<1000000000) (fun i=>ns.length - i) _ 0 ⟨Nat.zero_le _,fun j h h0=>by omega⟩ ⟨rfl,by simp,Sub.refl _⟩ ?_
 rintro i ⟨hi,hd⟩
 refine aC ?_
 simp
 refine⟨fun h=> ?_,fun h=> ?_⟩
 ·simp[h]
  refine aD (Ki _ _ _) ?_
  simp
  refine⟨fun h1=> ?_,fun h1 h2=> ?_⟩
  ·refine aM ?_ rfl rfl
   have:iN ns=false:=by
    rw[Bool.eq_false_iff]
    intro hk
    have:=(nW.1 hk).2.1.at h
    omega
   simp[this]
  ·have w1:IntKind.i64.wrap ((i:Int)+1)=i+1:=i64_in (by omega) (by omega)
   simp[w1,aB]
   refine⟨i+1,⟨by omega,fun j hj hji=> ?_⟩,by omega,rfl,by simp,Sub.refl _⟩
   rcases Nat.lt_or_ge j i with hlt | hge
   ·exact hd j hj hlt
   ·obtain rfl:j=i:=by omega
    exact⟨h1,by omega⟩
 ·have hD:Dig ns:=by
   intro d hm
   obtain⟨j,hj,rfl⟩:=List.mem_iff_getElem.1 hm
   exact hd j hj (by omega)
  have hk:iN ns=(decide (ns.length≤60)&& (decide (ns.length=0)|| decide (ns.getD (ns.length - 1) 1≠0))):=by
   rw[Bool.eq_iff_iff,nW]
   simp[hD]
  refine aV [(0,.sl (iv ns))] _ bl 2 (.bool (iN ns)) ⟨rfl,by simp,Sub.refl _⟩ rfl ?_ ?_
  ·have w1:0<ns.length→IntKind.i64.wrap ((ns.length:Int) - 1)=((ns.length - 1:Nat):Int):=fun h=>by rw[i64_in (by omega) (by omega)];omega
   have q1: ∀h:0<ns.length,(iv ns)[ns.length - 1]? =some [.int .i64 (ns[ns.length - 1]'(by omega))]:=fun h=>cH _ _ (by omega)
   rw[hk]
   simp
   refine⟨fun h1=>⟨fun h2=>⟨by omega,.inl h2⟩,fun h2=> ?_⟩,fun h1 h2=>by omega⟩
   have h3:0<ns.length:=List.length_pos_iff.2 h2
   have h4:ns.length - 1<ns.length:=by omega
   have h5:ns.length≤60:=by omega
   simp[w1 h3,q1 h3,h2,h4,h5]
   rfl
  simp
  exact aM (by simp) rfl rfl
def RT.c (r:RT):List V:= [.bool r.neg,.sl (iv r.m),.sl (iv r.d)]
def mF (neg:Bool) (m:List Int):Bool:=iN m && !(neg && decide (m= []))
theorem Ot (m:List Int):((m.length:Int)==0)=decide (m= []):=by
 rw[mN];cases m<;>simp;omega
theorem Hf (m:List Int):decide (0<m.length)= !decide (m= []):=by cases m<;>simp
theorem sP (neg:Bool) (m:List Int) (hm:m.length≤140737488351232):RO Tryz.prog 98 [.agg [.bool neg,.sl (iv m)]] (.bool (mF neg m)):=by
 refine aI Tryz.func98 rfl rfl (by rw[Tryz.ntmps98];simp) fun bl=> ?_
 rw[Tryz.ntmps98,Tryz.results98]
 refine aC ?_
 simp
 intro g hg0 hg
 refine dN [(1,.loc g 2 0 0)] _ (upd bl g (some ⟨2,[[.bool neg,.sl (iv m)]]⟩)) 2 (.bool (mF neg m)) (upd bl g (some ⟨2,[[.bool neg,.sl (iv m)]]⟩)) ⟨rfl,by simp,Sub.refl _⟩ rfl ?_ ?_
 ·simp
  refine aD (oZ m hm) ?_
  simp[mF,Ot]
  cases iN m<;>cases neg<;>simp
 simp
 exact aN [_] 0 rfl rfl (by simp[hg])
theorem kD (neg:Bool) (m:List Int) (hm:m.length≤140737488351232):RO Tryz.prog 260 [.agg [.bool neg,.sl (iv m)]] (.bool (mF neg m)):=by
 refine aI Tryz.func260 rfl rfl (by rw[Tryz.ntmps260];simp) fun bl=> ?_
 rw[Tryz.ntmps260,Tryz.results260]
 refine aC ?_
 simp
 intro g hg0 hg
 refine dN [(1,.loc g 2 0 0)] _ (upd bl g (some ⟨2,[[.bool neg,.sl (iv m)]]⟩)) 2 (.bool (mF neg m)) (upd bl g (some ⟨2,[[.bool neg,.sl (iv m)]]⟩)) ⟨rfl,by simp,Sub.refl _⟩ rfl ?_ ?_
 ·simp
  refine aD (oQ m hm) ?_
  simp[mF,Hf]
  cases iN m<;>cases neg<;>simp
 simp
 exact aN [_] 0 rfl rfl (by simp[hg])
def RT.bad (r:RT):Bool:=(((!(mF r.neg r.m)|| !(iN r.d))|| decide (r.d= []))|| decide (24<r.m.length))|| decide (24<r.d.length)
theorem RT.Ht {r:RT} :r.ok ↔ r.bad=false∧Nat.gcd (val r.m) (val r.d)=1:=by
 unfold RT.ok RT.bad mF iN
 simp
 constructor
 ·rintro⟨h1,h2,h3,h4,h5,h6,h7⟩
  exact⟨⟨⟨⟨⟨⟨⟨by omega,h1⟩,h6⟩,by omega,h2⟩,h5⟩,h3⟩,h4⟩,h7⟩
 ·rintro⟨⟨⟨⟨⟨⟨⟨_,h1⟩,h6⟩,_,h2⟩,h5⟩,h3⟩,h4⟩,h7⟩
  exact⟨h1,h2,h3,h4,h5,h6,h7⟩
theorem RT.aMU {r:RT} (h:r.bad=false):r.m=lim (val r.m)∧r.d=lim (val r.d)∧r.m.length≤24∧r.d.length≤24:=by
 unfold RT.bad mF iN at h
 simp at h
 obtain⟨⟨⟨⟨⟨⟨_,h1⟩,_⟩,_,h2⟩,_⟩,h3⟩,h4⟩:=h
 exact⟨h1.symm,h2.symm,h3,h4⟩
theorem Y1 :lim 1= [1]:=Z4 (f:=1) (by decide) (by decide)
theorem zC {a b:Nat} :iE a b=0 ↔ a=b:=by unfold iE;split<;>(try split)<;>omega
theorem E7 {a b:Nat} {k:Nat} (ha:(lim a).length≤k) (hb:(lim b).length≤k):(lim (Nat.gcd a b)).length≤k:=by
 rcases Nat.eq_zero_or_pos a with h | h
 ·rw[h,Nat.gcd_zero_left];exact hb
 ·exact Nat.le_trans (bI (Nat.gcd_le_left _ h)) ha
theorem oX (r:RT) (hm:r.m.length≤140737488351232) (hd:r.d.length≤140737488351232):RO Tryz.prog 30 [.agg r.c] (.bool (decide r.ok)):=by
 refine aI Tryz.func30 rfl rfl (by rw[Tryz.ntmps30];simp) fun bl=> ?_
 rw[Tryz.ntmps30,Tryz.results30]
 refine aC ?_
 simp[RT.c]
 intro g hg0 hg
 refine dN [(1,.loc g 3 0 0)] _ (upd bl g (some ⟨3,[[.bool r.neg,.sl (iv r.m),.sl (iv r.d)]]⟩)) 31 (.bool r.bad) (upd bl g (some ⟨3,[[.bool r.neg,.sl (iv r.m),.sl (iv r.d)]]⟩)) ⟨rfl,by simp,Sub.refl _⟩ rfl ?_ ?_
 ·simp
  refine aD (sP r.neg r.m hm) ?_
  simp[RT.bad]
  refine⟨fun h=>by simp[h],fun h=> ?_⟩
  refine aD (oZ r.d hd) ?_
  simp[h]
  refine⟨fun a=>by simp[a],fun a=>⟨fun b=>by simp[b],fun b=>⟨fun c=> .inl (.inr (by omega)),fun c=> ?_⟩⟩⟩
  have c2: ¬ 24<r.m.length:=by omega
  simp[a,b,c2]
  omega
 simp
 refine⟨fun h=> ?_,fun h=> ?_⟩
 ·refine aN [.bool false] 0 (by simp) ?_ (by simp[hg])
  have: ¬ r.ok:=fun hk=>by have:=(RT.Ht.1 hk).1;rw[h] at this;cases this
  simp[frz,this]
 ·obtain⟨l1,l2,l3,l4⟩:=RT.aMU h
  rw[l1,l2]
  refine aD (wQ (val r.m) (val r.d) (by rw[←l1];omega) (by rw[←l2];omega)) ?_
  simp
  intro g2 hg2 h2g hb2
  refine bS 1 (ys:= [.sl (iv (lim ((val r.m).gcd (val r.d)))),.sl (iv (lim 1))]) ?_ (iD _ 1 ?_ (by rw[Y1];simp)) rfl ?_
  ·simp[frzL,frz,Y1,iv,V.cl,Int.not_lt.2 hg2]
  ·exact E7 (by rw[←l1];omega) (by rw[←l2];omega)
  simp
  refine aN [.bool (decide (Nat.gcd (val r.m) (val r.d)=1))] 0 ?_ ?_ (by simp[hg,hb2])
  ·simp[mN,zC]
  ·simp[frz,RT.Ht,h]

def biC (n:Int):List V:= [.bool (decide (n<0)),.sl (iv (lim n.natAbs))]
def sg (neg:Bool) (m:Nat):Int:=if neg then -(m:Int) else m
@[simp] theorem sJ (neg : Bool) (m : Nat) : (sg neg m).natAbs = m := by unfold sg; split <;> simp
theorem T5 (neg:Bool) (m:Nat):decide (sg neg m<0)=(neg && decide (0<m)):=by
 unfold sg;cases neg<;>simp
theorem Bc (n:Int):sg (decide (n<0)) n.natAbs=n:=by
 unfold sg
 by_cases h:n<0
 ·simp[h];omega
 ·simp[h];omega
theorem mT (m:Nat):0<(lim m).length ↔ 0<m:=by
 rw[List.length_pos_iff]
 constructor
 ·intro h;rcases Nat.eq_zero_or_pos m with h0 | h0
  ·rw[h0,aU] at h;exact absurd rfl h
  ·exact h0
 ·intro h h0;have:=cW.1 h0;omega
@[simp] theorem aI4 (n : Int) : (biC n).length = 2 := rfl
@[simp] theorem aJ1 (n : Int) : (biC n).all V.one = true := by simp [biC]
theorem Is (n:Int):(biC n).all V.cl=true:=by simp[biC,V.cl]
@[simp] theorem Zr (a b : V) (n : Int) : splice [a, b] 0 (biC n) = biC n := by simp [splice, biC]
theorem D0 (neg:Bool) (m:Nat):biC (sg neg m)= [.bool (neg && decide (0<(lim m).length)),.sl (iv (lim m))]:=by
 unfold biC
 rw[T5,sJ,decide_eq_decide.2 (mT m)]
theorem lI {bl bl':Int→Option Blk} {n:Int} :frz (dropB bl' bl) 1 (.agg (biC n))=some (.agg (biC n)):=by
 unfold frz;rw[if_pos (Is n)]
theorem Sv (x:Int):sg (!decide (x<0)) x.natAbs= -x:=by
 unfold sg
 by_cases h:x<0
 ·simp[h];omega
 ·simp[h];omega
theorem eK (neg:Bool) (m:Nat):RO Tryz.prog 229 [.bool neg,.sl (iv (lim m))] (.agg (biC (sg neg m))):=by
 refine aI Tryz.func229 rfl rfl (by rw[Tryz.ntmps229];simp) fun bl=> ?_
 rw[Tryz.ntmps229,Tryz.results229]
 refine aC ?_
 simp
 intro g hg0 hg
 refine dN [(0,.bool neg),(1,.sl (iv (lim m))),(4,.loc g 2 0 0)] _ (upd bl g (some ⟨2,[[.bool false,.nils]]⟩)) 4 (.loc g 2 0 0) (upd bl g (some ⟨2,[biC (sg neg m)]⟩)) ⟨rfl,by simp,Sub.refl _⟩ rfl ?_ ?_
 ·simp
  rw[D0]
  cases neg<;>simp
 simp
 exact aN [.agg (biC (sg neg m))] 1 (by simp[biC]) lI (by simp[hg])
theorem jT (x:Int):RO Tryz.prog 177 [.agg (biC x)] (.agg (biC (-x))):=by
 refine aI Tryz.func177 rfl rfl (by rw[Tryz.ntmps177];simp) fun bl=> ?_
 rw[Tryz.ntmps177,Tryz.results177]
 refine aC ?_
 rw[show biC x= [.bool (decide (x<0)),.sl (iv (lim x.natAbs))] from rfl]
 simp
 intro g hg0 hg g2 hg2 h2g hb2
 simp[h2g,Ne.symm h2g]
 refine aD (eK _ _) ?_
 rw[Sv]
 simp[h2g,Ne.symm h2g]
 exact aN [.agg (biC (-x))] 1 (by simp[biC]) lI (by simp[hg,hb2])
theorem jS (x:Int):RO Tryz.prog 153 [.agg (biC x)] (.int .i64 x.sign):=by
 refine aI Tryz.func153 rfl rfl (by rw[Tryz.ntmps153];simp) fun bl=> ?_
 rw[Tryz.ntmps153,Tryz.results153]
 refine aC ?_
 rw[show biC x= [.bool (decide (x<0)),.sl (iv (lim x.natAbs))] from rfl]
 simp
 intro g hg0 hg
 refine⟨fun h=> ?_,fun h=> ?_⟩
 ·have h0:=cW.1 h
  have:x=0:=by omega
  exact aN [.int .i64 0] 0 (by simp) (by simp[frz,this]) (by simp[hg])
 ·have h0:x≠0:=fun h1=>h (by rw[h1];exact aU)
  refine⟨fun h2=> ?_,fun h2=> ?_⟩
  ·exact aN [.int .i64 (-1)] 0 (by simp) (by simp[frz,Int.sign_eq_neg_one_of_neg h2]) (by simp[hg])
  ·exact aN [.int .i64 1] 0 (by simp) (by simp[frz,Int.sign_eq_one_of_pos (show 0<x by omega)]) (by simp[hg])
theorem P8 {x y:Int} (h:x<0 ↔ y<0):sg (decide (x<0)) (x.natAbs+y.natAbs)=x+y:=by
 unfold sg
 by_cases hx:x<0
 ·have:=h.1 hx;simp[hx];omega
 ·have: ¬ y<0:=fun hh=>hx (h.2 hh);simp[hx];omega
theorem tI {x y:Int} (h: ¬ (x<0 ↔ y<0)) (hle:y.natAbs≤x.natAbs):sg (decide (x<0)) (x.natAbs - y.natAbs)=x+y:=by
 unfold sg
 by_cases hx:x<0
 ·have: ¬ y<0:=fun hh=>h ⟨fun _=>hh,fun _=>hx⟩;simp[hx];omega
 ·have:y<0:=by
   by_cases hy:y<0
   ·exact hy
   ·exact absurd ⟨fun hh=>absurd hh hx,fun hh=>absurd hh hy⟩ h
  simp[hx];omega
theorem Ld (x y:Int):sg (decide (x<0) !=decide (y<0)) (x.natAbs*y.natAbs)=x*y:=by
 have e:(x.natAbs:Int)*y.natAbs=(x*y).natAbs:=by rw[Int.natAbs_mul];simp
 unfold sg
 by_cases hx:x<0<;>by_cases hy:y<0<;>simp only[hx,hy,decide_true,decide_false,bne_self_eq_false,Bool.bne_true,Bool.bne_false,Bool.not_false,if_true,if_false,Bool.false_eq_true,Int.natCast_mul]
 ·rw[Int.ofNat_natAbs_of_nonpos (by omega),Int.ofNat_natAbs_of_nonpos (by omega),Int.neg_mul_neg]
 ·rw[Int.ofNat_natAbs_of_nonpos (by omega),Int.natAbs_of_nonneg (by omega),Int.neg_mul,Int.neg_neg]
 ·rw[Int.natAbs_of_nonneg (by omega),Int.ofNat_natAbs_of_nonpos (by omega),Int.mul_neg,Int.neg_neg]
 ·rw[Int.natAbs_of_nonneg (by omega),Int.natAbs_of_nonneg (by omega)]
def lJ (x y:Int):Int:=if x<y then -1 else if x=y then 0 else 1
theorem Mu {a b:Nat} :0≤iE a b ↔ b≤a:=by unfold iE;split<;>(try split)<;>omega
theorem P3 (x y:Int) (hx:(lim x.natAbs).length≤1048576) (hy:(lim y.natAbs).length≤1048576):RO Tryz.prog 276 [.agg (biC x),.agg (biC y)] (.int .i64 (lJ x y)):=by
 refine aI Tryz.func276 rfl rfl (by rw[Tryz.ntmps276];simp) fun bl=> ?_
 rw[Tryz.ntmps276,Tryz.results276]
 refine aE ?_
 rw[show biC x= [.bool (decide (x<0)),.sl (iv (lim x.natAbs))] from rfl,show biC y= [.bool (decide (y<0)),.sl (iv (lim y.natAbs))] from rfl]
 simp
 intro g hg0 hg g2 hg2 h2g hb2
 refine aC ?_
 simp[h2g,Ne.symm h2g]
 refine dN [(2,.loc g 2 0 0),(3,.loc g2 2 0 0)] _ _ 5 (.bool ((decide (x<0) !=decide (y<0))&& decide (x<0))) (upd (upd bl g (some ⟨2,[[.bool (decide (x<0)),.sl (iv (lim x.natAbs))]]⟩)) g2 (some ⟨2,[[.bool (decide (y<0)),.sl (iv (lim y.natAbs))]]⟩)) ⟨rfl,by simp,Sub.refl _⟩ rfl ?_ ?_
 ·simp[h2g,Ne.symm h2g]
  by_cases h1:x<0<;>by_cases h2:y<0<;>simp[h1,h2,h2g,Ne.symm h2g]
 by_cases h1:x<0<;>by_cases h2:y<0<;>simp[h1,h2,h2g,Ne.symm h2g]
 ·refine aD (iD _ _ hy hx) ?_
  simp
  refine aN [.int .i64 (lJ x y)] 0 ?_ (by simp[frz]) (by simp[hg,hb2])
  have:iE y.natAbs x.natAbs=lJ x y:=by unfold iE lJ;split<;>split<;>(try split)<;>(try split)<;>omega
  simp[this]
 ·have:lJ x y= -1:=by unfold lJ;rw[if_pos (by omega)]
  exact aN [.int .i64 (-1)] 0 (by simp) (by simp[frz,this]) (by simp[hg,hb2])
 ·have:lJ x y=1:=by unfold lJ;rw[if_neg (by omega),if_neg (by omega)]
  exact aN [.int .i64 1] 0 (by simp) (by simp[frz,this]) (by simp[hg,hb2])
 ·refine aD (iD _ _ hx hy) ?_
  simp
  refine aN [.int .i64 (lJ x y)] 0 ?_ (by simp[frz]) (by simp[hg,hb2])
  have:iE x.natAbs y.natAbs=lJ x y:=by unfold iE lJ;split<;>split<;>(try split)<;>(try split)<;>omega
  simp[this]
theorem I9 (x y:Int) (hx:(lim x.natAbs).length≤1048575) (hy:(lim y.natAbs).length≤1048575):RO Tryz.prog 227 [.agg (biC x),.agg (biC y)] (.agg (biC (x+y))):=by
 refine aI Tryz.func227 rfl rfl (by rw[Tryz.ntmps227];simp) fun bl=> ?_
 rw[Tryz.ntmps227,Tryz.results227]
 refine aE ?_
 rw[show biC x= [.bool (decide (x<0)),.sl (iv (lim x.natAbs))] from rfl,show biC y= [.bool (decide (y<0)),.sl (iv (lim y.natAbs))] from rfl]
 simp
 intro g hg0 hg g2 hg2 h2g hb2 g3 hg3 h32 h3g hb3
 refine aC ?_
 simp[h2g,Ne.symm h2g,h32,Ne.symm h32,h3g,Ne.symm h3g]
 refine aD (iD _ _ (by omega) (by omega)) ?_
 simp[h2g,Ne.symm h2g,h32,Ne.symm h32,h3g,Ne.symm h3g,Mu]
 refine⟨fun hs=> ?_,fun hs=>⟨fun hle=> ?_,fun hle=> ?_⟩⟩
 ·refine bY aQ (upd (upd bl g (some ⟨2,[[.bool (decide (x<0)),.sl (iv (lim x.natAbs))]]⟩)) g2 (some ⟨2,[[.bool (decide (y<0)),.sl (iv (lim y.natAbs))]]⟩)) (by simp[h32,h3g,hb3]) [0,1,2,3,4,5,6,7] 1 (by kernel_rfl) ?_
  simp[h2g,Ne.symm h2g,h32,Ne.symm h32,h3g,Ne.symm h3g]
  refine aO (Lx _ _ hx hy) ?_
  simp[h2g,Ne.symm h2g,h32,Ne.symm h32,h3g,Ne.symm h3g]
  refine aO (eK _ _) ?_
  simp[h2g,Ne.symm h2g,h32,Ne.symm h32,h3g,Ne.symm h3g]
  refine Dz 8 ?_
  simp[h2g,Ne.symm h2g,h32,Ne.symm h32,h3g,Ne.symm h3g]
  refine⟨by simp[h32,h3g,hb3],Dy ?_⟩
  rw[P8 hs]
  simp[h2g,Ne.symm h2g,h32,Ne.symm h32,h3g,Ne.symm h3g]
  exact aN [.agg (biC (x+y))] 1 (by simp[biC,h2g,Ne.symm h2g,h32,Ne.symm h32,h3g,Ne.symm h3g]) lI (by simp[hg,hb2,hb3])
 ·refine bY aQ (upd (upd bl g (some ⟨2,[[.bool (decide (x<0)),.sl (iv (lim x.natAbs))]]⟩)) g2 (some ⟨2,[[.bool (decide (y<0)),.sl (iv (lim y.natAbs))]]⟩)) (by simp[h32,h3g,hb3]) [0,1,2,3,4,5,6,7] 1 (by kernel_rfl) ?_
  simp[h2g,Ne.symm h2g,h32,Ne.symm h32,h3g,Ne.symm h3g]
  refine aO (J8 _ _ hle hx) ?_
  simp[h2g,Ne.symm h2g,h32,Ne.symm h32,h3g,Ne.symm h3g]
  refine aO (eK _ _) ?_
  simp[h2g,Ne.symm h2g,h32,Ne.symm h32,h3g,Ne.symm h3g]
  refine Dz 8 ?_
  simp[h2g,Ne.symm h2g,h32,Ne.symm h32,h3g,Ne.symm h3g]
  refine⟨by simp[h32,h3g,hb3],Dy ?_⟩
  rw[tI hs hle]
  simp[h2g,Ne.symm h2g,h32,Ne.symm h32,h3g,Ne.symm h3g]
  exact aN [.agg (biC (x+y))] 1 (by simp[biC,h2g,Ne.symm h2g,h32,Ne.symm h32,h3g,Ne.symm h3g]) lI (by simp[hg,hb2,hb3])
 ·refine bY aQ (upd (upd bl g (some ⟨2,[[.bool (decide (x<0)),.sl (iv (lim x.natAbs))]]⟩)) g2 (some ⟨2,[[.bool (decide (y<0)),.sl (iv (lim y.natAbs))]]⟩)) (by simp[h32,h3g,hb3]) [0,1,2,3,4,5,6,7] 1 (by kernel_rfl) ?_
  simp[h2g,Ne.symm h2g,h32,Ne.symm h32,h3g,Ne.symm h3g]
  refine aO (J8 _ _ (by omega) hy) ?_
  simp[h2g,Ne.symm h2g,h32,Ne.symm h32,h3g,Ne.symm h3g]
  refine aO (eK _ _) ?_
  simp[h2g,Ne.symm h2g,h32,Ne.symm h32,h3g,Ne.symm h3g]
  refine Dz 8 ?_
  simp[h2g,Ne.symm h2g,h32,Ne.symm h32,h3g,Ne.symm h3g]
  refine⟨by simp[h32,h3g,hb3],Dy ?_⟩
  rw[tI (x:=y) (y:=x) (fun hh=>hs ⟨hh.2,hh.1⟩) (by omega),Int.add_comm y x]
  simp[h2g,Ne.symm h2g,h32,Ne.symm h32,h3g,Ne.symm h3g]
  exact aN [.agg (biC (x+y))] 1 (by simp[biC,h2g,Ne.symm h2g,h32,Ne.symm h32,h3g,Ne.symm h3g]) lI (by simp[hg,hb2,hb3])
theorem iZ (x y:Int) (hx:(lim x.natAbs).length≤400000) (hy:(lim y.natAbs).length≤400000):RO Tryz.prog 231 [.agg (biC x),.agg (biC y)] (.agg (biC (x*y))):=by
 refine aI Tryz.func231 rfl rfl (by rw[Tryz.ntmps231];simp) fun bl=> ?_
 rw[Tryz.ntmps231,Tryz.results231]
 refine aE ?_
 rw[show biC x= [.bool (decide (x<0)),.sl (iv (lim x.natAbs))] from rfl,show biC y= [.bool (decide (y<0)),.sl (iv (lim y.natAbs))] from rfl]
 simp
 intro g hg0 hg g2 hg2 h2g hb2 g3 hg3 h32 h3g hb3
 refine aC ?_
 simp
 refine bY aQ (upd (upd bl g (some ⟨2,[[.bool (decide (x<0)),.sl (iv (lim x.natAbs))]]⟩)) g2 (some ⟨2,[[.bool (decide (y<0)),.sl (iv (lim y.natAbs))]]⟩)) (by simp[h32,h3g,hb3]) [0,1,2,3,4,5,6,7,8,9,10] 1 (by kernel_rfl) ?_
 simp[h2g,Ne.symm h2g,h32,Ne.symm h32,h3g,Ne.symm h3g]
 refine aO (kI _ _ hx hy) ?_
 simp[h2g,Ne.symm h2g,h32,Ne.symm h32,h3g,Ne.symm h3g]
 refine aO (eK _ _) ?_
 simp[h2g,Ne.symm h2g,h32,Ne.symm h32,h3g,Ne.symm h3g]
 refine Dz 11 ?_
 simp[h2g,Ne.symm h2g,h32,Ne.symm h32,h3g,Ne.symm h3g]
 refine⟨by simp[h32,h3g,hb3],Dy ?_⟩
 rw[Ld]
 simp[h2g,Ne.symm h2g,h32,Ne.symm h32,h3g,Ne.symm h3g]
 exact aN [.agg (biC (x*y))] 1 (by simp[biC,h2g,Ne.symm h2g,h32,Ne.symm h32,h3g,Ne.symm h3g]) lI (by simp[hg,hb2,hb3])

theorem bA (x:Int):biC x= [.bool (decide (x<0)),.sl (iv (lim x.natAbs))]:=rfl
theorem fF (q:Rat):(rq q).c= [.bool (decide (q.num<0)),.sl (iv (lim q.num.natAbs)),.sl (iv (lim q.den))]:=rfl
theorem Ap (n:Int) {d:Nat} (hd:d≠0):rq (mkRat n d)=⟨decide (n<0),lim (n.natAbs / Nat.gcd n.natAbs d),lim (d / Nat.gcd n.natAbs d)⟩:=by
 obtain⟨h1,h2,h3⟩:=Dk n hd
 unfold rq
 rw[h1,h2,decide_eq_decide.2 h3]
theorem sV (x y:Int) (hx:(lim x.natAbs).length≤1048575) (hy:(lim y.natAbs).length≤1048575):RO Tryz.prog 239 [.agg (biC x),.agg (biC y)] (.agg (biC (x - y))):=by
 refine aI Tryz.func239 rfl rfl (by rw[Tryz.ntmps239];simp) fun bl=> ?_
 rw[Tryz.ntmps239,Tryz.results239]
 refine aE ?_
 simp
 intro g hg0 hg g2 hg2 h2g hb2 g3 hg3 h32 h3g hb3
 refine aC ?_
 simp
 refine bY aQ (upd (upd bl g (some ⟨2,[biC x]⟩)) g2 (some ⟨2,[biC y]⟩)) (by simp[h32,h3g,hb3]) [0,1,2,3] 1 (by kernel_rfl) ?_
 simp[h2g,Ne.symm h2g,h32,Ne.symm h32,h3g,Ne.symm h3g]
 refine aO (jT y) ?_
 simp[h2g,Ne.symm h2g,h32,Ne.symm h32,h3g,Ne.symm h3g]
 refine aO (I9 x (-y) hx (by simpa using hy)) ?_
 rw[show x+ -y=x - y by omega]
 simp[h2g,Ne.symm h2g,h32,Ne.symm h32,h3g,Ne.symm h3g]
 refine Dz 4 ?_
 simp[h2g,Ne.symm h2g,h32,Ne.symm h32,h3g,Ne.symm h3g]
 refine⟨by simp[h32,h3g,hb3],Dy ?_⟩
 simp
 exact aN [.agg (biC (x - y))] 1 (by simp[biC,h2g,Ne.symm h2g,h32,Ne.symm h32,h3g,Ne.symm h3g]) lI (by simp[hg,hb2,hb3])
theorem oJ (q:Rat) (m:Nat) (hq:(lim q.num.natAbs).length≤400000) (hm:(lim m).length≤400000):RO Tryz.prog 226 [.ptr (rq q).c,.sl (iv (lim m))] (.agg (biC (q.num*m))):=by
 refine aI Tryz.func226 rfl rfl (by rw[Tryz.ntmps226];simp) fun bl=> ?_
 rw[Tryz.ntmps226,Tryz.results226]
 refine aC ?_
 rw[fF]
 simp
 intro g hg0 hg
 refine bY aQ bl (by simp[hg]) [0,1,2,3,4,5,6,7,8,9,10,11,12] 1 (by kernel_rfl) ?_
 simp
 refine aO (kI _ _ hq hm) ?_
 simp
 refine aO (eK _ _) ?_
 simp
 refine Dz 13 ?_
 simp
 refine⟨by simp[hg],Dy ?_⟩
 have e:sg (decide (q.num<0)) (q.num.natAbs*m)=q.num*m:=by
  have:=Ld q.num m
  have h0:decide ((m:Int)<0)=false:=decide_eq_false (by omega)
  rw[h0,Bool.bne_false,Int.natAbs_natCast] at this
  exact this
 rw[e]
 simp
 exact aN [.agg (biC (q.num*m))] 1 (by simp[biC]) lI (by simp[hg])
theorem nS (n:Int) (d:Nat) (hd:d≠0) (hn:(lim n.natAbs).length≤300000) (hdl:(lim d).length≤300000):RO Tryz.prog 221 [.agg (biC n),.sl (iv (lim d))] (.ptr (rq (mkRat n d)).c):=by
 refine aI Tryz.func221 rfl rfl (by rw[Tryz.ntmps221];simp) fun bl=> ?_
 rw[Tryz.ntmps221,Tryz.results221]
 refine aC ?_
 rw[bA]
 simp
 intro g hg0 hg
 refine⟨fun h=> ?_,fun h=> ?_⟩
 ·intro g1 hg1 h1g hb1 g2 hg2 h21 h2g hb2
  have h0:n=0:=by have:=cW.1 h;omega
  subst h0
  rw[Rat.zero_mkRat]
  refine aN [.loc g2 3 0 0] 2 (by simp) ?_ (by simp[hg,hb1,hb2])
  simp[frz,dropB,V.cl,hb1,hb2,h1g,Ne.symm h1g,h21,Ne.symm h21,h2g,Ne.symm h2g,Int.not_lt.2 hg1,fF,aU]
  exact⟨rfl,by rw[Y1];rfl⟩
 ·have hz:n.natAbs≠0:=fun h0=>h (by rw[h0];exact aU)
  refine aD (wQ _ _ hn hdl) ?_
  simp
  intro g1 hg1 h1g hb1
  have hgl:=E7 hn hdl
  refine bS 1 (ys:= [.sl (iv (lim (Nat.gcd n.natAbs d))),.sl (iv (lim 1))]) ?_ (iD _ 1 (by omega) (by rw[Y1];simp)) rfl ?_
  ·simp[frzL,frz,Y1,iv,V.cl,Int.not_lt.2 hg1]
  simp[mN,zC]
  refine⟨fun h1=> ?_,fun h1=> ?_⟩
  ·simp[h1g,Ne.symm h1g]
   intro g2 hg2 h21 h2g hb2
   refine aN [.loc g2 3 0 0] 2 (by simp) ?_ (by simp[hg,hb1,hb2])
   have e:rq (mkRat n d)=⟨decide (n<0),lim n.natAbs,lim d⟩:=by rw[Ap n hd,h1,Nat.div_one,Nat.div_one]
   rw[e]
   simp[frz,dropB,V.cl,hb1,hb2,h1g,Ne.symm h1g,h21,Ne.symm h21,h2g,Ne.symm h2g,RT.c]
  ·have Ti:0<Nat.gcd n.natAbs d:=Nat.gcd_pos_of_pos_right _ (by omega)
   simp[h1g,Ne.symm h1g]
   refine aD (uF _ _ Ti hn hgl) ?_
   simp
   refine aD (uF _ _ Ti hdl hgl) ?_
   simp[h1g,Ne.symm h1g]
   refine aD (eK _ _) ?_
   simp[h1g,Ne.symm h1g]
   rw[D0]
   simp[h1g,Ne.symm h1g]
   intro g2 hg2 h21 h2g hb2
   refine aN [.loc g2 3 0 0] 2 (by simp) ?_ (by simp[hg,hb1,hb2])
   have e3:0<n.natAbs / Nat.gcd n.natAbs d:=Nat.div_pos (Nat.gcd_le_left _ (by omega)) Ti
   rw[Ap n hd]
   simp[frz,dropB,V.cl,hb1,hb2,h1g,Ne.symm h1g,h21,Ne.symm h21,h2g,Ne.symm h2g,RT.c,mT,e3]
theorem iU {a b k l:Nat} (ha:(lim a).length≤k) (hb:(lim b).length≤l):(lim (a*b)).length≤k+l:=by
 refine aF.2 ?_
 have h1:=aF.1 ha
 have h2:=aF.1 hb
 rw[Nat.pow_add]
 exact Nat.mul_lt_mul'' h1 h2
theorem Bf {a b k:Nat} (ha:(lim a).length≤k) (hb:(lim b).length≤k):(lim (a+b)).length≤k+1:=by
 refine aF.2 ?_
 have h1:=aF.1 ha
 have h2:=aF.1 hb
 have:LB^(k+1)=LB^k*1000000000:=Nat.pow_succ ..
 omega
theorem mE {a b k:Nat} (h:a≤b) (hb:(lim b).length≤k):(lim a).length≤k:=Nat.le_trans (bI h) hb
def few (k:Nat) (q:Rat):Prop:=(lim q.num.natAbs).length≤k∧(lim q.den).length≤k
theorem iS {k l:Nat} {q:Rat} (h:few k q) (hkl:k≤l):few l q:=⟨by have:=h.1;omega,by have:=h.2;omega⟩
def aK5 (a b:Rat):Int:=lJ (a.num*b.den) (b.num*a.den)
theorem G7 (a b:Rat) (ha:few 100000 a) (hb:few 100000 b):RO Tryz.prog 159 [.ptr (rq a).c,.ptr (rq b).c] (.ptr (rq (a+b)).c):=by
 obtain⟨a1,a2⟩:=ha
 obtain⟨b1,b2⟩:=hb
 have n1:(lim (a.num*b.den).natAbs).length≤200000:=by rw[Int.natAbs_mul,Int.natAbs_natCast];have:=iU a1 b2;omega
 have n2:(lim (b.num*a.den).natAbs).length≤200000:=by rw[Int.natAbs_mul,Int.natAbs_natCast];have:=iU b1 a2;omega
 refine aI Tryz.func159 rfl rfl (by rw[Tryz.ntmps159];simp) fun bl=> ?_
 rw[Tryz.ntmps159,Tryz.results159]
 refine aC ?_
 simp
 refine bQ aQ (by kernel_rfl) ?_
 rw[fF a,fF b]
 simp
 refine aO (oJ a b.den (by omega) (by omega)) ?_
 simp
 refine aO (oJ b a.den (by omega) (by omega)) ?_
 simp
 refine aO (I9 _ _ (by omega) (by omega)) ?_
 simp
 refine aO (kI _ _ (by omega) (by omega)) ?_
 simp
 refine aO (nS _ _ (Nat.mul_ne_zero a.den_nz b.den_nz) ?_ ?_) ?_
 ·exact mE (Int.natAbs_add_le _ _) (by have:=Bf n1 n2;omega)
 ·have:=iU a2 b2;omega
 rw[←Rat.add_def']
 simp
 exact aM (by simp) rfl rfl
theorem Bx (a b:Rat) (ha:few 100000 a) (hb:few 100000 b):RO Tryz.prog 178 [.ptr (rq a).c,.ptr (rq b).c] (.ptr (rq (a - b)).c):=by
 obtain⟨a1,a2⟩:=ha
 obtain⟨b1,b2⟩:=hb
 have n1:(lim (a.num*b.den).natAbs).length≤200000:=by rw[Int.natAbs_mul,Int.natAbs_natCast];have:=iU a1 b2;omega
 have n2:(lim (b.num*a.den).natAbs).length≤200000:=by rw[Int.natAbs_mul,Int.natAbs_natCast];have:=iU b1 a2;omega
 refine aI Tryz.func178 rfl rfl (by rw[Tryz.ntmps178];simp) fun bl=> ?_
 rw[Tryz.ntmps178,Tryz.results178]
 refine aC ?_
 simp
 refine bQ aQ (by kernel_rfl) ?_
 rw[fF a,fF b]
 simp
 refine aO (oJ a b.den (by omega) (by omega)) ?_
 simp
 refine aO (oJ b a.den (by omega) (by omega)) ?_
 simp
 refine aO (sV _ _ (by omega) (by omega)) ?_
 simp
 refine aO (kI _ _ (by omega) (by omega)) ?_
 simp
 refine aO (nS _ _ (Nat.mul_ne_zero a.den_nz b.den_nz) ?_ ?_) ?_
 ·rw[Int.sub_eq_add_neg];exact mE (Int.natAbs_add_le _ _) (by rw[Int.natAbs_neg];have:=Bf n1 n2;omega)
 ·have:=iU a2 b2;omega
 rw[←Rat.sub_def']
 simp
 exact aM (by simp) rfl rfl
theorem zS (a b:Rat) (ha:few 100000 a) (hb:few 100000 b):RO Tryz.prog 163 [.ptr (rq a).c,.ptr (rq b).c] (.ptr (rq (a*b)).c):=by
 obtain⟨a1,a2⟩:=ha
 obtain⟨b1,b2⟩:=hb
 refine aI Tryz.func163 rfl rfl (by rw[Tryz.ntmps163];simp) fun bl=> ?_
 rw[Tryz.ntmps163,Tryz.results163]
 refine aC ?_
 simp
 refine bQ aQ (by kernel_rfl) ?_
 rw[fF a,fF b]
 simp
 refine aO (iZ a.num b.num (by omega) (by omega)) ?_
 simp
 refine aO (kI _ _ (by omega) (by omega)) ?_
 simp
 refine aO (nS _ _ (Nat.mul_ne_zero a.den_nz b.den_nz) ?_ ?_) ?_
 ·rw[Int.natAbs_mul];have:=iU a1 b1;omega
 ·have:=iU a2 b2;omega
 rw[←Rat.mul_def']
 simp
 exact aM (by simp) rfl rfl
def fv :Option Rat→V
 | none => .nilp
 | some q => .ptr (rq q).c
theorem sO {b:Int→Option Blk} {n:Nat} {x:Option Rat} :frz b n (fv x)=some (fv x):=by cases x<;>simp[fv,frz]
theorem Y6 (q:Rat):RO Tryz.prog 158 [.ptr (rq q).c] (fv (fit q)):=by
 refine aI Tryz.func158 rfl rfl (by rw[Tryz.ntmps158];simp) fun bl=> ?_
 rw[Tryz.ntmps158,Tryz.results158]
 refine aC ?_
 simp
 refine aV [(0,.ptr (rq q).c)] _ bl 17 (.bool (!decide (fits q))) ⟨rfl,by simp,Sub.refl _⟩ rfl ?_ ?_
 ·rw[fF]
  simp
  have hf:fits q ↔ (lim q.num.natAbs).length≤24∧(lim q.den).length≤24:=Iff.rfl
  refine⟨fun h hh=>by have:=hf.1 hh;omega,fun h=> ?_⟩
  rw[Bool.eq_iff_iff]
  simp[hf]
  omega
 simp
 refine⟨fun h=> ?_,fun h=> ?_⟩
 ·exact aM (by simp[fit,h,fv]) rfl sO
 ·exact aM (by simp[fit,h,fv]) rfl sO
theorem Al (r:RT) (hm:r.m.length≤140737488351232) (hd:r.d.length≤140737488351232):RO Tryz.prog 97 [.agg r.c] (fv (rd r)):=by
 refine aI Tryz.func97 rfl rfl (by rw[Tryz.ntmps97];simp) fun bl=> ?_
 rw[Tryz.ntmps97,Tryz.results97]
 refine aC ?_
 simp[RT.c]
 intro g hg0 hg
 refine aD (oX r hm hd) ?_
 simp
 refine⟨fun h=> ?_,fun h=> ?_⟩
 ·have:rd r=none:=by unfold rd;rw[if_neg h]
  exact aN [.nilp] 0 (by simp) (by rw[this];rfl) (by simp[hg])
 ·obtain⟨q,hq⟩: ∃q,rd r=some q:=⟨_,by unfold rd;rw[if_pos h]⟩
  obtain⟨hr,hf⟩:=rd_some hq
  rw[hq]
  intro g2 hg2 h2g hb2
  refine aN [.loc g2 3 0 0] 1 (by simp) ?_ (by simp[hg,hb2])
  simp[frz,dropB,V.cl,hb2,h2g,Ne.symm h2g,fv,←hr,RT.c]
def okQ (x:Option Rat):Prop:= ∀q,x=some q→fits q
theorem Pf (q:Rat):okQ (fit q):=by
 intro p h
 unfold fit at h
 split at h
 ·cases h;assumption
 ·cases h
theorem Uy (r:RT):okQ (rd r):=fun q h=>(rd_some h).2
def op2 (f:Rat→Rat→Rat) (x y:Option Rat):Option Rat:=match x,y with | some a,some b=>fit (f a b)| _,_=>none
theorem jU (f:Rat→Rat→Rat) (x y:Option Rat):okQ (op2 f x y):=by
 unfold op2;split
 ·exact Pf _
 ·intro q h;cases h
theorem E1 (x y:Option Rat) (hx:okQ x) (hy:okQ y):RO Tryz.prog 82 [fv x,fv y] (fv (op2 (· + ·) x y)):=by
 refine aI Tryz.func82 rfl rfl (by rw[Tryz.ntmps82];simp) fun bl=> ?_
 rw[Tryz.ntmps82,Tryz.results82]
 refine aC ?_
 simp
 rcases x with _ | a
 ·refine aV [(0,fv none),(1,fv y)] _ bl 10 (.bool true) ⟨rfl,by simp,Sub.refl _⟩ rfl ?_ ?_
  ·simp[fv]
  simp
  exact aM (by simp[op2,fv]) rfl rfl
 rcases y with _ | b
 ·refine aV [(0,fv (some a)),(1,fv none)] _ bl 10 (.bool true) ⟨rfl,by simp,Sub.refl _⟩ rfl ?_ ?_
  ·simp[fv]
  simp
  exact aM (by simp[op2,fv]) rfl rfl
 refine aV [(0,fv (some a)),(1,fv (some b))] _ bl 10 (.bool false) ⟨rfl,by simp,Sub.refl _⟩ rfl ?_ ?_
 ·simp[fv]
 simp[fv]
 refine aD (G7 a b (iS (hx a rfl) (by decide)) (iS (hy b rfl) (by decide))) ?_
 simp
 refine aD (Y6 _) ?_
 simp
 exact aM (by simp[op2];rfl) rfl sO
theorem Hr (x y:Option Rat) (hx:okQ x) (hy:okQ y):RO Tryz.prog 104 [fv x,fv y] (fv (op2 (· - ·) x y)):=by
 refine aI Tryz.func104 rfl rfl (by rw[Tryz.ntmps104];simp) fun bl=> ?_
 rw[Tryz.ntmps104,Tryz.results104]
 refine aC ?_
 simp
 rcases x with _ | a
 ·refine aV [(0,fv none),(1,fv y)] _ bl 10 (.bool true) ⟨rfl,by simp,Sub.refl _⟩ rfl ?_ ?_
  ·simp[fv]
  simp
  exact aM (by simp[op2,fv]) rfl rfl
 rcases y with _ | b
 ·refine aV [(0,fv (some a)),(1,fv none)] _ bl 10 (.bool true) ⟨rfl,by simp,Sub.refl _⟩ rfl ?_ ?_
  ·simp[fv]
  simp
  exact aM (by simp[op2,fv]) rfl rfl
 refine aV [(0,fv (some a)),(1,fv (some b))] _ bl 10 (.bool false) ⟨rfl,by simp,Sub.refl _⟩ rfl ?_ ?_
 ·simp[fv]
 simp[fv]
 refine aD (Bx a b (iS (hx a rfl) (by decide)) (iS (hy b rfl) (by decide))) ?_
 simp
 refine aD (Y6 _) ?_
 simp
 exact aM (by simp[op2];rfl) rfl sO
theorem R1 (x y:Option Rat) (hx:okQ x) (hy:okQ y):RO Tryz.prog 86 [fv x,fv y] (fv (op2 (· * ·) x y)):=by
 refine aI Tryz.func86 rfl rfl (by rw[Tryz.ntmps86];simp) fun bl=> ?_
 rw[Tryz.ntmps86,Tryz.results86]
 refine aC ?_
 simp
 rcases x with _ | a
 ·refine aV [(0,fv none),(1,fv y)] _ bl 10 (.bool true) ⟨rfl,by simp,Sub.refl _⟩ rfl ?_ ?_
  ·simp[fv]
  simp
  exact aM (by simp[op2,fv]) rfl rfl
 rcases y with _ | b
 ·refine aV [(0,fv (some a)),(1,fv none)] _ bl 10 (.bool true) ⟨rfl,by simp,Sub.refl _⟩ rfl ?_ ?_
  ·simp[fv]
  simp
  exact aM (by simp[op2,fv]) rfl rfl
 refine aV [(0,fv (some a)),(1,fv (some b))] _ bl 10 (.bool false) ⟨rfl,by simp,Sub.refl _⟩ rfl ?_ ?_
 ·simp[fv]
 simp[fv]
 refine aD (zS a b (iS (hx a rfl) (by decide)) (iS (hy b rfl) (by decide))) ?_
 simp
 refine aD (Y6 _) ?_
 simp
 exact aM (by simp[op2];rfl) rfl sO

theorem sG (a b:Nat) (ha:(lim a).length≤1048576) (hb:(lim b).length≤1048576):RO Tryz.prog 288 [.sl (iv (lim a)),.sl (iv (lim b))] (.int .i64 (iE a b)):=by
 refine aI Tryz.func288 rfl rfl (by rw[Tryz.ntmps288];simp) fun bl=> ?_
 rw[Tryz.ntmps288,Tryz.results288]
 refine aC ?_
 simp
 refine⟨fun h=>⟨fun h1=> ?_,fun h1=> ?_⟩,fun h=> ?_⟩
 ·exact aM (by simp[wC h1]) rfl rfl
 ·exact aM (by simp[vF (show(lim b).length<(lim a).length by omega)]) rfl rfl
 have h:(lim a).length=(lim b).length:=by omega
 have w0:IntKind.i64.wrap (((lim a).length:Int) - 1)=((lim a).length:Int) - 1:=i64_in (by omega) (by omega)
 simp[w0]
 refine aK (fun k:Nat=> [(0,.sl (iv (lim a))),(1,.sl (iv (lim b))),(5,.int .i64 ((k:Int) - 1))]) (fun _=>bl) (fun k=>k≤(lim a).length∧ ∀j,k≤j→dg a j=dg b j) (fun k=>k) _ (lim a).length ⟨Nat.le_refl _,fun j hj=>by rw[kV hj,kV (by omega)]⟩ ⟨rfl,by simp,Sub.refl _⟩ ?_
 intro k ⟨hk,hc⟩
 refine aC ?_
 simp
 refine⟨fun h1=> ?_,fun h1=> ?_⟩
 ·obtain⟨m,rfl⟩: ∃m,k=m+1:=⟨k - 1,by omega⟩
  have hm:m<(lim a).length:=by omega
  have hm2:m<(lim b).length:=by omega
  have e1:((m+1:Nat):Int) - 1=m:=by omega
  refine bQ aQ (by kernel_rfl) ?_
  simp[e1,bK _ _ hm,bK _ _ hm2]
  refine⟨fun h2=> ?_,fun h2=> ?_⟩
  ·exact aM (by simp[Kf h hm (fun j hj=>hc j (by omega)) h2]) rfl rfl
  refine bQ aQ (by kernel_rfl) ?_
  simp[e1,bK _ _ hm,bK _ _ hm2]
  refine⟨fun h3=> ?_,fun h3=> ?_⟩
  ·exact aM (by simp[Fg h hm (fun j hj=>hc j (by omega)) h3]) rfl rfl
  have w1:IntKind.i64.wrap ((m:Int) - 1)=(m:Int) - 1:=i64_in (by omega) (by omega)
  simp[w1,aB]
  refine⟨m,⟨by omega,fun j hj=> ?_⟩,by omega,rfl,by simp,Sub.refl _⟩
  rcases Nat.lt_or_ge m j with hlt | hge
  ·exact hc j (by omega)
  ·obtain rfl:j=m:=by omega
   omega
 ·have:k=0:=by omega
  subst this
  exact aM (by simp[Ku h fun j=>hc j (Nat.zero_le _)]) rfl rfl
theorem fB (ns:List Int) (hd:Dig ns) (hn:ns.length≤1048576):RO Tryz.prog 290 [.sl (iv ns)] (.sl (iv (lim (val ns)))):=by
 refine aI Tryz.func290 rfl rfl (by rw[Tryz.ntmps290];simp) fun bl=> ?_
 rw[Tryz.ntmps290,Tryz.results290]
 refine aC ?_
 simp
 refine aK (fun n:Nat=> [(0,.sl (iv ns)),(3,.int .i64 n)]) (fun _=>bl) (fun n=>n≤ns.length∧ ∀i (hi:i<ns.length),n≤i→ns[i]=0) (fun n=>n) _ ns.length ⟨Nat.le_refl _,fun i hi h=>by omega⟩ ⟨rfl,by simp,Sub.refl _⟩ ?_
 intro n ⟨hl,hz⟩
 refine aC ?_
 simp
 refine aV [(0,.sl (iv ns)),(3,.int .i64 n)] _ bl 15 (.bool (decide (0<n)&& decide (ns.getD (n - 1) 1=0))) ⟨rfl,by simp,Sub.refl _⟩ rfl ?_ ?_
 ·simp
  refine⟨fun h=> ?_,fun h=>by simp[h]⟩
  have w1:IntKind.i64.wrap ((n:Int) - 1)=((n - 1:Nat):Int):=by rw[i64_in (by omega) (by omega)];omega
  have h2:n - 1<ns.length:=by omega
  simp[w1,h2,h,mN]
 simp
 refine⟨fun h1 h2=> ?_,fun h1=> ?_⟩
 ·have w1:IntKind.i64.wrap ((n:Int) - 1)=((n - 1:Nat):Int):=by rw[i64_in (by omega) (by omega)];omega
  simp[w1,aB]
  refine⟨n - 1,⟨by omega,fun i hi h3=> ?_⟩,by omega,rfl,by simp,Sub.refl _⟩
  rcases Nat.lt_or_ge i n with h4 | h4
  ·obtain rfl:i=n - 1:=by omega
   simpa [hi] using h2
  ·exact hz i hi h4
 ·have hz2: ∀i (hi:i<ns.length),n=i+1→ns[i]≠0:=by
   intro i hi e
   subst e
   have:=h1 (by omega)
   simpa [hi] using this
  have:=wE hd hl hz hz2
  rw[←this]
  simp[sliV,An,hl]
  exact aM (by simp[uK]) rfl rfl
theorem Ea (ns:List Int) (hd:Dig ns) (hn:ns.length≤1048576):RO Tryz.prog 280 [.sl (iv ns)] (.sl (iv (if(lim (val ns)).length≤60 then lim (val ns) else []))):=by
 refine aI Tryz.func280 rfl rfl (by rw[Tryz.ntmps280];simp) fun bl=> ?_
 rw[Tryz.ntmps280,Tryz.results280]
 refine aC ?_
 simp
 refine aD (fB ns hd hn) ?_
 simp
 refine⟨fun h=> ?_,fun h=> ?_⟩
 ·rw[if_neg (by omega)]
  exact aN [.nils] 0 (by simp) rfl (Sub.refl _)
 ·rw[if_pos (by omega)]
  exact aM (by simp) rfl rfl

theorem yQ (a b:Nat) (ha:(lim a).length≤400000) (hb:(lim b).length≤400000):RO Tryz.prog 266 [.sl (iv (lim a)),.sl (iv (lim b))] (.sl (iv (lim (a*b)))):=by
 by_cases h0:a=0∨b=0
 ·have hz:a*b=0:=Nat.mul_eq_zero.2 h0
  rw[hz,aU]
  refine aI Tryz.func266 rfl rfl (by rw[Tryz.ntmps266];simp) fun bl=> ?_
  rw[Tryz.ntmps266,Tryz.results266]
  refine aC ?_
  simp
  refine aV [(0,.sl (iv (lim a))),(1,.sl (iv (lim b)))] _ bl 19 (.bool true) ⟨rfl,by simp,Sub.refl _⟩ rfl ?_ ?_
  ·simp
   rcases h0 with h0 | h0
   ·simp[h0,aU]
   ·simp[h0,aU]
  simp
  exact aN [.nils] 0 (by simp) rfl (Sub.refl _)
 have ha0:a≠0:=by omega
 have hb0:b≠0:=by omega
 have la:(lim a).length≠0:=fun h=>ha0 (cW.1 (List.length_eq_zero_iff.1 h))
 have lb:(lim b).length≠0:=fun h=>hb0 (cW.1 (List.length_eq_zero_iff.1 h))
 refine aI Tryz.func266 rfl rfl (by rw[Tryz.ntmps266];simp) fun bl=> ?_
 rw[Tryz.ntmps266,Tryz.results266]
 refine aC ?_
 simp
 refine aV [(0,.sl (iv (lim a))),(1,.sl (iv (lim b)))] _ bl 19 (.bool false) ⟨rfl,by simp,Sub.refl _⟩ rfl ?_ ?_
 ·have na:lim a≠ []:=fun h=>la (by rw[h];rfl)
  have nb:lim b≠ []:=fun h=>lb (by rw[h];rfl)
  simp[na,nb]
 have w0:IntKind.i64.wrap (((lim a).length:Int)+(lim b).length)=(lim a).length+(lim b).length:=i64_in (by omega) (by omega)
 simp[w0]
 refine⟨(lim a).length+(lim b).length,by simp,by simp,by omega,by unfold maxLen;omega,fun g hg0 hg=> ?_⟩
 have er:List.replicate ((lim a).length+(lim b).length) [V.int IntKind.i64 0]=iv (List.replicate ((lim a).length+(lim b).length) 0):=by simp[iv]
 simp[er]
 refine aK (fun p:TL=> [(0,.sl (iv (lim a))),(1,.sl (iv (lim b))),(5,.lsl g 1 0 ((lim a).length+(lim b).length)),(26,.sl (iv (lim a))),(27,.int .i64 (lim a).length),(28,.int .i64 p.i)]) (fun p=>upd bl g (some ⟨1,iv p.O⟩))
  (fun p=>p.i≤(lim a).length∧fJ a b p.i 0 p.O 0) (fun p=>(lim a).length - p.i) _ ⟨0,0,_,0⟩ ⟨Nat.zero_le _,fJ.start a b⟩ ⟨rfl,by simp,sub_eq (by simp)⟩ ?_
 rintro⟨i,j0,O,c0⟩ ⟨hi,hI⟩
 simp only at hi hI
 refine aC ?_
 simp
 refine⟨fun h1=> ?_,fun h1=> ?_⟩
 ·simp[bK _ _ h1]
  refine aK (fun p:TL=> [(0,.sl (iv (lim a))),(1,.sl (iv (lim b))),(5,.lsl g 1 0 ((lim a).length+(lim b).length)),(6,.int .i64 i),(7,.int .i64 (dg a i:Nat)),(8,.int .i64 p.c),(26,.sl (iv (lim a))),(27,.int .i64 (lim a).length),(28,.int .i64 i),(33,.sl (iv (lim b))),(34,.int .i64 (lim b).length),(35,.int .i64 p.j)]) (fun p=>upd bl g (some ⟨1,iv p.O⟩))
   (fun p=>p.j≤(lim b).length∧fJ a b i p.j p.O p.c) (fun p=>(lim b).length - p.j) _ ⟨i,0,O,0⟩ ⟨Nat.zero_le _,hI⟩ ⟨rfl,by simp,sub_eq (by simp)⟩ ?_
  rintro⟨i',j,O,c⟩ ⟨hj,hJ⟩
  simp only at hj hJ
  have hlen:=hJ.len
  refine aC ?_
  simp
  refine⟨fun h2=> ?_,fun h2=> ?_⟩
  ·have hk:i+j<O.length:=by omega
   obtain⟨n1,n2,n3,hN⟩:=hJ.next h1 h2 hk
   have w1:IntKind.i64.wrap ((i:Int)+j)=(i:Int)+j:=i64_in (by omega) (by omega)
   have p1:0≤(i:Int)+j:=by omega
   have p2:(i:Int)+j<(lim a).length+(lim b).length:=by omega
   have p3:((i:Int)+j).toNat=i+j:=by omega
   have w3:IntKind.i64.wrap ((j:Int)+1)=j+1:=i64_in (by omega) (by omega)
   have hm:0≤(dg a i:Int)*dg b j∧(dg a i:Int)*dg b j<1000000000000000000:=by
    have hO:=hJ.dig.at hk
    have e:0≤(dg a i:Int)*dg b j:=by rw[←Int.natCast_mul];omega
    exact⟨e,by omega⟩
   have hO:=hJ.dig.at hk
   have w4:IntKind.i64.wrap ((dg a i:Int)*dg b j)=(dg a i:Int)*dg b j:=i64_in (by omega) (by omega)
   have w5:IntKind.i64.wrap (O[i+j]+(dg a i:Int)*dg b j)=O[i+j]+(dg a i:Int)*dg b j:=i64_in (by omega) (by omega)
   have w6:IntKind.i64.wrap (O[i+j]+(dg a i:Int)*dg b j+c)=O[i+j]+(dg a i:Int)*dg b j+c:=i64_in (by omega) (by omega)
   have w7:=wq (x:=O[i+j]+(dg a i:Int)*dg b j+c) (n:=1000000000) n3 (by omega) (by omega)
   simp[bK _ _ h2,w1,w3,w4,w5,w6,w7,p1,p2,p3,hk]
   rw[aB]
   obtain⟨c',hc'⟩: ∃c':Nat,(O[i+j]+(dg a i:Int)*dg b j+c).tdiv 1000000000=c':=⟨((O[i+j]+(dg a i:Int)*dg b j+c).tdiv 1000000000).toNat,by omega⟩
   refine⟨⟨i,j+1,O.set (i+j) ((O[i+j]+(dg a i:Int)*dg b j+c).tmod 1000000000),c'⟩,⟨by simp only;omega,?_⟩,by simp only;omega,rfl,by simp[hc'],sub_eq ?_⟩
   ·rw[hc'] at hN;exact hN
   ·rw[dP]
  ·have e:j=(lim b).length:=by omega
   have hk:i+(lim b).length<O.length:=by omega
   have hR:=hJ.row h1 (by omega) hj hk
   have w1:IntKind.i64.wrap ((i:Int)+(lim b).length)=(i:Int)+(lim b).length:=i64_in (by omega) (by omega)
   have p1:0≤(i:Int)+(lim b).length:=by omega
   have p2:(i:Int)+(lim b).length<(lim a).length+(lim b).length:=by omega
   have p3:((i:Int)+(lim b).length).toNat=i+(lim b).length:=by omega
   have w3:IntKind.i64.wrap ((i:Int)+1)=i+1:=i64_in (by omega) (by omega)
   simp[w1,w3,p1,p2,p3,hk]
   rw[aB]
   refine⟨⟨i+1,0,O.set (i+(lim b).length) c,0⟩,⟨by simp only;omega,hR⟩,by simp only;omega,rfl,by simp,sub_eq ?_⟩
   rw[dP]
 ·have hv:=hI.done (c:=0) (by omega)
  have hlen:=hI.len
  have hg':bl g=none:=by simpa using hg
  try simp
  refine gK 1 bl _ (by simp[hg']) (jP hg0 hg' (by simp) hlen) (fB _ hI.dig (by omega)) ?_
  rw[hv]
  simp
  exact aM (by simp) rfl rfl
theorem G3 (a b:Nat) (ha:(lim a).length≤1048576) (hb0:0<b) (hb:b<1000000000):RO Tryz.prog 295 [.sl (iv (lim a)),.int .i64 b] (.tup [.sl (iv (lim (a / b))),.int .i64 (a % b:Nat)]):=by
 refine aI Tryz.func295 rfl rfl (by rw[Tryz.ntmps295];simp) fun bl=> ?_
 rw[Tryz.ntmps295,Tryz.results295]
 refine aC ?_
 simp
 refine⟨by omega,by unfold maxLen;omega,fun g hg0 hg=> ?_⟩
 have er:List.replicate ((lim a).length) [V.int IntKind.i64 0]=iv (List.replicate ((lim a).length) 0):=by simp[iv]
 have w0:IntKind.i64.wrap (((lim a).length:Int) - 1)=((lim a).length:Int) - 1:=i64_in (by omega) (by omega)
 simp[er,w0]
 refine aK (fun p:SL=> [(0,.sl (iv (lim a))),(1,.int .i64 b),(6,.lsl g 1 0 (lim a).length),(7,.int .i64 p.r),(8,.int .i64 ((p.i:Int) - 1))]) (fun p=>upd bl g (some ⟨1,iv (List.replicate p.i 0++p.Q)⟩))
  (fun p=>0≤p.r∧nE a b p.i p.Q p.r.toNat) (fun p=>p.i) _ ⟨(lim a).length,[],0⟩ ⟨Int.le_refl _,nE.start a b hb0⟩ ⟨rfl,by simp,sub_eq (by simp)⟩ ?_
 rintro⟨i,Q,r⟩ ⟨hr0,hI⟩
 simp only at hr0 hI
 have hr:=hI.rlt
 have hle:=hI.le
 have hql:=hI.len
 refine aC ?_
 simp[-binV, -intV]
 refine⟨fun h1=> ?_,fun h1=> ?_⟩
 ·obtain⟨m,rfl⟩: ∃m,i=m+1:=⟨i - 1,by omega⟩
  have hm:m<(lim a).length:=by omega
  have hd:=dQ a m
  obtain⟨z,hz⟩: ∃z,z=r.toNat*1000000000+dg a m:=⟨_,rfl⟩
  have hN:=hI.next (q:=z / b) (r':=z % b) (by rw[hz]) (by rw[hz])
  have e1:((m+1:Nat):Int) - 1=m:=by omega
  have w1:IntKind.i64.wrap (r*1000000000)=r*1000000000:=i64_in (by omega) (by omega)
  have w2:IntKind.i64.wrap (r*1000000000+dg a m)=z:=by rw[i64_in (by omega) (by omega)];omega
  have hz2:z≤9223372036854775807:=by omega
  simp[-binV, -intV,e1,bK _ _ hm,w1,w2]
  clear w1 w2 hz
  have b0: ¬ b=0:=by omega
  have hg':bl g=none:=by simpa using hg
  have w3:=wq (x:=(z:Int)) (n:=b) (by omega) (by omega) (by omega)
  have w4:(z:Int).tdiv b=(z / b:Nat):=by rw[Int.tdiv_eq_ediv_of_nonneg (by omega)];simp
  have w5:(z:Int).tmod b=(z % b:Nat):=by rw[Int.tmod_eq_emod_of_nonneg (by omega)];simp
  rw[w4] at w3
  have w3':IntKind.i64.wrap ((z:Int) / b)=(z:Int) / b:=by simpa using w3
  have q:(iv (List.replicate (m+1) 0++Q))[m]? =some [.int .i64 0]:=by rw[cH _ _ (by simp;omega)];simp
  have w6:IntKind.i64.wrap ((m:Int) - 1)=(m:Int) - 1:=i64_in (by omega) (by omega)
  refine⟨by omega,?_⟩
  simp[-binV, -intV,w3',w4,w5,hm,b0,q,w6]
  rw[aB]
  refine⟨⟨m,((z / b:Nat):Int)::Q,(z % b:Nat)⟩,⟨by simp only;omega,by show nE a b m _ (((z % b:Nat):Int)).toNat;rw[Int.toNat_natCast];exact hN⟩,by simp only;omega,rfl,by simp,sub_eq ?_⟩
  rw[←mS m _ 0 Q,←dP]
  simp
 ·have e:i=0:=by omega
  subst e
  obtain⟨h2,h3⟩:=hI.done
  have h4:r=(a % b:Nat):=by omega
  have hg':bl g=none:=by simpa using hg
  try simp
  refine gK 1 bl _ (by simp[hg']) (jP (ns:=Q) hg0 hg' (by simp) (by simp[hql])) (fB _ hI.dig (by omega)) ?_
  simp[h2,h4]
  exact aN [.sl (iv (lim (a / b))),.int .i64 (a % b:Nat)] 1 (by simp) rfl (by simp)
theorem Dc (a b:Nat) (hab:b≤a) (ha:(lim a).length≤1000000):RO Tryz.prog 289 [.sl (iv (lim a)),.sl (iv (lim b))] (.sl (iv (lim (a - b)))):=by
 refine aI Tryz.func289 rfl rfl (by rw[Tryz.ntmps289];simp) fun bl=> ?_
 rw[Tryz.ntmps289,Tryz.results289]
 refine aC ?_
 simp
 intro g0 hg0 hb0
 refine aK (fun p:Int×ML=> [(0,.sl (iv (lim a))),(1,.sl (iv (lim b))),(5,.lsl p.1 1 0 p.2.i),(6,.int .i64 p.2.br),(10,.sl (iv (lim a))),(11,.int .i64 (lim a).length),(12,.int .i64 p.2.i)]) (fun p=>upd bl p.1 (some ⟨1,iv p.2.o⟩))
  (fun p=>0≤p.1∧bl p.1=none∧fI a b p.2.i p.2.o p.2.br∧p.2.i≤(lim a).length) (fun p=>(lim a).length - p.2.i) _ (g0,⟨0,[],0⟩) ⟨hg0,hb0,fI.start a b,by simp⟩ ⟨rfl,by simp,sub_eq (by simp[iv])⟩ ?_
 rintro⟨g,i,o,br⟩ ⟨hg,hbg,hI,hi⟩
 simp only at hg hbg hI hi
 have hb1:=hI.x
 have hd1:=dQ a i
 have hd2:=dQ b i
 have hc1:=hI.c1
 have hol:=hI.len
 refine aC ?_
 simp
 refine⟨fun h1=> ?_,fun h1=> ?_⟩
 ·have w1:IntKind.i64.wrap ((dg a i:Int) - br)=dg a i - br:=i64_in (by omega) (by omega)
  have w2:IntKind.i64.wrap ((dg a i:Int) - br - dg b i)=dg a i - br - dg b i:=i64_in (by omega) (by omega)
  have w3:IntKind.i64.wrap ((i:Int)+1)=i+1:=i64_in (by omega) (by omega)
  simp[bK _ _ h1,w1]
  refine⟨fun h2=> ?_,fun h2=> ?_⟩
  ·simp[bK _ _ h2,w2]
   refine⟨fun h3=> ?_,fun h3=> ?_⟩
   ·have w4:IntKind.i64.wrap ((dg a i:Int) - br - dg b i+1000000000)=dg a i - br - dg b i+1000000000:=i64_in (by omega) (by omega)
    try simp[w4,w3]
    intro g2 hg2 h2g hb2
    simp[w4,w3,h2g,Ne.symm h2g,appV,elsV,Int.not_lt.2 hg2,hol]
    refine⟨by omega,fun g3 hg3 hb3=> ?_⟩
    have gZ:bl g3=none:=by grind
    try simp[w4,w3]
    rw[aB]
    refine⟨(g3,⟨i+1,o++ [((dg a i:Int) - br - dg b i+1000000000:Int)],1⟩),⟨hg3,gZ,hI.zF (x:=(dg a i:Int) - br - dg b i) rfl (by omega),by simp only;omega⟩,by simp only;omega,rfl,by simp,?_⟩
    rw[eM]
    exact eP (by rw[←hol,eV];simp[iv]) (by simp[hbg,hb2,h2g])
   ·try simp[w3]
    intro g2 hg2 h2g hb2
    simp[w3,h2g,Ne.symm h2g,appV,elsV,Int.not_lt.2 hg2,hol]
    refine⟨by omega,fun g3 hg3 hb3=> ?_⟩
    have gZ:bl g3=none:=by grind
    try simp[w3]
    rw[aB]
    refine⟨(g3,⟨i+1,o++ [((dg a i:Int) - br - dg b i:Int)],0⟩),⟨hg3,gZ,hI.zR (x:=(dg a i:Int) - br - dg b i) rfl (by omega),by simp only;omega⟩,by simp only;omega,rfl,by simp,?_⟩
    rw[eM]
    exact eP (by rw[←hol,eV];simp[iv]) (by simp[hbg,hb2,h2g])
  ·have d0:dg b i=0:=kV (by omega)
   refine⟨fun h3=> ?_,fun h3=> ?_⟩
   ·have w4:IntKind.i64.wrap ((dg a i:Int) - br+1000000000)=dg a i - br+1000000000:=i64_in (by omega) (by omega)
    try simp[w4,w3]
    intro g2 hg2 h2g hb2
    simp[w4,w3,h2g,Ne.symm h2g,appV,elsV,Int.not_lt.2 hg2,hol]
    refine⟨by omega,fun g3 hg3 hb3=> ?_⟩
    have gZ:bl g3=none:=by grind
    try simp[w4,w3]
    rw[aB]
    refine⟨(g3,⟨i+1,o++ [((dg a i:Int) - br+1000000000:Int)],1⟩),⟨hg3,gZ,hI.zF (x:=(dg a i:Int) - br) (by omega) (by omega),by simp only;omega⟩,by simp only;omega,rfl,by simp,?_⟩
    rw[eM]
    exact eP (by rw[←hol,eV];simp[iv]) (by simp[hbg,hb2,h2g])
   ·try simp[w3]
    intro g2 hg2 h2g hb2
    simp[w3,h2g,Ne.symm h2g,appV,elsV,Int.not_lt.2 hg2,hol]
    refine⟨by omega,fun g3 hg3 hb3=> ?_⟩
    have gZ:bl g3=none:=by grind
    try simp[w3]
    rw[aB]
    refine⟨(g3,⟨i+1,o++ [((dg a i:Int) - br:Int)],0⟩),⟨hg3,gZ,hI.zR (x:=(dg a i:Int) - br) (by omega) (by omega),by simp only;omega⟩,by simp only;omega,rfl,by simp,?_⟩
    rw[eM]
    exact eP (by rw[←hol,eV];simp[iv]) (by simp[hbg,hb2,h2g])
 ·have e:i=(lim a).length:=by omega
  subst e
  have hv:=hI.done hab (Nat.le_refl _)
  refine gK 1 bl _ (by simp[hbg]) (jP (ns:=o) hg hbg (by simp) hol) (fB _ hI.dig (by omega)) ?_
  simp[hv]
  exact aM (by simp) rfl rfl
theorem eL (N:Nat) (hN:N≤9223372036854775807):RO Tryz.prog 267 [.int .i64 N] (.sl (iv (lim N))):=by
 have hL:=qH (show N≤18446744073709551615 by omega)
 refine aI Tryz.func267 rfl rfl (by rw[Tryz.ntmps267];simp) fun bl=> ?_
 rw[Tryz.ntmps267,Tryz.results267]
 refine aC ?_
 simp
 intro g0 hg0 hb0
 refine aK (fun p:Int×List Int×Nat=> [(0,.int .i64 p.2.2),(3,.lsl p.1 1 0 p.2.1.length)]) (fun p=>upd bl p.1 (some ⟨1,iv p.2.1⟩)) (fun p=>lim N=p.2.1++lim p.2.2∧p.2.2≤9223372036854775807∧bl p.1=none∧0≤p.1) (fun p=>p.2.2) _ (g0,[],N) ⟨by simp,hN,hb0,hg0⟩ ⟨rfl,by simp,sub_eq (by simp[iv])⟩ ?_
 rintro⟨g,o,n⟩ ⟨hl,hn,hg,h0⟩
 simp only at hl hn hg h0
 have hlo:o.length≤3:=by have:=congrArg List.length hl;simp at this;omega
 refine aC ?_
 simp
 refine⟨fun h=> ?_,fun h=> ?_⟩
 ·have m0:(n:Int).tmod 1000000000=((n % 1000000000:Nat):Int):=by rw[Int.tmod_eq_emod_of_nonneg (by omega)];omega
  have q0:(n:Int).tdiv 1000000000=((n / 1000000000:Nat):Int):=by rw[Int.tdiv_eq_ediv_of_nonneg (by omega)];omega
  have w2:IntKind.i64.wrap ((n:Int) / 1000000000)=(n:Int) / 1000000000:=i64_in (by omega) (by omega)
  intro g2 hg2 h2g hb2
  simp[h2g,Ne.symm h2g,appV,elsV,Int.not_lt.2 hg2,m0,q0,w2]
  refine⟨by omega,fun g3 hg3 hb3=> ?_⟩
  have gZ:bl g3=none:=by grind
  try simp[m0,q0,w2]
  rw[aB]
  refine⟨(g3,o++ [((n % 1000000000:Nat):Int)],n / 1000000000),⟨by rw[hl,O7 h];simp,by simp only;omega,gZ,hg3⟩,by simp only;omega,rfl,by simp,?_⟩
  rw[eM]
  exact eP (by rw[eV];simp[iv,m0]) (by simp[hg,hb2,h2g])
 ·have e:n=0:=by omega
  subst e
  rw[aU,List.append_nil] at hl
  rw[hl]
  exact aN [.lsl g 1 0 o.length] 1 (by simp) (cM h0 hg (by simp) (by simp) (lS o)) (by simp[hg])
theorem F8 (a b:Nat) (ha:a≤9223372036854775807) (hb:b≤9223372036854775807):RO Tryz.prog 285 [.int .i64 a,.int .i64 b] (.sl (iv (lim (Nat.gcd a b)))):=by
 refine aI Tryz.func285 rfl rfl (by rw[Tryz.ntmps285];simp) fun bl=> ?_
 rw[Tryz.ntmps285,Tryz.results285]
 refine aC ?_
 simp
 refine aK (fun p:Nat×Nat=> [(0,.int .i64 p.1),(1,.int .i64 p.2)]) (fun _=>bl) (fun p=>Nat.gcd p.1 p.2=Nat.gcd a b∧p.1≤9223372036854775807∧p.2≤9223372036854775807) (fun p=>p.2) _ (a,b) ⟨rfl,ha,hb⟩ ⟨rfl,by simp,Sub.refl _⟩ ?_
 rintro⟨x,y⟩ ⟨hg,hx,hy⟩
 simp only at hg hx hy
 refine aC ?_
 simp
 refine⟨fun h=> ?_,fun h=> ?_⟩
 ·have hy0: ¬ y=0:=by omega
  have hlt:=Nat.mod_lt x h
  have m0:(x:Int).tmod y=((x % y:Nat):Int):=by rw[Int.tmod_eq_emod_of_nonneg (by omega)];simp
  simp[hy0,m0,aB]
  refine⟨y,x % y,⟨?_,hy,by omega⟩,hlt,rfl,by simp,Sub.refl _⟩
  rw[←hg,Nat.gcd_comm x y,Nat.gcd_rec y x,Nat.gcd_comm]
 ·have h0:y=0:=by omega
  subst h0
  rw[Nat.gcd_zero_right] at hg
  refine aD (eL x hx) ?_
  rw[←hg]
  simp
  exact aM (by simp) rfl rfl
end Go.Proofs.YticmgmemnpcbbaaGreat.Vm
