import Derived.Test.YticmgmemnpcbbaaGreatQCFnReactions3

namespace Go.Proofs.YticmgmemnpcbbaaGreat.Vm
open Go Go.Proofs
set_option linter.unusedSimpArgs false
set_option linter.unusedVariables false
theorem Y1 (ns:List Int): ∀r,r∈iv ns→r.length=1:=by
 intro r hr
 obtain⟨n,_,rfl⟩:=List.mem_map.1 hr
 rfl
theorem Zb (ns:List Int):(iv ns).all (fun r=>r.all V.ow)=true:=by simp[iv,V.ow]
theorem mT (a b:List Int):iv (a++b)=iv a++iv b:=by simp[iv]
theorem wF (ns:List Int):(iv ns).take ns.length=iv ns:=by rw[←gS ns,List.take_length]
theorem jU {bl:Int→Option Blk} {ns:List Int} {v:V} {gs:List Int} :OwnD bl (fl 1 (iv ns)) v gs ↔ (ns= []∧v= .nils∧gs= [])∨ ∃g,v= .lsl g 1 0 ns.length∧gs= [g]∧bl g=some ⟨1,iv ns⟩∧(g<0→ns= []):=by
 rw[uN (lR ns) (Y1 ns)]
 simp[iv]
def cI (js:List J) (n:Nat):List Int:=((List.range n).filter fun i=> !(js.getD i default).fixed).map fun(i:Nat)=>(i:Int)
def aI (js:List J):List Int:=cI js js.length
theorem qM (js:List J) (n:Nat):cI js (n+1)=cI js n++if(js.getD n default).fixed then [] else [(n:Int)]:=by
 unfold cI
 rw[List.range_succ,List.filter_append,List.map_append]
 congr 1
 cases h:(js.getD n default).fixed<;>simp only[List.filter_cons,List.filter_nil,h]<;>simp
theorem oY (js:List J) (n:Nat):(cI js n).length≤n:=by
 unfold cI
 rw[List.length_map]
 exact Nat.le_trans (List.length_filter_le _ _) (by simp)
theorem mZ {α:Type} (xs:List α) (i:Nat) (d:α) (h:i<xs.length):xs.getD i d=xs[i]:=by simp[h]
theorem xU (s:Str) (hj:s.js.length≤1048576):NW Tryz.prog 74 [.ptr s.c] (fl 1 (iv (aI s.js))):=by
 refine jQ Tryz.func74 rfl rfl (by rw[Tryz.ntmps74];simp) fun bl=> ?_
 rw[Tryz.ntmps74,Tryz.results74]
 refine aC ?_
 simp[Str.c]
 refine qU 3 1 (by simp) fun g00 sH=> ?_
 refine aP (fun p:Nat×Int=> [(3,.lsl p.2 1 0 (cI s.js p.1).length),(9,.sl (jv s.js)),(10,.int .i64 s.js.length),(11,.int .i64 p.1)]) (fun p=>upd bl p.2 (some ⟨1,iv (cI s.js p.1)⟩)) (fun p=>p.1≤s.js.length∧bl p.2=none∧(p.2<0→cI s.js p.1= [])) (fun p=>s.js.length - p.1) _ (0,g00) ⟨Nat.zero_le _,sH,fun _=>rfl⟩ ⟨rfl,by simp[cI],sub_eq (by simp[cI,iv])⟩ ?_
 rintro⟨i,g⟩ ⟨hi,hg,h0⟩
 simp only at hi hg h0
 have hl:=oY s.js i
 refine aC ?_
 simp
 refine⟨fun h=> ?_,fun h=> ?_⟩
 ·simp[h,J.c]
  intro g1 hg1 h1g hb1
  refine⟨fun hf=> ?_,fun hf=> ?_⟩
  ·intro g2 hg2 h21 h2g hb2
   simp[h1g,h21,h2g,Ne.symm h1g,Ne.symm h21,Ne.symm h2g,appV,elsV,Int.not_lt.2 hg2]
   refine⟨by omega,fun g3 hg3 hb3=> ?_⟩
   have xH:bl g3=none:=by grind
   simp (disch:=omega) [i64_in,aB]
   have hjf:(s.js.getD i default).fixed=false:=by simpa [h] using hf
   have hs1:cI s.js (i+1)=cI s.js i++ [(i:Int)]:=by rw[qM,hjf];rfl
   refine⟨i+1,g3,⟨by omega,xH,by omega⟩,by omega,rfl,by simp[hs1],?_⟩
   rw[hs1,mT]
   exact lH (by rw[wF];rfl) (by simp[hg,hb1,hb2,h1g,h21,h2g])
  ·simp (disch:=omega) [i64_in,aB]
   have hjf:(s.js.getD i default).fixed=true:=by simpa [h] using hf
   have hs1:cI s.js (i+1)=cI s.js i:=by rw[qM,hjf];simp
   refine⟨i+1,g,⟨by omega,hg,by rw[hs1];exact h0⟩,by omega,rfl,by simp[hs1],?_⟩
   rw[hs1]
   simp[hb1,h1g]
 ·have hi:i=s.js.length:=by omega
  subst hi
  refine fA [.lsl g 1 0 (cI s.js s.js.length).length] [g] (by simp) ?_ (by simpa using hg) (by simp[hg])
  refine jU.2 (.inr ⟨g,rfl,rfl,by simp[aI],h0⟩)
end Go.Proofs.YticmgmemnpcbbaaGreat.Vm

namespace Go.Proofs.YticmgmemnpcbbaaGreat.Vm
open Go Go.RowKit
set_option linter.unusedVariables false
section
variable {P : Program} {ops : Array Oper} {w0 : World} {M F : Nat → Prop} {a : Act} {w : World}
def late (tl:Nat→Bool) (l:Array Bool) (i:Nat):Bool:=tl i || (List.range l.size).any fun k=>tl k && l.getD k false
def DL (P:Program) (ops:Array Oper) (blK:Int→Option Blk) (tl:Nat→Bool) (K:St→Prop):Nat→Array Bool→St→Prop
 | 0, l, σ => Region.ready .any ops l = [] ∧ K σ
 | fuel + 1, l, σ => (Region.ready .any ops l = [] → K σ) ∧ ∀ i ∈ Region.ready .any ops l, D1 P ops i (fun σ' => (late tl l i = false → Sub blK σ'.bl) ∧ DL P ops blK tl K fuel (l.setIfInBounds i true) σ') σ
theorem J5 {blK:Int→Option Blk} {tl:Nat→Bool} {K:St→Prop} {Q:Exit→Act→World→Prop} {F0:Nat→Prop} (hQ: ∀σ F a w,(∀b,F0 b→F b)→Sim w0 M F σ a w→K σ→Q .normal a w):
  ∀(fuel:Nat) (l:Array Bool) (σ:St) (F:Nat→Prop) (a:Act) (w:World),(∀b,F0 b→F b)→DL P ops blK tl K fuel l σ→Sim w0 M F σ a w→wpAny P .any ops Q fuel l a w
 | 0, l, σ, F, a, w, hF, h, hs => ⟨h.1, hQ σ F a w hF hs h.2⟩
 | fuel + 1, l, σ, F, a, w, hF, h, hs => ⟨fun h0 => hQ σ F a w hF hs (h.1 h0), fun i hi => E3 (h.2 i hi) hs fun σ' F' a' w' hF' hs' hk => J5 hQ fuel _ σ' F' a' w' (fun b hb => hF' b (hF b hb)) hk.2 hs'⟩
theorem H5 {id:Nat} {K:Ex→St→Prop} {σ:St} (hm:P.follows .mixedOrders=true) (blK:Int→Option Blk) {tl:Nat→Bool} (h:DL P ops blK tl (K .normal) ops.size (Array.replicate ops.size false) σ):AW P (.region id ops true) K σ:=by
 intro w0 M F a w hs
 refine wp_region_any hm (J5 (F0:=F) (w0:=w0) (M:=M) (fun σ' F' a' w' hF' hs' hK=>⟨.normal,σ',F',rfl,hF',hs',hK⟩) _ _ σ F a _ (fun _ h=>h) h ?_)
 have hsh:dE w { w with drawn:=w.drawn+1 } :=fun b c t f hc=>⟨c,f,hc,rfl⟩
 refine⟨⟨hs.mem.os,hs.mem.tape,hs.mem.output,hs.mem.size,hs.mem.frame,hs.mem.gK,hs.mem.fr,hs.mem.fin,hs.mem.own,fun g b hb=> ?_⟩,hs.size,fun t ht=> ?_,hs.defers⟩
 ·have hh: ∀b,F b→({ w with drawn:=w.drawn+1 } :World).heap[b]? =w.heap[b]? :=fun _ _=>rfl
  have hg:0≤g→({ w with drawn:=w.drawn+1 } :World).heap[g.toNat]? =w.heap[g.toNat]? :=fun _=>rfl
  refine bU.mono (fun _ h=>h) (fun h0 hFg=> ?_) hh hsh hg (hs.mem.blk g b hb)
  have:=hs.mem.blk g b hb
  unfold bU at this
  rw[if_neg (by omega)] at this
  exact this.1 hFg
 ·have hh: ∀b,F b→({ w with drawn:=w.drawn+1 } :World).heap[b]? =w.heap[b]? :=fun _ _=>rfl
  exact Rep.mono (fun _ h=>h) hh hsh (hs.sl t ht)
theorem E1 {blK:Int→Option Blk} {tl:Nat→Bool} {K:St→Prop} {i:Nat} {oi:Oper} {v:V} (hi:ops[i]? =some oi) (hti:tl i=false) (hT: ∀j oj,tl j=true→ops[j]? =some oj→ ∃e∈oj.after,Region.binds .any e=true∧e.on=i): ∀(fuel:Nat) (l:Array Bool) (σ:St),
  (∀j oj,ops[j]? =some oj→j≠i→l.getD j true=false→(∀e∈oj.after,Region.binds .any e=true→e.on≠i)→oi.apart ops oj=true)→(∀k,tl k=true→l.getD k false=false)→
  i∈Region.ready .any ops l→Sub blK σ.bl→DY P ops blK oi σ v→DL P ops blK tl K fuel (l.setIfInBounds i true) (σ.put oi.dst v)→DL P ops blK tl K (fuel+1) l σ:=by
 have hbl: ∀(σ:St),(σ.put oi.dst v).bl=σ.bl:=fun σ=>by cases oi.dst<;>rfl
 intro fuel
 induction fuel with
 | zero =>
   intro l σ _ hN hr hs hy H
   refine⟨fun h=>(by rw[h] at hr;cases hr),fun j hj=> ?_⟩
   by_cases hji:j=i
   ·subst hji;exact hy.step hi hs ⟨fun _=>by rw[hbl];exact hs,H⟩
   ·have:=ready_mono hj hji
    rw[H.1] at this
    cases this
 | succ fuel ih =>
   intro l σ sS hN hr hs hy H
   refine⟨fun h=>(by rw[h] at hr;cases hr),fun j hj=> ?_⟩
   by_cases hji:j=i
   ·subst hji;exact hy.step hi hs ⟨fun _=>by rw[hbl];exact hs,H⟩
   ·have h1:=H.2 j (ready_mono hj hji)
    obtain⟨C5,oj,hoj,dI⟩:=mem_ready.1 hj
    have S1: ∀e∈oj.after,Region.binds .any e=true→e.on≠i:=fun e he hb heq=>by
     have h1:=dI e he hb
     have h0:=(mem_ready.1 hr).1
     rw[heq] at h1
     rcases Nat.lt_or_ge i l.size with h' | h'
     ·simp[h'] at h0 h1;rw[h0] at h1;cases h1
     ·simp[Array.getElem?_eq_none h'] at h1
    have h2:=DY.put hoj (sS j oj hoj hji C5 S1) hy h1
    have vT: ∀k ok,ops[k]? =some ok→k≠i→(l.setIfInBounds j true).getD k true=false→
      (∀e∈ok.after,Region.binds .any e=true→e.on≠i)→oi.apart ops ok=true:=fun k ok hk hki hun hno=>by
     refine sS k ok hk hki ?_ hno
     by_cases hjk:j=k
     ·subst hjk;exact C5
     ·rw[getD_set_ne true hjk] at hun;exact hun
    refine B9 h2 fun σ' ⟨h3,h4,h5⟩=> ?_
    have htj:tl j=false:=by
     cases htl:tl j with
     | false => rfl
     | true =>
       obtain⟨e,he,hb,hon⟩:=hT j oj htl hoj
       exact absurd hon (S1 e he hb)
    have aEU:late tl (l.setIfInBounds i true) j=false:=by
     unfold late
     rw[htj,Bool.false_or,List.any_eq_false]
     intro k _ hk
     simp only[Bool.and_eq_true] at hk
     by_cases hki:i=k
     ·subst hki;rw[hti] at hk;cases hk.1
     ·rw[getD_set_ne false hki,hN k hk.1] at hk;cases hk.2
    have hN': ∀k,tl k=true→(l.setIfInBounds j true).getD k false=false:=fun k hk=>by
     by_cases hkj:j=k
     ·subst hkj;rw[htj] at hk;cases hk
     ·rw[getD_set_ne false hkj];exact hN k hk
    have h4:=h4 aEU
    rw[hbl] at h4
    refine⟨fun _=>h4,ih (l.setIfInBounds j true) σ' vT hN' (ready_mono hr (Ne.symm hji)) h4 h3 ?_⟩
    rw[Array.setIfInBounds_comm _ _ hji]
    exact h5
theorem L4 {blK:Int→Option Blk} {tl:Nat→Bool} {K:St→Prop} (fuel:Nat): ∀(is:List Nat) (l:Array Bool) (σ:St),(∀i,i∈is→tl i=false)→(∀k,tl k=true→l.getD k false=false)→(∀i,i∈is→ ∀j oj,tl j=true→ops[j]? =some oj→ ∃e∈oj.after,Region.binds .any e=true∧e.on=i)→hoistB ops is l=true→Sub blK σ.bl→
  Hoist P ops blK is (DL P ops blK tl K fuel (fQ is l)) σ→DL P ops blK tl K (fuel+is.length) l σ
 | [], l, σ, _, _, _, _, _, h => h
 | i :: is, l, σ, hI, hN, hT, hB, hs, h => by
   simp only[hoistB,Bool.and_eq_true] at hB
   obtain⟨⟨hr,hf⟩,hB'⟩:=hB
   unfold Hoist at h
   split at h
   ·rename_i o ho
    obtain⟨v,hy,hK⟩:=h
    have:fuel+(i::is).length=(fuel+is.length)+1:=by simp;omega
    rw[this]
    refine E1 ho (hI i List.mem_cons_self) (hT i List.mem_cons_self) _ _ _ (Region.free_spec ho hf) hN (by simpa using hr) hs hy (L4 fuel is _ _ (fun i hi=>hI i (List.mem_cons_of_mem _ hi)) (fun k hk=> ?_) (fun i hi=>hT i (List.mem_cons_of_mem _ hi)) hB' ?_ hK)
    ·by_cases hki:i=k
     ·subst hki;rw[hI i List.mem_cons_self] at hk;cases hk
     ·rw[getD_set_ne false hki];exact hN k hk
    cases o.dst<;>exact hs
   ·exact h.elim
end
theorem Av {P:Program} {id:Nat} {ops:Array Oper} {K:Ex→St→Prop} {σ:St} (hm:P.follows .mixedOrders=true) (blK:Int→Option Blk) (hs:Sub blK σ.bl) (is:List Nat) (fuel n:Nat) (hn:(ops.size==fuel+is.length && is.all (fun i=>decide (i<ops.size))&& hoistB ops is (Array.replicate ops.size false)&& zB ops (fun j=>decide (n≤j)) is && is.all (fun i=>decide (i<n)))=true)
  (h:HoistF P (ops.toList.map (·.dst)) blK (is.filterMap fun i=>ops[i]?) (DL P ops blK (fun j=>decide (n≤j)) (K .normal) fuel (fQ is (Array.replicate ops.size false))) σ):AW P (.region id ops true) K σ:=by
 simp only[Bool.and_eq_true,beq_iff_eq] at hn
 refine H5 hm blK (tl:=fun j=>decide (n≤j)) ?_
 have:=L4 (P:=P) (ops:=ops) (blK:=blK) (tl:=fun j=>decide (n≤j)) (K:=K .normal) fuel is (Array.replicate ops.size false) σ
  (fun i hi=>by have:=List.all_eq_true.1 hn.2 i hi;simp at this ⊢;exact this) (fun k _=>by
    rw[Array.getD_eq_getD_getElem?,Array.getElem?_replicate];split<;>rfl) (jG hn.1.2) hn.1.1.2 hs (iL _ is σ (filter_some is hn.1.1.1.2) h)
 rw[←hn.1.1.1.1] at this
 exact this
section
variable {P : Program} {ops : Array Oper} {blK : Int → Option Blk} {tl : Nat → Bool} {K : St → Prop} {fuel : Nat} {l : Array Bool} {σ : St}
theorem Kv (hr:Region.ready .any ops l= []) (h:K σ):DL P ops blK tl K fuel l σ:=by
 cases fuel with
 | zero => exact ⟨hr, h⟩
 | succ n => exact ⟨fun _ => h, fun i hi => by rw [hr] at hi; cases hi⟩
theorem yJ {i:Nat} {o:Oper} {e:Bool} (ho:ops[i]? =some o) (hg:o.guard=none) (he:late tl l i=e) (h:T P o (fun σ'=>(e=false→Sub blK σ'.bl)∧DL P ops blK tl K fuel (l.setIfInBounds i true) σ') σ):
  D1 P ops i (fun σ'=>(late tl l i=false→Sub blK σ'.bl)∧DL P ops blK tl K fuel (l.setIfInBounds i true) σ') σ:=by
 subst he;unfold D1;rw[ho];simp only[hg];exact h
theorem Pj {i:Nat} {o:Oper} (e:Bool) (hr:Region.ready .any ops l= [i]) (ho:ops[i]? =some o) (hg:o.guard=none) (he:late tl l i=e) (h:T P o (fun σ'=>(e=false→Sub blK σ'.bl)∧DL P ops blK tl K fuel (l.setIfInBounds i true) σ') σ):DL P ops blK tl K (fuel+1) l σ:=by
 refine⟨fun h0=>(by rw[hr] at h0;cases h0),fun k hk=> ?_⟩
 rw[hr] at hk
 obtain rfl:k=i:=by simpa using hk
 exact yJ ho hg he h
theorem Rc {i j:Nat} {o p:Oper} (e f:Bool) (hr:Region.ready .any ops l= [i,j]) (ho:ops[i]? =some o) (hg:o.guard=none) (he:late tl l i=e) (ho':ops[j]? =some p) (hg':p.guard=none) (he':late tl l j=f)
  (h:T P o (fun σ'=>(e=false→Sub blK σ'.bl)∧DL P ops blK tl K fuel (l.setIfInBounds i true) σ') σ)
  (h':T P p (fun σ'=>(f=false→Sub blK σ'.bl)∧DL P ops blK tl K fuel (l.setIfInBounds j true) σ') σ):DL P ops blK tl K (fuel+1) l σ:=by
 refine⟨fun h0=>(by rw[hr] at h0;cases h0),fun k hk=> ?_⟩
 rw[hr] at hk
 rcases List.mem_cons.1 hk with rfl | hk
 ·exact yJ ho hg he h
 ·obtain rfl:k=j:=by simpa using hk
  exact yJ ho' hg' he' h'
theorem uX {i j m:Nat} {o p q:Oper} (e f g:Bool) (hr:Region.ready .any ops l= [i,j,m]) (ho:ops[i]? =some o) (hg:o.guard=none) (he:late tl l i=e) (ho':ops[j]? =some p) (hg':p.guard=none) (he':late tl l j=f) (ho2:ops[m]? =some q) (hg2:q.guard=none) (he2:late tl l m=g)
  (h:T P o (fun σ'=>(e=false→Sub blK σ'.bl)∧DL P ops blK tl K fuel (l.setIfInBounds i true) σ') σ)
  (h':T P p (fun σ'=>(f=false→Sub blK σ'.bl)∧DL P ops blK tl K fuel (l.setIfInBounds j true) σ') σ)
  (h2:T P q (fun σ'=>(g=false→Sub blK σ'.bl)∧DL P ops blK tl K fuel (l.setIfInBounds m true) σ') σ):DL P ops blK tl K (fuel+1) l σ:=by
 refine⟨fun h0=>(by rw[hr] at h0;cases h0),fun k hk=> ?_⟩
 rw[hr] at hk
 rcases List.mem_cons.1 hk with rfl | hk
 ·exact yJ ho hg he h
 ·rcases List.mem_cons.1 hk with rfl | hk
  ·exact yJ ho' hg' he' h'
  ·obtain rfl:k=m:=by simpa using hk
   exact yJ ho2 hg2 he2 h2
end
def Ka (P:Program) (y:Code) (K:Ex→St→Prop) (e:Ex) (σ:St):Prop:=match e with | .normal=>AW P y K σ | .exit i=>K (.exit i) σ | .ret=>K .ret σ
@[simp] theorem Ng (P : Program) (y : Code) (K : Ex → St → Prop) (σ : St) : Ka P y K .normal σ = AW P y K σ := rfl
@[simp] theorem Uy (P : Program) (y : Code) (K : Ex → St → Prop) (i : Nat) (σ : St) : Ka P y K (.exit i) σ = K (.exit i) σ := rfl
@[simp] theorem aBI (P : Program) (y : Code) (K : Ex → St → Prop) (σ : St) : Ka P y K .ret σ = K .ret σ := rfl
theorem aE {P:Program} {x y:Code} {K:Ex→St→Prop} {σ:St} (h:runC P x (Ka P y K) σ):AW P (.seq x y) K σ:=by
 refine cE ((aC h).mono fun e σ' h'=> ?_)
 cases e with
 | normal => exact h'
 | exit i => exact h'
 | ret => exact h'
def Rz {α:Type} (S:α→List (Nat×V)) (B:α→Int→Option Blk) (I:α→Prop) (n:Nat) (e:Ex) (σ:St):Prop:=e= .normal∧ ∃a,I a∧Fit (S a) n (B a) σ
theorem aF {α:Type} (S:α→List (Nat×V)) (B:α→Int→Option Blk) (I:α→Prop) (n:Nat) (σ:St):Rz S B I n .normal σ= ∃a,I a∧Fit (S a) n (B a) σ:=by simp[Rz]
theorem lW {α:Type} {P:Program} {x y:Code} {K:Ex→St→Prop} {σ:St} (S:α→List (Nat×V)) (B:α→Int→Option Blk) (I:α→Prop) (n:Nat) (h1:AW P x (Rz S B I n) σ)
  (h2: ∀a,I a→AW P y K ⟨n,hv (S a),B a⟩):AW P (.seq x y) K σ:=by
 refine cE (h1.mono fun e σ' ⟨he,a,hI,hf⟩=> ?_)
 subst he
 exact gG _ _ _ hf (h2 a hI)
section
variable (P : Program) (ds : List (Option Tmp)) (blK : Int → Option Blk) (rest : List Oper) (K : St → Prop) (σ : St) (d : Option Tmp) (ty : TypeId) (pos : String) (af : Array Edge)
@[simp high] theorem Iw (f : Operand) (args : Array Operand) (ats : Array TypeId) : HoistF P ds blK (⟨d, .call ⟨.value f, args, ats⟩, ty, pos, af, none⟩ :: rest) K σ = hcQ P ds blK rest K σ d (callV σ f args.toList) := (rfl)
@[simp high] theorem Jt (x : Operand) (t : TypeId) : HoistF P ds blK (⟨d, .call ⟨.builtin .len, #[x], #[t]⟩, ty, pos, af, none⟩ :: rest) K σ = hoQ P ds blK rest K σ d (lenV P t (σ.ev x)) := (rfl)
@[simp high] theorem Ix (c a b : Operand) : HoistF P ds blK (⟨d, .pick c a b, ty, pos, af, none⟩ :: rest) K σ = hoQ P ds blK rest K σ d (qval P blK σ (.pick c a b)) := (rfl)
@[simp high] theorem Ja (t : TypeId) (x : Operand) : HoistF P ds blK (⟨d, .load t x, ty, pos, af, none⟩ :: rest) K σ = hoQ P ds blK rest K σ d (qval P blK σ (.load t x)) := (rfl)
@[simp high] theorem U4 (x : Operand) : HoistF P ds blK (⟨d, .nilCheck x, ty, pos, af, none⟩ :: rest) K σ = hoQ P ds blK rest K σ d (T1 (σ.ev x)) := (rfl)
@[simp high] theorem Ek (op : BinOp) (t : TypeId) (x y : Operand) (t' : TypeId) : HoistF P ds blK (⟨d, .binOp op t x y t', ty, pos, af, none⟩ :: rest) K σ = hoQ P ds blK rest K σ d (binV P op t (σ.ev x) (σ.ev y)) := (rfl)
@[simp high] theorem Iz (op : UnOp) (t : TypeId) (x : Operand) : HoistF P ds blK (⟨d, .unOp op t x, ty, pos, af, none⟩ :: rest) K σ = hoQ P ds blK rest K σ d (unV op (σ.ev x)) := (rfl)
@[simp high] theorem Bt (s t : TypeId) (x : Operand) : HoistF P ds blK (⟨d, .convert s t x, ty, pos, af, none⟩ :: rest) K σ = hoQ P ds blK rest K σ d (cvtV P blK s t (σ.ev x)) := (rfl)
@[simp high] theorem Gr (t : TypeId) (x : Operand) (lo hi : Option Operand) : HoistF P ds blK (⟨d, .slice t x lo hi none, ty, pos, af, none⟩ :: rest) K σ = hoQ P ds blK rest K σ d (sliV P t (σ.ev x) (lo.map σ.ev) (hi.map σ.ev)) := (rfl)
@[simp high] theorem N8 (t : TypeId) (x : Operand) (i : Nat) : HoistF P ds blK (⟨d, .fieldAddr t x i, ty, pos, af, none⟩ :: rest) K σ = hoQ P ds blK rest K σ d (fldV P t i (σ.ev x)) := (rfl)
@[simp high] theorem Gh (t : TypeId) (x : Operand) (i : Nat) : HoistF P ds blK (⟨d, .field t x i, ty, pos, af, none⟩ :: rest) K σ = hoQ P ds blK rest K σ d (fieldV P t i (σ.ev x)) := (rfl)
@[simp high] theorem T7 (t : TypeId) (x i : Operand) : HoistF P ds blK (⟨d, .indexAddr t x i, ty, pos, af, none⟩ :: rest) K σ = hoQ P ds blK rest K σ d (idxV P t (σ.ev x) (σ.ev i)) := (rfl)
@[simp high] theorem Gw (t : TypeId) (x i : Operand) : HoistF P ds blK (⟨d, .index t x i, ty, pos, af, none⟩ :: rest) K σ = hoQ P ds blK rest K σ d (idsV P t (σ.ev x) (σ.ev i)) := (rfl)
@[simp high] theorem An (x : Operand) (i : Nat) : HoistF P ds blK (⟨d, .extract x i, ty, pos, af, none⟩ :: rest) K σ = hoQ P ds blK rest K σ d (extV i (σ.ev x)) := (rfl)
end
def hgQ (P:Program) (ds:List (Option Tmp)) (blK:Int→Option Blk) (rest:List Oper) (K:St→Prop) (σ:St) (d:Option Tmp) (op:Op) (b:Bool) (v:V):Prop:=match v with
 | .bool q => if q = b then aU (qval P blK σ op) fun v => HoistF P ds blK rest K (σ.put d v) else HoistF P ds blK rest K (σ.put d (.tup []))
 | .tup [] => HoistF P ds blK rest K (σ.put d (.tup []))
 | _ => False
def hgS (P:Program) (ds:List (Option Tmp)) (blK:Int→Option Blk) (rest:List Oper) (K:St→Prop) (σ:St) (d:Option Tmp) (op:Op) (b:Bool) (x:Option (Option Tmp)):Prop:=match x with
 | some (some t) => hgQ P ds blK rest K σ d op b (σ.ev (.tmp t))
 | _ => False
section
variable (P : Program) (ds : List (Option Tmp)) (blK : Int → Option Blk) (rest : List Oper) (K : St → Prop) (σ : St) (d : Option Tmp) (op : Op) (ty : TypeId) (pos : String) (af : Array Edge) (b : Bool)
@[simp] theorem Km (j : Nat) : HoistF P ds blK (⟨d, op, ty, pos, af, some (j, b)⟩ :: rest) K σ = hgS P ds blK rest K σ d op b (ds[j]?) := (rfl)
@[simp] theorem aBP (t : Tmp) : hgS P ds blK rest K σ d op b (some (some t)) = hgQ P ds blK rest K σ d op b (σ.ev (.tmp t)) := (rfl)
@[simp] theorem aJQ : hgQ P ds blK rest K σ d op true (.bool true) = hoQ P ds blK rest K σ d (qval P blK σ op) := by simp [hgQ, hoQ]
@[simp] theorem aKU : hgQ P ds blK rest K σ d op false (.bool false) = hoQ P ds blK rest K σ d (qval P blK σ op) := by simp [hgQ, hoQ]
@[simp] theorem aIL : hgQ P ds blK rest K σ d op true (.bool false) = HoistF P ds blK rest K (σ.put d (.tup [])) := by simp [hgQ]
@[simp] theorem aJ1 : hgQ P ds blK rest K σ d op false (.bool true) = HoistF P ds blK rest K (σ.put d (.tup [])) := by simp [hgQ]
@[simp] theorem aDO : hgQ P ds blK rest K σ d op b (.tup []) = HoistF P ds blK rest K (σ.put d (.tup [])) := (rfl)
end
theorem rC {P:Program} {ds:List (Option Tmp)} {blK:Int→Option Blk} {K:St→Prop} (S:List (Option Tmp)) (σ0:St): ∀(l:List Oper) (σ:St),HoistF P ds blK l K σ→(∀o,o∈l→o.dst∈S)→(σ.n=σ0.n∧ ∀t,some t∉S→σ.sl t=σ0.sl t)→
  HoistF P ds blK l (fun σ'=>K σ'∧σ'.n=σ0.n∧ ∀t,some t∉S→σ'.sl t=σ0.sl t) σ
 | [], σ, h, _, h0 => ⟨h, h0⟩
 | o :: rest, σ, h, hS, h0 => by
   have next: ∀v,HoistF P ds blK rest K (σ.put o.dst v)→HoistF P ds blK rest (fun σ'=>K σ'∧σ'.n=σ0.n∧ ∀t,some t∉S→σ'.sl t=σ0.sl t) (σ.put o.dst v):=fun v hv=>
    rC S σ0 rest _ hv (fun o' ho'=>hS o' (List.mem_cons_of_mem _ ho')) (by
     have hd:=hS o List.mem_cons_self
     cases hod:o.dst with
     | none => exact h0
     | some d =>
       rw[hod] at hd
       exact⟨h0.1,fun t ht=>by
        show upd σ.sl d v t=_
        rw[aL _ _ _ _ (fun e=>ht (by rw[e];exact hd))];exact h0.2 t ht⟩)
   unfold HoistF at h ⊢
   cases hg:o.guard with
   | none=>
     simp only[hg] at h ⊢
     split at h
     ·obtain⟨p,h1,v,n,ys,h2,h3⟩:=h
      exact⟨p,h1,v,n,ys,h2,next v h3⟩
     ·obtain⟨v,h1,h2⟩:=h
      exact⟨v,h1,next v h2⟩
   | some jb=>
     obtain⟨j,b⟩:=jb
     simp only[hg] at h ⊢
     split at h
     ·rename_i d hd
      split at h
      ·split at h
       ·rename_i hq
        obtain⟨v,h1,h2⟩:=h
        rw[if_pos hq]
        exact⟨v,h1,next v h2⟩
       ·rename_i hq
        rw[if_neg hq]
        exact next _ h
      ·exact next _ h
      ·exact h.elim
     ·exact h.elim
theorem My {f:Nat→V} : ∀(l:List (Nat×V)),(∀p,p∈l→f p.1=p.2)→ ∀p,p∈l→hv l p.1=f p.1
 | [], _, p, hp => by cases hp
 | (u, y) :: r, h, p, hp => by
   unfold hv
   by_cases e:p.1=u
   ·rw[if_pos e,e];exact(h (u,y) List.mem_cons_self).symm
   ·rw[if_neg e]
    rcases List.mem_cons.1 hp with rfl | hp
    ·exact absurd rfl e
    ·exact My r (fun q hq=>h q (List.mem_cons_of_mem _ hq)) p hp
theorem X0 {P:Program} {id:Nat} {ops:Array Oper} {K:Ex→St→Prop} {σ:St} (hm:P.follows .mixedOrders=true) (hB:P3 ops=true) (l:List (Nat×V)) (n:Nat) (bl:Int→Option Blk) (t:Nat) (v:V) (hf:Fit l n bl σ) (hd:(l.all fun p=> !(ops.toList.map (·.dst)).contains (some p.1))=true)
  (h1:HoistF P (ops.toList.map (·.dst)) bl ops.toList (fun σ'=>σ'.sl t=v∧σ'.bl=bl) ⟨n,hv l,bl⟩) (h2:K .normal ⟨n,hv ((t,v)::l),bl⟩):AW P (.region id ops true) K σ:=by
 refine gG l n bl hf ?_
 have hq:AW P (.region id ops true) (fun e σ'=>e= .normal∧(σ'.sl t=v∧σ'.bl=bl)∧σ'.n=n∧ ∀u,some u∉ops.toList.map (·.dst)→σ'.sl u=hv l u) ⟨n,hv l,bl⟩:=by
  refine bI hm hB ?_
  have:=rC (ops.toList.map (·.dst)) ⟨n,hv l,bl⟩ ops.toList ⟨n,hv l,bl⟩ h1 (fun o ho=>List.mem_map_of_mem ho) ⟨rfl,fun _ _=>rfl⟩
  simpa using this
 intro w0 M F a w hs
 refine wp_mono (hq w0 M F a w hs) fun e a' w' hp=> ?_
 obtain⟨ex,σ',F',e1,e2,e3,rfl,⟨k1,k2⟩,k3,k4⟩:=hp
 refine⟨.normal,⟨n,hv ((t,v)::l),bl⟩,F',e1,e2,e3.le ?_,h2⟩
 refine V5 ⟨k3,fun p hp=> ?_,by rw[k2];exact Sub.refl _⟩
 rcases List.mem_cons.1 hp with rfl | hp
 ·exact k1
 ·have:=List.all_eq_true.1 hd p hp
  have h5:some p.1∉ops.toList.map (·.dst):=by
   intro hc
   rw[Bool.not_eq_true'] at this
   have h6:=List.contains_iff_mem.2 hc
   rw[this] at h6;cases h6
  rw[k4 _ h5,My l hf.2.1 p hp,hf.2.1 p hp]
theorem N7 {P:Program} {f:FuncId} {xs ys:List V} {bl bl2:Int→Option Blk} {k:V→(Int→Option Blk)→Prop} (n:Nat) (hs:Sub bl2 bl) (hx:frzL (dropB bl bl2) n xs=some ys) (h:bN P f ys bl2 k):bN P f xs bl k:=by
 refine⟨h.1,fun w0 M F w vs hm bJ=> ?_⟩
 have hlen:=qK hx
 have vQ:De (fun k=>F k∨Own (dropB bl bl2) k) w ys vs:=by
  refine⟨by rw[bJ.1,hlen.1],fun i y hy=> ?_⟩
  obtain⟨x,h1,h2⟩:=hlen.2 i y hy
  exact jZ (fun g b hb=>sA hm g b hb) (fun g b hb h0=> .inr ⟨g,b,hb,h0,rfl⟩) (fun b hb=> .inl hb) n x y _ (bJ.2 i x h1) h2
 exact(h.2 w0 M _ w vs (hm.freeze hs) vQ).mono fun e w' ⟨v,r,bl',F',h1,h2,h3,h4,h5,h6,h7⟩=>⟨v,r,bl',F',h1,fun b hb=>h2 b (.inl hb),fun b hb=>h3 b (.inl hb),h4,h5,h6,h7⟩
theorem sG {P:Program} {f:FuncId} {xs:List V} {bl:Int→Option Blk} {r:V} {k:V→(Int→Option Blk)→Prop} (n:Nat) (bl2:Int→Option Blk) (ys:List V) (hs:Sub bl2 bl) (hx:frzL (dropB bl bl2) n xs=some ys) (h:RO P f ys r) (hk:k r bl2):bN P f xs bl k:=
 N7 n hs hx (aD h hk)
theorem bS {P:Program} {id:Nat} {ops:Array Oper} {K:Ex→St→Prop} {σ:St} (hm:P.follows .mixedOrders=true) (blK:Int→Option Blk) (hs:Sub blK σ.bl) (is:List Nat) (fuel:Nat) (hn:(ops.size==fuel+is.length && is.all (fun i=>decide (i<ops.size))&& hoistB ops is (Array.replicate ops.size false))=true)
  (h:HoistF P (ops.toList.map (·.dst)) blK (is.filterMap fun i=>ops[i]?) (iM P ops blK (fun _=>false) (K .normal) fuel (fQ is (Array.replicate ops.size false))) σ):AW P (.region id ops true) K σ:=by
 simp only[Bool.and_eq_true,beq_iff_eq] at hn
 exact iG hm is fuel blK hs hn.1.1 hn.2 (tl:=fun _=>false) (fun _ _ _ _ h=>by cases h) (iL _ is σ (filter_some is hn.1.2) h)
section
variable {P : Program} {ops : Array Oper} {blK : Int → Option Blk} {tl : Nat → Bool} {K : St → Prop} {fuel : Nat} {l : Array Bool} {σ : St}
theorem Dq (i:Nat) {o:Oper} (e:Bool) (h:T P o (fun σ'=>(e=false→Sub blK σ'.bl)∧DL P ops blK tl K fuel (l.setIfInBounds i true) σ') σ) (hr:Region.ready .any ops l= [i]:=by kernel_rfl) (ho:ops[i]? =some o:=by exact rfl) (hg:o.guard=none:=by exact rfl) (he:late tl l i=e:=by kernel_rfl):DL P ops blK tl K (fuel+1) l σ:=Pj e hr ho hg he h
end
section
variable {P : Program} {ops : Array Oper} {blK : Int → Option Blk} {tl : Nat → Bool} {K : St → Prop} {fuel : Nat} {l : Array Bool} {σ : St}
theorem Dw (i j:Nat) {o p:Oper} (e f:Bool) (h:T P o (fun σ'=>(e=false→Sub blK σ'.bl)∧DL P ops blK tl K fuel (l.setIfInBounds i true) σ') σ) (h':T P p (fun σ'=>(f=false→Sub blK σ'.bl)∧DL P ops blK tl K fuel (l.setIfInBounds j true) σ') σ) (hr:Region.ready .any ops l= [i,j]:=by kernel_rfl) (ho:ops[i]? =some o:=by exact rfl) (hg:o.guard=none:=by exact rfl) (he:late tl l i=e:=by kernel_rfl) (ho':ops[j]? =some p:=by exact rfl) (hg':p.guard=none:=by exact rfl) (he':late tl l j=f:=by kernel_rfl):DL P ops blK tl K (fuel+1) l σ:=Rc e f hr ho hg he ho' hg' he' h h'
end
section
variable {P : Program} {ops : Array Oper} {blK : Int → Option Blk} {tl : Nat → Bool} {K : St → Prop} {fuel : Nat} {l : Array Bool} {σ : St}
theorem Dd (h:K σ) (hr:Region.ready .any ops l= []:=by kernel_rfl):DL P ops blK tl K fuel l σ:=Kv hr h
end
end Go.Proofs.YticmgmemnpcbbaaGreat.Vm

namespace Go.Proofs.YticmgmemnpcbbaaGreat.Vm
open Go Go.Proofs
set_option linter.unusedSimpArgs false
set_option linter.unusedVariables false
theorem eE (a i:Nat) (h:i<(lim a).length):(iv (lim a))[i]? =some [.int .i64 (dg a i:Nat)]:=by rw[fR _ _ h,fZ h]
theorem rZ (a b:Int):(a==b)=decide (a=b):=by rw[Bool.eq_iff_iff];simp
theorem Jb (ns:List Int):(iv ns).all (fun c=>1==c.length)=true:=by simp[iv]
theorem B2 (ns:List Int) (n:Nat):(iv ns).take n=iv (ns.take n):=by simp[iv,List.map_take]
@[simp high] theorem Xd (P : Program) (t : TypeId) (a b : Int) : binV P .add t (.int .i64 a) (.int .i64 b) = some (.int .i64 (IntKind.i64.wrap (a + b))) := (rfl)
@[simp high] theorem Wy (P : Program) (t : TypeId) (a b : Int) : binV P .sub t (.int .i64 a) (.int .i64 b) = some (.int .i64 (IntKind.i64.wrap (a - b))) := (rfl)
@[simp high] theorem Yc (P : Program) (t : TypeId) (a b : Int) : binV P .mul t (.int .i64 a) (.int .i64 b) = some (.int .i64 (IntKind.i64.wrap (a * b))) := (rfl)
@[simp high] theorem Ux (P : Program) (t : TypeId) (a b : Int) : binV P .quo t (.int .i64 a) (.int .i64 b) = if b = 0 then none else some (.int .i64 (IntKind.i64.wrap (a.tdiv b))) := (rfl)
@[simp high] theorem Yl (P : Program) (t : TypeId) (a b : Int) : binV P .rem t (.int .i64 a) (.int .i64 b) = if b = 0 then none else some (.int .i64 (a.tmod b)) := (rfl)
@[simp high] theorem Yq (P : Program) (t : TypeId) (a b : Int) : binV P .eql t (.int .i64 a) (.int .i64 b) = some (.bool (a == b)) := (rfl)
@[simp high] theorem Vv (P : Program) (t : TypeId) (a b : Int) : binV P .neq t (.int .i64 a) (.int .i64 b) = some (.bool (a != b)) := (rfl)
@[simp high] theorem Wx (P : Program) (t : TypeId) (a b : Int) : binV P .lss t (.int .i64 a) (.int .i64 b) = some (.bool (decide (a < b))) := (rfl)
@[simp high] theorem Yp (P : Program) (t : TypeId) (a b : Int) : binV P .leq t (.int .i64 a) (.int .i64 b) = some (.bool (decide (a ≤ b))) := (rfl)
@[simp high] theorem Vu (P : Program) (t : TypeId) (a b : Int) : binV P .gtr t (.int .i64 a) (.int .i64 b) = some (.bool (decide (b < a))) := (rfl)
@[simp high] theorem Vj (P : Program) (t : TypeId) (a b : Int) : binV P .geq t (.int .i64 a) (.int .i64 b) = some (.bool (decide (b ≤ a))) := (rfl)
theorem iD (a b:Nat) (ha:(lim a).length≤1048576) (hb:(lim b).length≤1048576):RO Tryz.prog 100 [.sl (iv (lim a)),.sl (iv (lim b))] (.int .i64 (iW a b)):=by
 refine aK Tryz.func100 rfl rfl (by rw[Tryz.ntmps100];simp) fun bl=> ?_
 rw[Tryz.ntmps100,Tryz.results100]
 refine aC ?_
 simp
 refine⟨fun h=>⟨fun h1=> ?_,fun h1=> ?_⟩,fun h=> ?_⟩
 ·exact aR (by simp[R8 h1]) rfl rfl
 ·exact aR (by simp[Q5 (show(lim b).length<(lim a).length by omega)]) rfl rfl
 have h:(lim a).length=(lim b).length:=by omega
 have w0:IntKind.i64.wrap (((lim a).length:Int) - 1)=((lim a).length:Int) - 1:=i64_in (by omega) (by omega)
 simp[w0]
 refine aP (fun k:Nat=> [(0,.sl (iv (lim a))),(1,.sl (iv (lim b))),(5,.int .i64 ((k:Int) - 1))]) (fun _=>bl) (fun k=>k≤(lim a).length∧ ∀j,k≤j→dg a j=dg b j) (fun k=>k) _ (lim a).length ⟨Nat.le_refl _,fun j hj=>by rw[vH hj,vH (by omega)]⟩ ⟨rfl,by simp,Sub.refl _⟩ ?_
 intro k ⟨hk,hc⟩
 refine aC ?_
 simp
 refine⟨fun h1=> ?_,fun h1=> ?_⟩
 ·obtain⟨m,rfl⟩: ∃m,k=m+1:=⟨k - 1,by omega⟩
  have hm:m<(lim a).length:=by omega
  have hm2:m<(lim b).length:=by omega
  have e1:((m+1:Nat):Int) - 1=m:=by omega
  refine bI aN (by kernel_rfl) ?_
  simp[e1,eE _ _ hm,eE _ _ hm2]
  refine⟨fun h2=> ?_,fun h2=> ?_⟩
  ·exact aR (by simp[Sm h hm (fun j hj=>hc j (by omega)) h2]) rfl rfl
  refine bI aN (by kernel_rfl) ?_
  simp[e1,eE _ _ hm,eE _ _ hm2]
  refine⟨fun h3=> ?_,fun h3=> ?_⟩
  ·exact aR (by simp[Pz h hm (fun j hj=>hc j (by omega)) h3]) rfl rfl
  have w1:IntKind.i64.wrap ((m:Int) - 1)=(m:Int) - 1:=i64_in (by omega) (by omega)
  simp[w1,aB]
  refine⟨m,⟨by omega,fun j hj=> ?_⟩,by omega,rfl,by simp,Sub.refl _⟩
  rcases Nat.lt_or_ge m j with hlt | hge
  ·exact hc j (by omega)
  ·obtain rfl:j=m:=by omega
   omega
 ·have:k=0:=by omega
  subst this
  exact aR (by simp[Pq h fun j=>hc j (Nat.zero_le _)]) rfl rfl
theorem rA (ns:List Int) (hd:Dig ns) (hn:ns.length≤1048576):RO Tryz.prog 238 [.sl (iv ns)] (.sl (iv (lim (val ns)))):=by
 refine aK Tryz.func238 rfl rfl (by rw[Tryz.ntmps238];simp) fun bl=> ?_
 rw[Tryz.ntmps238,Tryz.results238]
 refine aC ?_
 simp
 refine aP (fun n:Nat=> [(0,.sl (iv (ns.take n)))]) (fun _=>bl) (fun n=>n≤ns.length∧ ∀i (hi:i<ns.length),n≤i→ns[i]=0) (fun n=>n) _ ns.length ⟨Nat.le_refl _,fun i hi h=>by omega⟩ ⟨rfl,by simp,Sub.refl _⟩ ?_
 intro n ⟨hl,hz⟩
 have hlen:(ns.take n).length=n:=by simp;omega
 refine aC ?_
 simp
 refine aV [(0,.sl (iv (ns.take n)))] _ bl 14 (.bool (decide (0<n)&& decide (ns.getD (n - 1) 1=0))) ⟨rfl,by simp,Sub.refl _⟩ rfl ?_ ?_
 ·simp[hlen]
  refine⟨fun h=> ?_,fun h=>by simp[h]⟩
  have w1:IntKind.i64.wrap ((n:Int) - 1)=((n - 1:Nat):Int):=by rw[i64_in (by omega) (by omega)];omega
  have h2:n - 1<ns.length:=by omega
  have q:(iv (ns.take n))[n - 1]? =some [.int .i64 ns[n - 1]]:=by rw[fR _ _ (by omega)];simp
  simp[w1,h2,h,q,rZ]
 simp
 refine⟨fun h1 h2=> ?_,fun h1=> ?_⟩
 ·have w1:IntKind.i64.wrap ((n:Int) - 1)=((n - 1:Nat):Int):=by rw[i64_in (by omega) (by omega)];omega
  simp[Nat.min_eq_left hl,w1,sliV,Jb,aB]
  refine⟨n - 1,⟨by omega,fun i hi h3=> ?_⟩,by omega,rfl,?_,Sub.refl _⟩
  ·rcases Nat.lt_or_ge i n with h4 | h4
   ·obtain rfl:i=n - 1:=by omega
    simpa [hi] using h2
   ·exact hz i hi h4
  ·simp[B2,List.take_take]
   try (congr 2;omega)
 ·have hz2: ∀i (hi:i<ns.length),n=i+1→ns[i]≠0:=by
   intro i hi e
   subst e
   have:=h1 (by omega)
   simpa [hi] using this
  have:=H3 hd hl hz hz2
  rw[this]
  exact aR (by simp) rfl rfl
theorem kT {o:List Int} {i k:Nat} (h:o.length=i) (x z:Int):(o++List.replicate (k+1) z).set i x=(o++ [x])++List.replicate k z:=by
 subst h
 rw[List.set_append_right _ _ (Nat.le_refl _),Nat.sub_self,List.replicate_succ,List.set_cons_zero,List.append_assoc];rfl
theorem iX {o:List Int} {i k:Nat} (h:o.length=i) (z:Int):(iv (o++List.replicate (k+1) z))[i]? =some [.int .i64 z]:=by
 subst h
 rw[fR _ _ (by simp)]
 simp
theorem eJ (ns:List Int) (i:Nat) (x:Int):(iv ns).set i [.int .i64 x]=iv (ns.set i x):=by simp[iv,List.map_set]
theorem wq {x n:Int} (h0:0≤x) (h1:x≤9223372036854775807) (hn:0<n):IntKind.i64.wrap (x.tdiv n)=x.tdiv n:=by
 rw[Int.tdiv_eq_ediv_of_nonneg h0]
 have a1:=Int.ediv_nonneg h0 (by omega:0≤n)
 have a2:=Int.ediv_le_self n h0
 exact i64_in (by omega) (by omega)
theorem C6 {bl bl':Int→Option Blk} {g:Int} {ns:List Int} {n:Nat} (hg0:0≤g) (hg:bl g=none) (hb:bl' g=some ⟨1,iv ns⟩) (hn:ns.length=n):frzL (dropB bl' bl) 1 [.lsl g 1 0 n]=some [.sl (iv ns)]:=by
 unfold frzL frzL
 rw[dU hg0 hg hb (by simp[hn]) (lR ns)]
theorem Fg {o:List Int} {i:Nat} (h:o.length=i) (x z:Int):(o++ [z]).set i x=o++ [x]:=by
 have:=kT (k:=0) h x z
 simpa using this
structure PL where
 i:Nat
 o:List Int
 c:Int
theorem La (a b:Nat) (ha:(lim a).length≤1048575) (hb:(lim b).length≤1048575):RO Tryz.prog 271 [.sl (iv (lim a)),.sl (iv (lim b))] (.sl (iv (lim (a+b)))):=by
 refine aK Tryz.func271 rfl rfl (by rw[Tryz.ntmps271];simp) fun bl=> ?_
 rw[Tryz.ntmps271,Tryz.results271]
 refine aE ?_
 simp
 refine lW (fun p:Nat×Nat=> [(0,.sl (iv (lim p.1))),(1,.sl (iv (lim p.2)))]) (fun _=>bl) (fun p=>p.1+p.2=a+b∧(lim p.2).length≤(lim p.1).length∧(lim p.1).length≤1048575) 55 ?_ ?_
 ·refine aC ?_
  simp
  refine⟨fun h=> ?_,fun h=> ?_⟩
  ·rw[aF]
   exact⟨(b,a),⟨Nat.add_comm _ _,by simp only;omega,hb⟩,rfl,by simp,Sub.refl _⟩
  ·rw[aF]
   exact⟨(a,b),⟨rfl,by simp only;omega,ha⟩,rfl,by simp,Sub.refl _⟩
 rintro⟨x,y⟩ ⟨hxy,hle,hx⟩
 simp only at hxy hle hx
 rw[←hxy]
 refine aC ?_
 have w0:IntKind.i64.wrap (((lim x).length:Int)+1)=(lim x).length+1:=i64_in (by omega) (by omega)
 simp[w0]
 refine⟨(lim x).length+1,by simp,by simp,by omega,by unfold maxLen;omega,fun g hg0 hg=> ?_⟩
 have er:List.replicate ((lim x).length+1) [V.int IntKind.i64 0]=iv (List.replicate ((lim x).length+1) 0):=by simp[iv]
 simp[er]
 refine aP (fun p:PL=> [(0,.sl (iv (lim x))),(1,.sl (iv (lim y))),(5,.lsl g 1 0 ((lim x).length+1)),(6,.int .i64 p.c),(20,.sl (iv (lim x))),(21,.int .i64 (lim x).length),(22,.int .i64 p.i)]) (fun p=>upd bl g (some ⟨1,iv (p.o++List.replicate ((lim x).length+1 - p.i) 0)⟩))
  (fun p=>p.i≤(lim x).length∧mL x y p.i p.o p.c) (fun p=>(lim x).length - p.i) _ ⟨0,[],0⟩ ⟨Nat.zero_le _,mL.start x y⟩ ⟨rfl,by simp,sub_eq (by simp)⟩ ?_
 rintro⟨i,o,c⟩ ⟨hi,hI⟩
 simp only at hi hI
 have hb1:=hI.x
 have hd1:=fD x i
 have hd2:=fD y i
 have hc0:=hI.c0
 have hc1:=hI.c1
 obtain⟨k,hk⟩: ∃k,(lim x).length+1 - i=k+1:=⟨(lim x).length - i,by omega⟩
 refine aC ?_
 simp
 refine⟨fun h1=> ?_,fun h1=> ?_⟩
 ·have w1:IntKind.i64.wrap ((dg x i:Int)+c)=dg x i+c:=i64_in (by omega) (by omega)
  have w2:IntKind.i64.wrap ((dg x i:Int)+c+dg y i)=dg x i+c+dg y i:=i64_in (by omega) (by omega)
  have w3:IntKind.i64.wrap ((i:Int)+1)=i+1:=i64_in (by omega) (by omega)
  simp[eE _ _ h1,w1]
  refine⟨fun h2=> ?_,fun h2=> ?_⟩
  ·have w4:=wq (x:=(dg x i:Int)+c+dg y i) (n:=1000000000) (by omega) (by omega) (by omega)
   simp[eE _ _ h2,w2,w3,w4,hk,iX hI.len]
   refine⟨by omega,?_⟩
   rw[aB]
   refine⟨⟨i+1,o++ [((dg x i:Int)+c+dg y i).tmod 1000000000],((dg x i:Int)+c+dg y i).tdiv 1000000000⟩,⟨by simp only;omega,hI.next (by omega)⟩,by simp only;omega,rfl,by simp,sub_eq ?_⟩
   rw[eJ,kT hI.len]
   have e:(lim x).length+1 - (i+1)=k:=by omega
   simp[e]
  ·have d0:dg y i=0:=vH (by omega)
   have w4:=wq (x:=(dg x i:Int)+c) (n:=1000000000) (by omega) (by omega) (by omega)
   simp[w3,w4,hk,iX hI.len]
   refine⟨by omega,?_⟩
   rw[aB]
   refine⟨⟨i+1,o++ [((dg x i:Int)+c).tmod 1000000000],((dg x i:Int)+c).tdiv 1000000000⟩,⟨by simp only;omega,hI.next (by omega)⟩,by simp only;omega,rfl,by simp,sub_eq ?_⟩
   rw[eJ,kT hI.len]
   have e:(lim x).length+1 - (i+1)=k:=by omega
   simp[e]
 ·have e:i=(lim x).length:=by omega
  subst e
  obtain⟨hD,hv⟩:=hI.impl (Nat.le_refl _) hle
  simp[hk,iX hI.len]
  have k0:k=0:=by omega
  subst k0
  have hg':bl g=none:=hg
  simp[eJ,Fg hI.len]
  refine⟨by omega,sG 1 bl _ (by simp[hg']) (C6 hg0 hg' (by simp) (by simp[hI.len])) (rA _ hD (by simp[hI.len];omega)) ?_⟩
  rw[hv]
  simp
  exact aR (by simp) rfl rfl

theorem Ds {n:Nat} (h:0<n):lim n=((n % 1000000000:Nat):Int)::lim (n / 1000000000):=kH (by omega)
theorem Lb {N:Nat} (h:N≤18446744073709551615):(lim N).length≤3:=aH.2 (Nat.lt_of_le_of_lt h (by decide+kernel))
theorem N2 (N:Nat) (hN:N≤18446744073709551615):NW Tryz.prog 230 [.int .u64 N] (fl 1 (iv (lim N))):=by
 have hL:=Lb hN
 refine jQ Tryz.func230 rfl rfl (by rw[Tryz.ntmps230];simp) fun bl=> ?_
 rw[Tryz.ntmps230,Tryz.results230]
 refine aC ?_
 simp
 refine qU 3 1 (by simp) fun g00 sH=> ?_
 refine aP (fun p:Int×List Int×Nat=> [(0,.int .u64 p.2.2),(3,.lsl p.1 1 0 p.2.1.length)]) (fun p=>upd bl p.1 (some ⟨1,iv p.2.1⟩)) (fun p=>lim N=p.2.1++lim p.2.2∧p.2.2≤18446744073709551615∧bl p.1=none∧(p.1<0→p.2.1= [])) (fun p=>p.2.2) _ (g00,[],N) ⟨by simp,hN,sH,fun _=>rfl⟩ ⟨rfl,by simp,sub_eq (by simp[iv])⟩ ?_
 rintro⟨g,o,n⟩ ⟨hl,hn,hg,h0⟩
 simp only at hl hn hg h0
 have hlo:o.length≤3:=by have:=congrArg List.length hl;simp at this;omega
 refine aC ?_
 simp
 refine⟨fun h=> ?_,fun h=> ?_⟩
 ·intro g2 hg2 h2g hb2
  simp[h2g,Ne.symm h2g,appV,elsV,Int.not_lt.2 hg2]
  refine⟨by omega,fun g3 hg3 hb3=> ?_⟩
  have xH:bl g3=none:=by grind
  have m0:(n:Int).tmod 1000000000=((n % 1000000000:Nat):Int):=by rw[Int.tmod_eq_emod_of_nonneg (by omega)];omega
  have q0:(n:Int).tdiv 1000000000=((n / 1000000000:Nat):Int):=by rw[Int.tdiv_eq_ediv_of_nonneg (by omega)];omega
  have w1:IntKind.i64.wrap ((n:Int) % 1000000000)=(n:Int) % 1000000000:=i64_in (by omega) (by omega)
  have w2:IntKind.u64.wrap ((n:Int) / 1000000000)=(n:Int) / 1000000000:=IntWalk.u64_in _ ⟨by omega,by omega⟩
  simp[m0,q0,w1,w2]
  rw[aB]
  refine⟨(g3,o++ [((n % 1000000000:Nat):Int)],n / 1000000000),⟨by rw[hl,Ds h];simp,by simp only;omega,xH,by simp only;omega⟩,by simp only;omega,rfl,by simp,?_⟩
  rw[mT]
  exact lH (by rw[wF];simp[iv]) (by simp[hg,hb2,h2g])
 ·have e:n=0:=by omega
  subst e
  rw[aX,List.append_nil] at hl
  refine fA [.lsl g 1 0 o.length] [g] (by simp) ?_ (by simpa using hg) (by simp[hg])
  rw[hl]
  exact jU.2 (.inr ⟨g,rfl,rfl,by simp,h0⟩)
theorem pS (N:Nat) (hN:N≤18446744073709551615):RO Tryz.prog 230 [.int .u64 N] (.sl (iv (lim N))):=by
 have:=eK 1 (N2 N hN) (mN _ _ 0)
 simpa using this
structure ML where
 i:Nat
 o:List Int
 br:Nat
theorem G3 (a b:Nat) (hab:b≤a) (ha:(lim a).length≤1048575):RO Tryz.prog 272 [.sl (iv (lim a)),.sl (iv (lim b))] (.sl (iv (lim (a - b)))):=by
 refine aK Tryz.func272 rfl rfl (by rw[Tryz.ntmps272];simp) fun bl=> ?_
 rw[Tryz.ntmps272,Tryz.results272]
 refine aC ?_
 simp
 refine⟨by omega,by unfold maxLen;omega,fun g hg0 hg=> ?_⟩
 have er:List.replicate ((lim a).length) [V.int IntKind.i64 0]=iv (List.replicate ((lim a).length) 0):=by simp[iv]
 simp[er]
 refine aP (fun p:ML=> [(0,.sl (iv (lim a))),(1,.sl (iv (lim b))),(5,.lsl g 1 0 (lim a).length),(6,.int .i64 p.br),(12,.sl (iv (lim a))),(13,.int .i64 (lim a).length),(14,.int .i64 p.i)]) (fun p=>upd bl g (some ⟨1,iv (p.o++List.replicate ((lim a).length - p.i) 0)⟩))
  (fun p=>p.i≤(lim a).length∧gA a b p.i p.o p.br) (fun p=>(lim a).length - p.i) _ ⟨0,[],0⟩ ⟨Nat.zero_le _,gA.start a b⟩ ⟨rfl,by simp,sub_eq (by simp)⟩ ?_
 rintro⟨i,o,br⟩ ⟨hi,hI⟩
 simp only at hi hI
 have hb1:=hI.x
 have hd1:=fD a i
 have hd2:=fD b i
 have hc1:=hI.c1
 refine aC ?_
 simp
 refine⟨fun h1=> ?_,fun h1=> ?_⟩
 ·obtain⟨k,hk⟩: ∃k,(lim a).length - i=k+1:=⟨(lim a).length - i - 1,by omega⟩
  have e:(lim a).length - (i+1)=k:=by omega
  have w1:IntKind.i64.wrap ((dg a i:Int) - br)=dg a i - br:=i64_in (by omega) (by omega)
  have w2:IntKind.i64.wrap ((dg a i:Int) - br - dg b i)=dg a i - br - dg b i:=i64_in (by omega) (by omega)
  have w3:IntKind.i64.wrap ((i:Int)+1)=i+1:=i64_in (by omega) (by omega)
  simp[eE _ _ h1,w1]
  refine⟨fun h2=> ?_,fun h2=> ?_⟩
  ·simp[eE _ _ h2,w2,w3,hk,iX hI.len]
   refine⟨fun h3=> ?_,fun h3=> ?_⟩
   ·have w4:IntKind.i64.wrap ((dg a i:Int) - br - dg b i+1000000000)=dg a i - br - dg b i+1000000000:=i64_in (by omega) (by omega)
    simp[w4,w3,h1,hk,iX hI.len]
    rw[aB]
    refine⟨⟨i+1,o++ [(dg a i:Int) - br - dg b i+1000000000],1⟩,⟨by simp only;omega,hI.X6 rfl (by omega)⟩,by simp only;omega,rfl,by simp,sub_eq ?_⟩
    rw[eJ,kT hI.len]
    simp[e]
   ·simp[w3,h1,hk,iX hI.len]
    rw[aB]
    refine⟨⟨i+1,o++ [(dg a i:Int) - br - dg b i],0⟩,⟨by simp only;omega,hI.Y3 rfl (by omega)⟩,by simp only;omega,rfl,by simp,sub_eq ?_⟩
    rw[eJ,kT hI.len]
    simp[e]
  ·have d0:dg b i=0:=vH (by omega)
   simp[w3,hk,iX hI.len]
   refine⟨fun h3=> ?_,fun h3=> ?_⟩
   ·have w4:IntKind.i64.wrap ((dg a i:Int) - br+1000000000)=dg a i - br+1000000000:=i64_in (by omega) (by omega)
    simp[w4,w3,h1,hk,iX hI.len]
    rw[aB]
    refine⟨⟨i+1,o++ [(dg a i:Int) - br+1000000000],1⟩,⟨by simp only;omega,hI.X6 (x:=(dg a i:Int) - br) (by omega) (by omega)⟩,by simp only;omega,rfl,by simp,sub_eq ?_⟩
    rw[eJ,kT hI.len]
    simp[e]
   ·simp[w3,h1,hk,iX hI.len]
    rw[aB]
    refine⟨⟨i+1,o++ [(dg a i:Int) - br],0⟩,⟨by simp only;omega,hI.Y3 (x:=(dg a i:Int) - br) (by omega) (by omega)⟩,by simp only;omega,rfl,by simp,sub_eq ?_⟩
    rw[eJ,kT hI.len]
    simp[e]
 ·have e:i=(lim a).length:=by omega
  subst e
  have hv:=hI.done hab (Nat.le_refl _)
  have hg':bl g=none:=hg
  simp
  refine sG 1 bl _ (by simp[hg']) (C6 (ns:=o) hg0 hg' (by simp) (by simp[hI.len])) (rA _ hI.dig (by simp[hI.len];omega)) ?_
  simp[hv]
  exact aR (by simp) rfl rfl

theorem Ln {bl:Int→Option Blk} {K:V→(Int→Option Blk)→Prop} (ns:List Int) (hd:Dig ns) (hn:ns.length≤1048576) (g:Int) (hg0:0≤g) (hb:bl g=some ⟨1,iv ns⟩)
  (hK: ∀m,m≤ns.length→ns.take m=lim (val ns)→K (.lsl g 1 0 m) bl):bN Tryz.prog 238 [.lsl g 1 0 ns.length] bl K:=by
 refine bD Tryz.func238 rfl rfl (by rw[Tryz.ntmps238];simp) ?_
 rw[Tryz.ntmps238,Tryz.results238]
 refine aC ?_
 simp
 refine aP (fun n:Nat=> [(0,.lsl g 1 0 n)]) (fun _=>bl) (fun n=>n≤ns.length∧ ∀i (hi:i<ns.length),n≤i→ns[i]=0) (fun n=>n) _ ns.length ⟨Nat.le_refl _,fun i hi h=>by omega⟩ ⟨rfl,by simp,Sub.refl _⟩ ?_
 intro n ⟨hl,hz⟩
 refine aC ?_
 simp
 refine aV [(0,.lsl g 1 0 n)] _ bl 14 (.bool (decide (0<n)&& decide (ns.getD (n - 1) 1=0))) ⟨rfl,by simp,Sub.refl _⟩ rfl ?_ ?_
 ·simp
  refine⟨fun h=> ?_,fun h=>by simp[h]⟩
  have w1:IntKind.i64.wrap ((n:Int) - 1)=((n - 1:Nat):Int):=by rw[i64_in (by omega) (by omega)];omega
  have h2:n - 1<ns.length:=by omega
  simp[w1,h2,h,hb,rZ]
  omega
 simp
 refine⟨fun h1 h2=> ?_,fun h1=> ?_⟩
 ·have w1:IntKind.i64.wrap ((n:Int) - 1)=((n - 1:Nat):Int):=by rw[i64_in (by omega) (by omega)];omega
  simp[w1,sliV,hg0,aB]
  refine⟨n - 1,⟨by omega,fun i hi h3=> ?_⟩,by omega,rfl,?_,Sub.refl _⟩
  ·rcases Nat.lt_or_ge i n with h4 | h4
   ·obtain rfl:i=n - 1:=by omega
    simpa [hi] using h2
   ·exact hz i hi h4
  ·simp
 ·have hz2: ∀i (hi:i<ns.length),n=i+1→ns[i]≠0:=by
   intro i hi e
   subst e
   have:=h1 (by omega)
   simpa [hi] using this
  have:=H3 hd hl hz hz2
  rw[aW]
  exact⟨[_],by simp,hK n hl this⟩
theorem Jy {bl bl':Int→Option Blk} {g:Int} {ns:List Int} {n:Nat} (hg0:0≤g) (hg:bl g=none) (hb:bl' g=some ⟨1,iv ns⟩) (hn:n≤ns.length):frz (dropB bl' bl) 1 (.lsl g 1 0 n)=some (.sl (iv (ns.take n))):=by
 unfold frz
 rw[if_neg (by omega)]
 unfold dropB
 rw[hg]
 simp only[hb]
 rw[if_pos (by simp;exact hn),List.drop_zero,B2,if_pos (lR _)]
structure TL where
 i:Nat
 j:Nat
 O:List Int
 c:Nat
theorem H2 {bl:Int→Option Blk} {K:V→(Int→Option Blk)→Prop} (a b:Nat) (ha:(lim a).length≤400000) (hb:(lim b).length≤400000) (ha0:a≠0) (hb0:b≠0)
  (hK: ∀g O,0≤g→bl g=none→(lim (a*b)).length≤O.length→O.take (lim (a*b)).length=lim (a*b)→K (.lsl g 1 0 (lim (a*b)).length) (upd bl g (some ⟨1,iv O⟩))):bN Tryz.prog 228 [.sl (iv (lim a)),.sl (iv (lim b))] bl K:=by
 have la:(lim a).length≠0:=fun h=>ha0 (fK.1 (List.length_eq_zero_iff.1 h))
 have lb:(lim b).length≠0:=fun h=>hb0 (fK.1 (List.length_eq_zero_iff.1 h))
 refine bD Tryz.func228 rfl rfl (by rw[Tryz.ntmps228];simp) ?_
 rw[Tryz.ntmps228,Tryz.results228]
 refine aC ?_
 simp
 refine aV [(0,.sl (iv (lim a))),(1,.sl (iv (lim b)))] _ bl 19 (.bool false) ⟨rfl,by simp,Sub.refl _⟩ rfl ?_ ?_
 ·have na:lim a≠ []:=fun h=>la (by rw[h];rfl)
  have nb:lim b≠ []:=fun h=>lb (by rw[h];rfl)
  simp[na,nb]
 have w0:IntKind.i64.wrap (((lim a).length:Int)+(lim b).length)=(lim a).length+(lim b).length:=i64_in (by omega) (by omega)
 simp[w0]
 refine⟨(lim a).length+(lim b).length,by simp,by simp,by omega,by unfold maxLen;omega,fun g hg0 hg=> ?_⟩
 have er:List.replicate ((lim a).length+(lim b).length) [V.int IntKind.i64 0]=iv (List.replicate ((lim a).length+(lim b).length) 0):=by simp[iv]
 simp[er]
 refine aP (fun p:TL=> [(0,.sl (iv (lim a))),(1,.sl (iv (lim b))),(5,.lsl g 1 0 ((lim a).length+(lim b).length)),(26,.sl (iv (lim a))),(27,.int .i64 (lim a).length),(28,.int .i64 p.i)]) (fun p=>upd bl g (some ⟨1,iv p.O⟩))
  (fun p=>p.i≤(lim a).length∧iC a b p.i 0 p.O 0) (fun p=>(lim a).length - p.i) _ ⟨0,0,_,0⟩ ⟨Nat.zero_le _,iC.start a b⟩ ⟨rfl,by simp,sub_eq (by simp)⟩ ?_
 rintro⟨i,j0,O,c0⟩ ⟨hi,hI⟩
 simp only at hi hI
 refine aC ?_
 simp
 refine⟨fun h1=> ?_,fun h1=> ?_⟩
 ·simp[eE _ _ h1]
  refine aP (fun p:TL=> [(0,.sl (iv (lim a))),(1,.sl (iv (lim b))),(5,.lsl g 1 0 ((lim a).length+(lim b).length)),(6,.int .i64 i),(7,.int .i64 (dg a i:Nat)),(8,.int .i64 p.c),(26,.sl (iv (lim a))),(27,.int .i64 (lim a).length),(28,.int .i64 i),(33,.sl (iv (lim b))),(34,.int .i64 (lim b).length),(35,.int .i64 p.j)]) (fun p=>upd bl g (some ⟨1,iv p.O⟩))
   (fun p=>p.j≤(lim b).length∧iC a b i p.j p.O p.c) (fun p=>(lim b).length - p.j) _ ⟨i,0,O,0⟩ ⟨Nat.zero_le _,hI⟩ ⟨rfl,by simp,sub_eq (by simp)⟩ ?_
  rintro⟨i',j,O,c⟩ ⟨hj,hJ⟩
  simp only at hj hJ
  have hlen:=hJ.len
  refine aC ?_
  simp
  refine⟨fun h2=> ?_,fun h2=> ?_⟩
  ·have hk:i+j<O.length:=by omega
   obtain⟨n1,n2,n3,hN⟩:=hJ.next h1 h2 hk
   have w1:IntKind.i64.wrap ((i:Int)+j)=(i:Int)+j:=i64_in (by omega) (by omega)
   have p1:0≤(i:Int)+j:=by omega
   have p2:(i:Int)+j<(lim a).length+(lim b).length:=by omega
   have p3:((i:Int)+j).toNat=i+j:=by omega
   have w3:IntKind.i64.wrap ((j:Int)+1)=j+1:=i64_in (by omega) (by omega)
   have hm:0≤(dg a i:Int)*dg b j∧(dg a i:Int)*dg b j<1000000000000000000:=by
    have hO:=hJ.dig.at hk
    have e:0≤(dg a i:Int)*dg b j:=by rw[←Int.natCast_mul];omega
    exact⟨e,by omega⟩
   have hO:=hJ.dig.at hk
   have w4:IntKind.i64.wrap ((dg a i:Int)*dg b j)=(dg a i:Int)*dg b j:=i64_in (by omega) (by omega)
   have w5:IntKind.i64.wrap (O[i+j]+(dg a i:Int)*dg b j)=O[i+j]+(dg a i:Int)*dg b j:=i64_in (by omega) (by omega)
   have w6:IntKind.i64.wrap (O[i+j]+(dg a i:Int)*dg b j+c)=O[i+j]+(dg a i:Int)*dg b j+c:=i64_in (by omega) (by omega)
   have w7:=wq (x:=O[i+j]+(dg a i:Int)*dg b j+c) (n:=1000000000) n3 (by omega) (by omega)
   simp[eE _ _ h2,w1,w3,w4,w5,w6,w7,p1,p2,p3,hk]
   rw[aB]
   obtain⟨c',hc'⟩: ∃c':Nat,(O[i+j]+(dg a i:Int)*dg b j+c).tdiv 1000000000=c':=⟨((O[i+j]+(dg a i:Int)*dg b j+c).tdiv 1000000000).toNat,by omega⟩
   refine⟨⟨i,j+1,O.set (i+j) ((O[i+j]+(dg a i:Int)*dg b j+c).tmod 1000000000),c'⟩,⟨by simp only;omega,?_⟩,by simp only;omega,rfl,by simp[hc'],sub_eq ?_⟩
   ·rw[hc'] at hN;exact hN
   ·rw[eJ]
  ·have e:j=(lim b).length:=by omega
   have hk:i+(lim b).length<O.length:=by omega
   have hR:=hJ.row h1 (by omega) hj hk
   have w1:IntKind.i64.wrap ((i:Int)+(lim b).length)=(i:Int)+(lim b).length:=i64_in (by omega) (by omega)
   have p1:0≤(i:Int)+(lim b).length:=by omega
   have p2:(i:Int)+(lim b).length<(lim a).length+(lim b).length:=by omega
   have p3:((i:Int)+(lim b).length).toNat=i+(lim b).length:=by omega
   have w3:IntKind.i64.wrap ((i:Int)+1)=i+1:=i64_in (by omega) (by omega)
   simp[w1,w3,p1,p2,p3,hk]
   rw[aB]
   refine⟨⟨i+1,0,O.set (i+(lim b).length) c,0⟩,⟨by simp only;omega,hR⟩,by simp only;omega,rfl,by simp,sub_eq ?_⟩
   rw[eJ]
 ·have hv:=hI.done (c:=0) (by omega)
  have hlen:=hI.len
  have hg':bl g=none:=by simpa using hg
  have e:((lim a).length+(lim b).length:Nat)=O.length:=hlen.symm
  rw[e]
  refine Ln O hI.dig (by omega) g hg0 (by simp) fun m hm ht=> ?_
  rw[hv] at ht
  have hml:m=(lim (a*b)).length:=by rw[←ht];simp;omega
  subst hml
  simp
  rw[aW]
  exact⟨[_],by simp,hK g O hg0 hg' hm ht⟩
theorem jX (a b:Nat) (ha:(lim a).length≤400000) (hb:(lim b).length≤400000):RO Tryz.prog 228 [.sl (iv (lim a)),.sl (iv (lim b))] (.sl (iv (lim (a*b)))):=by
 by_cases h0:a=0∨b=0
 ·have hz:a*b=0:=Nat.mul_eq_zero.2 h0
  rw[hz,aX]
  refine aK Tryz.func228 rfl rfl (by rw[Tryz.ntmps228];simp) fun bl=> ?_
  rw[Tryz.ntmps228,Tryz.results228]
  refine aC ?_
  simp
  refine aV [(0,.sl (iv (lim a))),(1,.sl (iv (lim b)))] _ bl 19 (.bool true) ⟨rfl,by simp,Sub.refl _⟩ rfl ?_ ?_
  ·simp
   rcases h0 with h0 | h0
   ·simp[h0,aX]
   ·simp[h0,aX]
  simp
  exact aQ [.nils] 0 (by simp) rfl (Sub.refl _)
 ·intro bl
  refine sB (H2 a b ha hb (by omega) (by omega) fun g O hg0 hg hl ht=>⟨1,?_,by simp[hg]⟩) ⟨rfl,rfl⟩
  have:=Jy (bl':=upd bl g (some ⟨1,iv O⟩)) hg0 hg (by simp) hl
  rw[ht] at this
  exact this
structure SL where
 i:Nat
 Q:List Int
 r:Int
theorem rI (a b:Nat) (ha:(lim a).length≤1048576) (hb0:0<b) (hb:b<1000000000):RO Tryz.prog 235 [.sl (iv (lim a)),.int .i64 b] (.tup [.sl (iv (lim (a / b))),.int .i64 (a % b:Nat)]):=by
 refine aK Tryz.func235 rfl rfl (by rw[Tryz.ntmps235];simp) fun bl=> ?_
 rw[Tryz.ntmps235,Tryz.results235]
 refine aC ?_
 simp
 refine⟨by omega,by unfold maxLen;omega,fun g hg0 hg=> ?_⟩
 have er:List.replicate ((lim a).length) [V.int IntKind.i64 0]=iv (List.replicate ((lim a).length) 0):=by simp[iv]
 have w0:IntKind.i64.wrap (((lim a).length:Int) - 1)=((lim a).length:Int) - 1:=i64_in (by omega) (by omega)
 simp[er,w0]
 refine aP (fun p:SL=> [(0,.sl (iv (lim a))),(1,.int .i64 b),(6,.lsl g 1 0 (lim a).length),(7,.int .i64 p.r),(8,.int .i64 ((p.i:Int) - 1))]) (fun p=>upd bl g (some ⟨1,iv (List.replicate p.i 0++p.Q)⟩))
  (fun p=>0≤p.r∧tV a b p.i p.Q p.r.toNat) (fun p=>p.i) _ ⟨(lim a).length,[],0⟩ ⟨Int.le_refl _,tV.start a b hb0⟩ ⟨rfl,by simp,sub_eq (by simp)⟩ ?_
 rintro⟨i,Q,r⟩ ⟨hr0,hI⟩
 simp only at hr0 hI
 have hr:=hI.rlt
 have hle:=hI.le
 have hql:=hI.len
 refine aC ?_
 simp[-binV, -intV]
 refine⟨fun h1=> ?_,fun h1=> ?_⟩
 ·obtain⟨m,rfl⟩: ∃m,i=m+1:=⟨i - 1,by omega⟩
  have hm:m<(lim a).length:=by omega
  have hd:=fD a m
  obtain⟨z,hz⟩: ∃z,z=r.toNat*1000000000+dg a m:=⟨_,rfl⟩
  have hN:=hI.next (q:=z / b) (r':=z % b) (by rw[hz]) (by rw[hz])
  have e1:((m+1:Nat):Int) - 1=m:=by omega
  have w1:IntKind.i64.wrap (r*1000000000)=r*1000000000:=i64_in (by omega) (by omega)
  have w2:IntKind.i64.wrap (r*1000000000+dg a m)=z:=by rw[i64_in (by omega) (by omega)];omega
  have hz2:z≤9223372036854775807:=by omega
  simp[-binV, -intV,e1,eE _ _ hm,w1,w2]
  clear w1 w2 hz
  have b0: ¬ b=0:=by omega
  have hg':bl g=none:=by simpa using hg
  have w3:=wq (x:=(z:Int)) (n:=b) (by omega) (by omega) (by omega)
  have w4:(z:Int).tdiv b=(z / b:Nat):=by rw[Int.tdiv_eq_ediv_of_nonneg (by omega)];simp
  have w5:(z:Int).tmod b=(z % b:Nat):=by rw[Int.tmod_eq_emod_of_nonneg (by omega)];simp
  rw[w4] at w3
  have w3':IntKind.i64.wrap ((z:Int) / b)=(z:Int) / b:=by simpa using w3
  refine⟨by omega,bS aN bl (by simp[hg']) [0,1,2,3,4,5,6,7,8] 2 (by kernel_rfl) ?_⟩
  simp[-binV, -intV,w3',w4,w5,hm,b0]
  have q:(iv (List.replicate (m+1) 0++Q))[m]? =some [.int .i64 0]:=by rw[fR _ _ (by simp;omega)];simp
  have w6:IntKind.i64.wrap ((m:Int) - 1)=(m:Int) - 1:=i64_in (by omega) (by omega)
  refine Dz 9 ?_
  simp[-binV, -intV,q,hg']
  refine Dz 10 ?_
  simp[-binV, -intV,hg']
  refine Dy ?_
  simp[-binV, -intV,w6,aB]
  refine⟨⟨m,((z / b:Nat):Int)::Q,(z % b:Nat)⟩,⟨by simp only;omega,by show tV a b m _ (((z % b:Nat):Int)).toNat;rw[Int.toNat_natCast];exact hN⟩,by simp only;omega,rfl,by simp,sub_eq ?_⟩
  rw[←vU m _ 0 Q,←eJ]
  simp
 ·have e:i=0:=by omega
  subst e
  obtain⟨h2,h3⟩:=hI.done
  have h4:r=(a % b:Nat):=by omega
  have hg':bl g=none:=by simpa using hg
  simp
  refine sG 1 bl _ (by simp[hg']) (C6 (ns:=Q) hg0 hg' (by simp) (by simp[hql])) (rA _ hI.dig (by omega)) ?_
  simp[h2,h4]
  exact aQ [.sl (iv (lim (a / b))),.int .i64 (a % b:Nat)] 1 (by simp) rfl (by simp)

structure KL where
 i:Nat
 O:List Int
 c:Int
theorem Lf {bl:Int→Option Blk} {K:V→(Int→Option Blk)→Prop} (u:List Int) (V0 g j n m:Nat) (gu:Int) (hgu:0≤gu) (hb:bl gu=some ⟨1,iv u⟩) (hu:Dig u) (hn:(lim V0).length=n) (hm:j+m=u.length) (hnm:n<m) (hg:g<1000000000) (hul:u.length≤1048576)
  (hK: ∀(O:List Int) (c:Nat) (hk:j+n<O.length),fS u V0 g j n O c→K (.bool (decide (O[j+n] - c<0))) (upd bl gu (some ⟨1,iv (O.set (j+n) (O[j+n] - c))⟩))):
  bN Tryz.prog 236 [.lsl gu 1 j m,.sl (iv (lim V0)),.int .i64 g] bl K:=by
 have hu0:upd bl gu (some ⟨1,iv u⟩)=bl:=by
  funext x;simp only[aA];split
  ·rename_i h;rw[h,hb]
  ·rfl
 refine bD Tryz.func236 rfl rfl (by rw[Tryz.ntmps236];simp) ?_
 rw[Tryz.ntmps236,Tryz.results236]
 refine aC ?_
 simp[hn]
 refine aP (fun p:KL=> [(0,.lsl gu 1 j m),(1,.sl (iv (lim V0))),(2,.int .i64 g),(7,.int .i64 p.c),(11,.sl (iv (lim V0))),(12,.int .i64 n),(13,.int .i64 p.i)]) (fun p=>upd bl gu (some ⟨1,iv p.O⟩))
  (fun p=>p.i≤n∧0≤p.c∧fS u V0 g j p.i p.O p.c.toNat) (fun p=>n - p.i) _ ⟨0,u,0⟩ ⟨Nat.zero_le _,Int.le_refl _,fS.start V0 g j hu⟩ ⟨rfl,by simp,sub_eq (by rw[hu0])⟩ ?_
 rintro⟨i,O,c⟩ ⟨hi,hc0,hI⟩
 simp only at hi hc0 hI
 have hc1:=hI.c1
 have hlen:=hI.len
 refine aC ?_
 simp[-binV, -intV]
 refine⟨fun h1=> ?_,fun h1=> ?_⟩
 ·have hv:i<(lim V0).length:=by omega
  have hk:j+i<O.length:=by omega
  have hO:=hI.dig.at hk
  obtain⟨m0,m1⟩:=hI.x hg hk
  have w3:IntKind.i64.wrap ((i:Int)+1)=i+1:=i64_in (by omega) (by omega)
  have w1:IntKind.i64.wrap ((g:Int)*dg V0 i)=(g:Int)*dg V0 i:=i64_in (by omega) (by omega)
  have w2:IntKind.i64.wrap (O[j+i] - (g:Int)*dg V0 i)=O[j+i] - (g:Int)*dg V0 i:=i64_in (by omega) (by omega)
  have w4:IntKind.i64.wrap (O[j+i] - (g:Int)*dg V0 i - c)=O[j+i] - (g:Int)*dg V0 i - c:=i64_in (by omega) (by omega)
  have him:(i:Int)<m:=by omega
  obtain⟨x,hx⟩: ∃x,x=O[j+i] - (g:Int)*dg V0 i - c:=⟨_,rfl⟩
  have hx':x=O[j+i] - (g:Int)*dg V0 i - (c.toNat:Int):=by rw[hx];omega
  have wx:IntKind.i64.wrap x=x:=i64_in (by omega) (by omega)
  have w5:IntKind.i64.wrap (999999999 - x)=999999999 - x:=i64_in (by omega) (by omega)
  have key:x<0→0≤(999999999 - x).tdiv 1000000000∧(999999999 - x).tdiv 1000000000<1000000000∧fS u V0 g j (i+1) (O.set (j+i) (x+(999999999 - x).tdiv 1000000000*1000000000)) ((999999999 - x).tdiv 1000000000).toNat:=fun h=>hI.X6 hg hk hx' h (by simp)
  obtain⟨y,hy⟩: ∃y,y=(999999999 - x).tdiv 1000000000:=⟨_,rfl⟩
  rw[←hy] at key
  simp[-binV, -intV,eE _ _ hv,w1,w2,w4,hk,him,←hx,wx,w3,w5,←hy]
  refine⟨fun h3=> ?_,fun h3=> ?_⟩
  ·obtain⟨k1,k2,k3⟩:=key h3
   have w6:IntKind.i64.wrap y=y:=i64_in (by omega) (by omega)
   have w7:IntKind.i64.wrap (y*1000000000)=y*1000000000:=i64_in (by omega) (by omega)
   have w8:IntKind.i64.wrap (x+y*1000000000)=x+y*1000000000:=by
    have:=k3.dig.at (k:=j+i) (by simpa using hk)
    rw[List.getElem_set_self] at this
    exact i64_in (by omega) (by omega)
   simp[-binV, -intV,w6,w7,w8]
   rw[aB]
   refine⟨⟨i+1,O.set (j+i) (x+y*1000000000),y⟩,⟨by simp only;omega,k1,k3⟩,by simp only;omega,rfl,by simp,sub_eq ?_⟩
   rw[eJ]
  ·rw[aB]
   refine⟨⟨i+1,O.set (j+i) x,0⟩,⟨by simp only;omega,Int.le_refl _,hI.Y3 hg hk hx' (by omega)⟩,by simp only;omega,rfl,by simp,sub_eq ?_⟩
   rw[eJ]
 ·have e:i=n:=by omega
  subst e
  have hk:j+i<O.length:=by omega
  have hO:=hI.dig.at hk
  obtain⟨c',rfl⟩: ∃c':Nat,c=c':=⟨c.toNat,by omega⟩
  have w1:IntKind.i64.wrap (O[j+i] - (c':Int))=O[j+i] - (c':Int):=i64_in (by omega) (by omega)
  have him:(i:Int)<m:=by omega
  simp[-binV, -intV,hn,him,hk,w1]
  refine⟨hnm,?_⟩
  rw[aW]
  refine⟨[.bool (decide (O[j+i] - (c':Int)<0))],by simp,?_⟩
  have:=hK O c' hk (by simpa using hI)
  rw[←eJ] at this
  exact this
theorem Mf {bl:Int→Option Blk} {K:V→(Int→Option Blk)→Prop} (O:List Int) (t:Int) (V0 j n m:Nat) (gu:Int) (hgu:0≤gu) (hk:j+n<O.length) (hb:bl gu=some ⟨1,iv (O.set (j+n) t)⟩) (hO:Dig O) (hn:(lim V0).length=n) (hm:j+m=O.length) (ht: -1000000000≤t∧t≤1000000000) (hul:O.length≤1048576)
  (hK: ∀(v:V) (W:List Int) (d:Nat) (hk2:j+n<W.length),qN O V0 j n W d→K v (upd bl gu (some ⟨1,iv (W.set (j+n) (t+d))⟩))):
  bN Tryz.prog 237 [.lsl gu 1 j m,.sl (iv (lim V0))] bl K:=by
 have hu0:upd bl gu (some ⟨1,iv (O.set (j+n) t)⟩)=bl:=by
  funext x;simp only[aA];split
  ·rename_i h;rw[h,hb]
  ·rfl
 refine bD Tryz.func237 rfl rfl (by rw[Tryz.ntmps237];simp) ?_
 rw[Tryz.ntmps237,Tryz.results237]
 refine aC ?_
 simp[hn]
 refine aP (fun p:KL=> [(0,.lsl gu 1 j m),(1,.sl (iv (lim V0))),(4,.int .i64 p.c),(8,.sl (iv (lim V0))),(9,.int .i64 n),(10,.int .i64 p.i)]) (fun p=>upd bl gu (some ⟨1,iv (p.O.set (j+n) t)⟩))
  (fun p=>p.i≤n∧0≤p.c∧qN O V0 j p.i p.O p.c.toNat) (fun p=>n - p.i) _ ⟨0,O,0⟩ ⟨Nat.zero_le _,Int.le_refl _,qN.start V0 j hO⟩ ⟨rfl,by simp,sub_eq (by rw[hu0])⟩ ?_
 rintro⟨i,W,c⟩ ⟨hi,hc0,hI⟩
 simp only at hi hc0 hI
 have hc1:=hI.c1
 have hlen:=hI.len
 refine aC ?_
 simp
 refine⟨fun h1=> ?_,fun h1=> ?_⟩
 ·have hv:i<(lim V0).length:=by omega
  have hki:j+i<W.length:=by omega
  have hne:j+n≠j+i:=by omega
  have hd:=fD V0 i
  have hW:=hI.dig.at hki
  obtain⟨n1,n2,n3,hN⟩:=hI.next hki
  have ec:((c.toNat:Nat):Int)=c:=by omega
  rw[ec] at n1 n2 n3 hN
  have q:(iv (W.set (j+n) t))[j+i]? =some [.int .i64 W[j+i]]:=by rw[fR _ _ (by simpa using hki),List.getElem_set_ne hne]
  have w3:IntKind.i64.wrap ((i:Int)+1)=i+1:=i64_in (by omega) (by omega)
  have w1:IntKind.i64.wrap (W[j+i]+(dg V0 i:Int))=W[j+i]+(dg V0 i:Int):=i64_in (by omega) (by omega)
  have w2:IntKind.i64.wrap (W[j+i]+(dg V0 i:Int)+c)=W[j+i]+(dg V0 i:Int)+c:=i64_in (by omega) (by omega)
  have w4:=wq (x:=W[j+i]+(dg V0 i:Int)+c) (n:=1000000000) n1 (by omega) (by omega)
  have him:(i:Int)<m:=by omega
  simp[-fR,eE _ _ hv,q,w1,w2,w3,w4,him]
  rw[aB]
  refine⟨⟨i+1,W.set (j+i) ((W[j+i]+(dg V0 i:Int)+c).tmod 1000000000),(W[j+i]+(dg V0 i:Int)+c).tdiv 1000000000⟩,⟨by simp only;omega,n3,hN⟩,by simp only;omega,rfl,by simp,sub_eq ?_⟩
  rw[eJ,List.set_comm _ _ hne]
 ·have e:i=n:=by omega
  subst e
  have hki:j+i<W.length:=by omega
  obtain⟨c',rfl⟩: ∃c':Nat,c=c':=⟨c.toNat,by omega⟩
  have w1:IntKind.i64.wrap (t+(c':Int))=t+(c':Int):=i64_in (by omega) (by omega)
  have him:(i:Int)<m:=by omega
  have q:(iv (W.set (j+i) t))[j+i]? =some [.int .i64 t]:=by rw[fR _ _ (by simpa using hki),List.getElem_set_self]
  simp[-fR,hn,him,hki,q,w1]
  refine⟨by omega,?_⟩
  rw[lY]
  refine⟨[],rfl,?_⟩
  have:=hK (retV []) W c' hki (by simpa using hI)
  rw[eJ,List.set_set]
  exact this

theorem jV (a:List Int) (ha:a.length≤1048576):NW Tryz.prog 174 [.sl (iv a)] (fl 1 (iv a)):=by
 cases a with
 | nil =>
   intro bl
   refine uT ?_ ?_
   ·refine oV ?_
    refine bD Tryz.func174 rfl rfl (by rw[Tryz.ntmps174];simp) ?_
    rw[Tryz.ntmps174,Tryz.results174]
    refine aC ?_
    simp
    exact fA [.nils] [] rfl (jU.2 (.inl ⟨rfl,rfl,rfl⟩)) (by simp) (Sub.refl _)
   ·refine oV ?_
    refine bD Tryz.func174 rfl rfl (by rw[Tryz.ntmps174];simp) ?_
    rw[Tryz.ntmps174,Tryz.results174]
    refine aC ?_
    simp
    intro g hg0 hg
    simp[appV,elsV]
    intro g' hb'
    refine fA [.lsl g' 1 0 0] [g'] (by simp) (jU.2 (.inr ⟨g',rfl,rfl,by simp[iv],fun _=>rfl⟩)) ?_ ?_
    ·simp;grind
    ·have:bl g'=none:=by grind
     simp[hg,this]
 | cons x a =>
   simp only[List.length_cons] at ha
   refine jQ Tryz.func174 rfl rfl (by rw[Tryz.ntmps174];simp) fun bl=> ?_
   rw[Tryz.ntmps174,Tryz.results174]
   refine aC ?_
   simp[iv]
   intro g hg0 hg
   simp[appV,elsV]
   refine⟨by omega,fun g' hg' hb'=> ?_⟩
   have hbn:bl g'=none:=by grind
   refine fA [.lsl g' 1 0 (a.length+1)] [g'] (by simp) ?_ (by simpa using hbn) (by simp[hg,hbn])
   exact(jU (ns:=x::a)).2 (.inr ⟨g',by simp,rfl,by simp[iv],by omega⟩)
theorem xX (a:List Int) (ha:a.length≤1048576):RO Tryz.prog 174 [.sl (iv a)] (.sl (iv a)):=by
 have:=eK 1 (jV a ha) (mN _ _ 0)
 simpa using this

theorem Je {a b:Nat} :iW a b<0 ↔ a<b:=by unfold iW;split<;>(try split)<;>omega
theorem aCH {b:Nat} (h:(lim b).length=1):dg b 0=b∧b<1000000000∧0<b:=by
 have h1:=dO b 0
 rw[iB (by omega)] at h1
 have h2:=fD b 0
 have h3:b≠0:=fun h0=>by rw[h0,aX] at h;simp at h
 simp at h1
 omega
theorem Oz {d:Nat} (h0:0<d) (h1:d<1000000000):1≤1000000000 / (d+1)∧1000000000 / (d+1)<1000000000∧1000000000 / (d+1)*(d+1)≤1000000000:=by
 refine⟨?_,?_,Nat.div_mul_le_self _ _⟩
 ·rw[Nat.le_div_iff_mul_le (by omega)];omega
 ·exact Nat.div_lt_self (by omega) (by omega)
theorem X8 {f:Nat} (h0:0<f) (h1:f<1000000000):lim f= [(f:Int)]:=by
 rw[kH (by omega),show f / LB=0 from Nat.div_eq_of_lt h1,aX,show f % LB=f from Nat.mod_eq_of_lt h1]
theorem Rg {b f n:Nat} (hn:(lim b).length=n+1) (hf:f*(dg b n+1)≤LB) (hf0:0<f):(lim (b*f)).length=n+1:=by
 have h1:=bW (a:=b) (b:=b*f) (Nat.le_mul_of_pos_right _ hf0)
 have h2:(lim (b*f)).length≤n+1:=by
  refine aH.2 ?_
  have e:=dO b n
  rw[iB (by omega)] at e
  have hl:=Cz b n
  have h3:b+1≤LB^n*(dg b n+1):=by rw[Nat.mul_add];omega
  have h4:(b+1)*f≤LB^n*(dg b n+1)*f:=Nat.mul_le_mul_right _ h3
  have h5:LB^n*(dg b n+1)*f≤LB^n*LB:=by
   rw[Nat.mul_assoc,Nat.mul_comm (dg b n+1)];exact Nat.mul_le_mul_left _ hf
  rw[Nat.pow_succ]
  rw[Nat.add_mul,Nat.one_mul] at h4
  omega
 omega
theorem KnI.start {a b f k n:Nat} (hn:(lim b).length=n) (hf:0<f) (hb:0<b) (hL:(lim a).length+1≤(lim (a*f)).length+k) (hnL:n≤(lim a).length):
  KnI (a*f) (b*f) ((lim (a*f)).length+k) n ((lim (a*f)).length+k - n) (lim (a*f)++List.replicate k 0) []:=by
 have hd:Dig (lim (a*f)++List.replicate k 0):=Dig.append.2 ⟨iF _,oG k⟩
 have hv:val (lim (a*f)++List.replicate k 0)=a*f:=by rw[iA,oJ,fL];simp
 refine⟨by simp,hd,by omega,by simp,(fun _ h=>by cases h),by rw[hv];simp[val],?_⟩
 generalize hj:(lim (a*f)).length+k - n=j
 have hs:=jB (lim (a*f)++List.replicate k 0) (k:=j) (by simp;omega)
 rw[hv] at hs
 generalize val ((lim (a*f)++List.replicate k 0).drop j)=x at hs ⊢
 rcases Nat.lt_or_ge x (b*f) with h | h
 ·exact h
 exfalso
 have h1:LB^j*(b*f)≤a*f:=by
  have:=Nat.mul_le_mul_left (LB^j) h
  omega
 have h2:LB^j*b≤a:=by
  rw[←Nat.mul_assoc] at h1
  exact Nat.le_of_mul_le_mul_right h1 hf
 have h3:=wV (n:=b) (by omega)
 have h4:LB^j*LB^((lim b).length - 1)≤LB^j*b:=Nat.mul_le_mul_left _ h3
 rw[←Nat.pow_add] at h4
 have h5:a<LB^(lim a).length:=aH.1 (Nat.le_refl _)
 have hb1:(lim b).length≠0:=fun h0=>by have:=fK.1 (List.length_eq_zero_iff.1 h0);omega
 have h6:LB^(lim a).length≤LB^(j+((lim b).length - 1)):=Nat.pow_le_pow_right gZ (by omega)
 omega
theorem S0 {a b f:Nat} (hf:0<f):a*f / (b*f)=a / b∧a*f % (b*f)=a % b*f:=⟨Nat.mul_div_mul_right _ _ hf,Nat.mul_mod_mul_right _ _ _⟩
structure GC (U V top t1 v1 v2 T ul vl : Nat) : Prop where
 hu:U=(top*LB+t1)*T+ul
 hv:V=(v1*LB+v2)*T+vl
 hul:ul<T
 hvl:vl<T
 hv1:0<v1
 hv2:v2<LB
 aEI:v1<LB
 ht1:t1<LB
 qV:top≤v1*LB+(LB - 1)
 hlt:U<LB*V
theorem GC.V0 {U V top t1 v1 v2 T ul vl:Nat} (h:GC U V top t1 v1 v2 T ul vl):0<V:=by
 rw[h.hv]
 have:=h.hvl
 have h0:0<v1*LB+v2:=by have:=Nat.mul_pos h.hv1 gZ;omega
 have h1:=Nat.mul_pos h0 (show 0<T by omega)
 omega
structure GI (U V top v1 g r : Nat) : Prop where
 eq:top=g*v1+r
 lt:r<LB
 le:U / V≤g
theorem GC.start {U V top t1 v1 v2 T ul vl:Nat} (h:GC U V top t1 v1 v2 T ul vl):GI U V top v1 (top / v1) (top % v1):=by
 refine⟨by rw[Nat.mul_comm];exact(Nat.div_add_mod _ _).symm,Nat.lt_trans (Nat.mod_lt _ h.hv1) h.aEI,?_⟩
 have e1:U=top*(LB*T)+(t1*T+ul):=by rw[h.hu,Nat.add_mul,Nat.mul_assoc,Nat.add_assoc]
 have e2:V=v1*(LB*T)+(v2*T+vl):=by rw[h.hv,Nat.add_mul,Nat.mul_assoc,Nat.add_assoc]
 rw[e1,e2]
 refine Ho ?_ h.hv1
 have h1:(t1+1)*T≤LB*T:=Nat.mul_le_mul_right _ h.ht1
 rw[Nat.add_mul] at h1
 have:=h.hul
 omega
theorem GC.dec {U V top t1 v1 v2 T ul vl g r:Nat} (h:GC U V top t1 v1 v2 T ul vl) (hI:GI U V top v1 g r) (hc:LB≤g∨r*LB+t1<g*v2):0<g∧U / V≤g - 1∧top=(g - 1)*v1+(r+v1):=by
 have h1:U / V<g:=by
  rcases hc with hc | hc
  ·exact O6 h.V0 h.hlt hc
  ·have h2:=(vJ (v2:=v2) (u:=t1) hI.eq).1 hc
   rw[h.hu,h.hv]
   exact Ah (by have:=h.hul;omega) h.hul (by have:=Nat.mul_pos h.hv1 gZ;omega) h2
 generalize U / V=q at h1 ⊢
 refine⟨by omega,by omega,?_⟩
 obtain⟨k,rfl⟩: ∃k,g=k+1:=⟨g - 1,by omega⟩
 have:=hI.eq
 rw[Nat.add_mul] at this
 rw[Nat.add_sub_cancel]
 omega
theorem GC.done {U V top t1 v1 v2 T ul vl g r:Nat} (h:GC U V top t1 v1 v2 T ul vl) (hI:GI U V top v1 g r) (h1:g<LB) (h2:g*v2≤r*LB+t1):g=U / V∨g=U / V+1:=by
 have hle:=hI.le
 have h3:g*(v1*LB+v2)≤top*LB+t1:=by
  have:=vJ (v2:=v2) (u:=t1) hI.eq
  omega
 have:=yX (ul:=ul) h.hvl h.hv1 h1 h3
 rw[←h.hu,←h.hv] at this
 generalize U / V=q at *
 omega
theorem GC.brk {U V top t1 v1 v2 T ul vl g r:Nat} (h:GC U V top t1 v1 v2 T ul vl) (h0:top=g*v1+r) (h1:LB≤r) (h2:U / V≤g):g<LB∧(g=U / V∨g=U / V+1):=by
 obtain⟨h3,h4⟩:=J2 (u:=t1) h0 h1 h.qV h.hv2 h.hv1
 have:=yX (ul:=ul) h.hvl h.hv1 h3 h4
 rw[←h.hu,←h.hv] at this
 generalize U / V=q at *
 exact⟨h3,by omega⟩

structure OL where
 j:Nat
 u:List Int
 Q:List Int
structure QL where
 g:Int
 r:Int
set_option maxHeartbeats 2000000 in
theorem uC (a b:Nat) (hb0:0<b) (ha:(lim a).length≤300000) (hbl:(lim b).length≤300000):RO Tryz.prog 176 [.sl (iv (lim a)),.sl (iv (lim b))] (.tup [.sl (iv (lim (a / b))),.sl (iv (lim (a % b)))]):=by
 refine aK Tryz.func176 rfl rfl (by rw[Tryz.ntmps176];simp) fun bl=> ?_
 rw[Tryz.ntmps176,Tryz.results176]
 refine aE ?_
 simp
 refine aE ?_
 simp
 refine aD (iD a b (by omega) (by omega)) ?_
 simp[Je]
 refine⟨fun h=> ?_,fun h=> ?_⟩
 ·refine aD (xX (lim a) (by omega)) ?_
  have e1:a / b=0:=Nat.div_eq_of_lt h
  have e2:a % b=a:=Nat.mod_eq_of_lt h
  simp[e1,e2,aX]
  exact aQ [.nils,.sl (iv (lim a))] 1 (by simp) rfl (Sub.refl _)
 refine aE ?_
 simp
 refine⟨fun h1=> ?_,fun h1=> ?_⟩
 ·have h1':(lim b).length=1:=by omega
  obtain⟨b1,b2,b3⟩:=aCH h1'
  simp[eE b 0 (by omega),b1]
  refine aD (rI a b (by omega) b3 b2) ?_
  have hr:a % b<b:=Nat.mod_lt _ b3
  obtain⟨r,hr2⟩: ∃r,r=a % b:=⟨_,rfl⟩
  rw[←hr2] at hr ⊢
  have w1:IntKind.u64.wrap (r:Int)=r:=IntWalk.u64_in _ ⟨by omega,by omega⟩
  simp[w1]
  refine aD (pS r (by omega)) ?_
  simp
  exact aQ [.sl (iv (lim (a / b))),.sl (iv (lim r))] 1 (by simp) rfl (Sub.refl _)
 have hab:b≤a:=by omega
 have hla:=bW hab
 have hbz:(lim b).length≠0:=fun h0=>by have:=fK.1 (List.length_eq_zero_iff.1 h0);omega
 obtain⟨n,hn⟩: ∃n,(lim b).length=n+2:=⟨(lim b).length - 2,by omega⟩
 have hd0:0<dg b (n+1):=X7 hn
 have hd1:=fD b (n+1)
 obtain⟨f0,f1,f2⟩:=Oz hd0 hd1
 obtain⟨f,hf⟩: ∃f,f=1000000000 / (dg b (n+1)+1):=⟨_,rfl⟩
 rw[←hf] at f0 f1 f2
 have hbf:=Rg hn (show f*(dg b (n+1)+1)≤LB from f2) f0
 have hlf:=X8 f0 f1
 have hfl:(lim f).length=1:=by rw[hlf];rfl
 refine aE ?_
 have w0:IntKind.i64.wrap (((lim b).length:Int) - 1)=((n+1:Nat):Int):=by rw[i64_in (by omega) (by omega)];omega
 have w1:IntKind.i64.wrap ((dg b (n+1):Int)+1)=(dg b (n+1):Int)+1:=i64_in (by omega) (by omega)
 have w2:IntKind.i64.wrap ((1000000000:Int).tdiv ((dg b (n+1):Int)+1))=f:=by
  rw[Int.tdiv_eq_ediv_of_nonneg (by omega),show(1000000000:Int) / ((dg b (n+1):Int)+1)=((1000000000 / (dg b (n+1)+1):Nat):Int) by simp,←hf]
  exact i64_in (by omega) (by omega)
 have hz1: ¬ (dg b (n+1):Int)+1=0:=by omega
 generalize hdd:dg b (n+1)=d at *
 have lg:=eE b (n+1) (by omega)
 rw[hdd] at lg
 have er1:List.range 1= [0]:=rfl
 simp[-binV, -intV,w0,w1,w2,lg,hz1,er1]
 refine⟨by omega,fun g8 hg8 hb8=> ?_⟩
 refine dJ 1 8 (.sl (iv (lim f))) bl (by simp[hb8]) ?_ ?_
 ·rw[hlf]
  exact dU hg8 hb8 (by simp;rfl) rfl rfl
 refine aE ?_
 simp
 refine H2 a f (by omega) (by omega) (by omega) (by omega) fun g O hg0 hg hO ht=> ?_
 simp
 intro g2 hg2 h2g hb2
 simp[h2g,Ne.symm h2g,appV,elsV,Int.not_lt.2 hg2,hO,Int.not_lt.2 hg0]
 have aMI:(lim (a*f)).length≤(lim a).length+1:=by
  refine aH.2 ?_
  have h2:a<LB^(lim a).length:=aH.1 (Nat.le_refl _)
  rw[Nat.pow_succ]
  exact Nat.mul_lt_mul_of_lt_of_le h2 (Nat.le_of_lt f1) gZ
 have aNE:=bW (a:=a) (b:=a*f) (Nat.le_mul_of_pos_right _ f0)
 refine⟨by omega,fun g3 hg3 hb3=> ?_⟩
 have xH:bl g3=none:=by grind
 refine aD (jX b f (by omega) (by omega)) ?_
 simp
 refine lW (fun p:Int×Nat=> [(0,.sl (iv (lim a))),(8,.sl (iv (lim f))),(9,.lsl p.1 1 0 ((lim (a*f)).length+p.2)),(10,.sl (iv (lim (b*f))))]) (fun p=>upd bl p.1 (some ⟨1,iv (lim (a*f)++List.replicate p.2 0)⟩))
  (fun p=>bl p.1=none∧0≤p.1∧(lim a).length+1≤(lim (a*f)).length+p.2∧1≤p.2∧p.2≤3) 172 ?_ ?_
 ·refine aC ?_
  simp
  refine aP (fun p:Int×Nat=> [(0,.sl (iv (lim a))),(8,.sl (iv (lim f))),(9,.lsl p.1 1 0 ((lim (a*f)).length+p.2)),(10,.sl (iv (lim (b*f))))]) (fun p=>upd bl p.1 (some ⟨1,iv (lim (a*f)++List.replicate p.2 0)⟩))
   (fun p=>bl p.1=none∧0≤p.1∧1≤p.2∧p.2≤3) (fun p=>3 - p.2) _ (g3,1) ⟨xH,hg3,by simp,by simp⟩ ⟨rfl,by simp,lH (by simp[mT,B2,ht];rfl) (by simp[hg,hb2])⟩ ?_
  rintro⟨g4,k⟩ ⟨hb4,hg4,hk1,hk3⟩
  simp only at hb4 hg4 hk1 hk3
  refine aC ?_
  simp
  refine⟨fun h2=> ?_,fun h2=> ?_⟩
  ·intro g5 hg5 h54 hb5
   simp[h54,Ne.symm h54,appV,elsV,Int.not_lt.2 hg5]
   refine⟨by omega,fun g6 hg6 hb6=> ?_⟩
   have aKV:bl g6=none:=by grind
   rw[aB]
   refine⟨(g6,k+1),⟨aKV,hg6,by simp,by simp only;omega⟩,by simp only;omega,rfl,by simp[Nat.add_assoc],lH ?_ (by simp[hb4,hb5])⟩
   rw[List.take_of_length_le (by simp)]
   simp[iv,List.replicate_succ']
  ·rw[aF]
   exact⟨(g4,k),⟨hb4,hg4,by simp only;omega,hk1,hk3⟩,rfl,by simp,Sub.refl _⟩
 rintro⟨g4,k⟩ ⟨hb4,hg4,hk0,hk1,hk3⟩
 simp only at hb4 hg4 hk0 hk1 hk3
 have hKs:=KnI.start (a:=a) (b:=b) (f:=f) (k:=k) hn f0 hb0 hk0 (by omega)
 generalize hL:(lim (a*f)).length+k=L at *
 obtain⟨N,hN⟩: ∃N,N=n+2:=⟨_,rfl⟩
 have Uj:(lim (b*f)).length=N:=by omega
 rw[←hN] at hKs
 have hLn:N≤L:=by omega
 have w3:IntKind.i64.wrap ((L:Int) - (N:Int))=((L - N:Nat):Int):=by rw[i64_in (by omega) (by omega)];omega
 have w4:IntKind.i64.wrap (((L - N:Nat):Int) - 1)=((L - N:Nat):Int) - 1:=i64_in (by omega) (by omega)
 refine aC ?_
 simp[Uj,w3,w4]
 refine⟨by omega,by unfold maxLen;omega,fun g5 hg5 h54 hb5=> ?_⟩
 have er:List.replicate (L - N) [V.int IntKind.i64 0]=iv (List.replicate (L - N) 0):=by simp[iv]
 simp[er,h54,Ne.symm h54,Uj,w3,w4]
 refine aP (fun p:OL=> [(8,.sl (iv (lim f))),(9,.lsl g4 1 0 L),(10,.sl (iv (lim (b*f)))),(11,.int .i64 N),(12,.lsl g5 1 0 (L - N)),(13,.int .i64 ((p.j:Int) - 1))]) (fun p=>upd (upd bl g4 (some ⟨1,iv p.u⟩)) g5 (some ⟨1,iv (List.replicate p.j 0++p.Q)⟩))
  (fun p=>p.j≤L - N∧KnI (a*f) (b*f) L N p.j p.u p.Q) (fun p=>p.j) _ ⟨L - N,_,[]⟩ ⟨Nat.le_refl _,hKs⟩ ⟨rfl,by simp,sub_eq (by simp)⟩ ?_
 rintro⟨j,u,Q⟩ ⟨hj,hI⟩
 simp only at hj hI
 have hlen:=hI.len
 refine aE ?_
 simp
 refine⟨fun h2=> ?_,fun h2=> ?_⟩
 ·obtain⟨m,rfl⟩: ∃m,j=m+1:=⟨j - 1,by omega⟩
  have hV:=Uj
  generalize hVV:b*f=W at *
  have hUV:=hI.U
  have hz:=hI.zero hV
  have hk3:m+N<u.length:=by omega
  have hk2:m+(n+1)<u.length:=by omega
  have hk1:m+n<u.length:=by omega
  have t3:=hI.dig.at hk3
  have t2:=hI.dig.at hk2
  have t1:=hI.dig.at hk1
  obtain⟨wT,qV⟩: ∃t,t=u[m+N].toNat*LB+u[m+(n+1)].toNat:=⟨_,rfl⟩
  have hGC:GC (val (u.drop m)) W wT u[m+n].toNat (dg W (n+1)) (dg W n) (LB^n) (val ((u.drop m).take n)) (pv W n):=by
   have hLB:LB=1000000000:=rfl
   subst hN
   have htv:=hI.top hV hk3
   refine⟨?_,aEE hV,?_,Cz _ _,X7 hV,?_,?_,?_,?_,hUV⟩
   ·rw[qV];exact aDD hI.dig hz hk3 hk2 hk1
   ·exact kN fun d hd=>hI.dig d (List.mem_of_mem_drop hd)
   ·exact fD _ _
   ·exact fD _ _
   ·rw[hLB];omega
   ·rw[qV,hLB];omega
  have hv1:=hGC.hv1
  have aEI:=fD W (n+1)
  have aNJ:=fD W n
  refine lW (fun p:OL=> [(8,.sl (iv (lim f))),(9,.lsl g4 1 0 L),(10,.sl (iv (lim W))),(11,.int .i64 N),(12,.lsl g5 1 0 (L - N)),(13,.int .i64 (p.j:Int))]) (fun p=>upd (upd bl g4 (some ⟨1,iv p.u⟩)) g5 (some ⟨1,iv (List.replicate p.j 0++p.Q)⟩))
   (fun p=>p.j=m∧KnI (a*f) W L N m p.u p.Q) 172 ?_ ?_
  ·refine cC ?_
   refine aE ?_
   simp[-binV, -intV]
   have e1:((m+1:Nat):Int) - 1=m:=by omega
   have i1:IntKind.i64.wrap ((m:Int)+N)=(m:Int)+N:=i64_in (by omega) (by omega)
   have i2:IntKind.i64.wrap ((m:Int)+N - 1)=(m:Int)+(n+1):=by rw[i64_in (by omega) (by omega)];omega
   have i3:IntKind.i64.wrap ((N:Int) - 1)=(n:Int)+1:=by rw[i64_in (by omega) (by omega)];omega
   have p1:0≤(m:Int)+N:=by omega
   have p2:0≤(m:Int)+(n+1):=by omega
   have p3:0≤(n:Int)+1:=by omega
   have l1:(m:Int)+N<L:=by omega
   have l2:(m:Int)+(n+1)<L:=by omega
   have c1:((m:Int)+N).toNat=m+N:=by omega
   have c2:((m:Int)+(n+1)).toNat=m+(n+1):=by omega
   have c3:((n:Int)+1).toNat=n+1:=by omega
   have hLB:LB=1000000000:=rfl
   have x1:IntKind.i64.wrap (u[m+N]*1000000000)=u[m+N]*1000000000:=i64_in (by omega) (by omega)
   have x2:IntKind.i64.wrap (u[m+N]*1000000000+u[m+(n+1)])=wT:=by rw[i64_in (by omega) (by omega),qV,hLB];omega
   have hz0: ¬ dg W (n+1)=0:=by omega
   have aLO:wT≤1000000000000000000:=by rw[qV,hLB];omega
   have lw:=eE W (n+1) (by omega)
   have y1:(wT:Int).tdiv (dg W (n+1):Nat)=(wT / dg W (n+1):Nat):=by rw[Int.tdiv_eq_ediv_of_nonneg (by omega)];simp
   have y2:(wT:Int).tmod (dg W (n+1):Nat)=(wT % dg W (n+1):Nat):=by rw[Int.tmod_eq_emod_of_nonneg (by omega)];simp
   have y3:=wq (x:=(wT:Int)) (n:=(dg W (n+1):Nat)) (by omega) (by omega) (by omega)
   rw[y1] at y3
   obtain⟨g0,sH⟩: ∃g0:Int,g0=(wT / dg W (n+1):Nat):=⟨_,rfl⟩
   obtain⟨r0,Qx⟩: ∃r0:Int,r0=(wT % dg W (n+1):Nat):=⟨_,rfl⟩
   rw[←sH] at y1 y3
   rw[←Qx] at y2
   refine bI aN (by kernel_rfl) ?_
   simp[-binV, -intV,e1,i1,i2,p1,p2,l1,l2,c1,c2,hk3,hk2,x1,x2,h54,Ne.symm h54]
   refine aE ?_
   simp
   refine bI aN (by kernel_rfl) ?_
   simp[-binV, -intV,e1,i3,p3,c3,lw,hz0,y1,y2,y3]
   refine lW (fun p:QL=> [(8,.sl (iv (lim f))),(9,.lsl g4 1 0 L),(10,.sl (iv (lim W))),(11,.int .i64 N),(12,.lsl g5 1 0 (L - N)),(13,.int .i64 m),(15,.int .i64 p.g)]) (fun p=>upd (upd bl g4 (some ⟨1,iv u⟩)) g5 (some ⟨1,iv (List.replicate (m+1) 0++Q)⟩))
    (fun p=>0≤p.g∧p.g<1000000000∧(p.g.toNat=val (u.drop m) / W∨p.g.toNat=val (u.drop m) / W+1)) 172 ?_ ?_
   ·refine aC ?_
    simp[-binV, -intV]
    refine aP (fun p:QL=> [(8,.sl (iv (lim f))),(9,.lsl g4 1 0 L),(10,.sl (iv (lim W))),(11,.int .i64 N),(12,.lsl g5 1 0 (L - N)),(13,.int .i64 m),(15,.int .i64 p.g),(16,.int .i64 p.r)]) (fun p=>upd (upd bl g4 (some ⟨1,iv u⟩)) g5 (some ⟨1,iv (List.replicate (m+1) 0++Q)⟩))
     (fun p=>0≤p.g∧0≤p.r∧GI (val (u.drop m)) W wT (dg W (n+1)) p.g.toNat p.r.toNat) (fun p=>p.g.toNat) _ ⟨g0,r0⟩ ⟨by simp only[sH];exact Int.natCast_nonneg _,by simp only[Qx];exact Int.natCast_nonneg _,?_⟩ ⟨rfl,by simp,sub_eq (by simp)⟩ ?_
    ·have:=hGC.start
     simp only[sH,Qx,Int.toNat_natCast]
     exact this
    rintro⟨gg,rr⟩ ⟨hgg,hrr,hGI⟩
    simp only at hgg hrr hGI
    refine aE ?_
    simp[-binV, -intV]
    have hgN:gg≤1000000000000000000:=by
     have e:=hGI.eq
     have h3:gg.toNat*1≤gg.toNat*dg W (n+1):=Nat.mul_le_mul_left _ hv1
     omega
    have hrl:=hGI.lt
    rw[hLB] at hrl
    have i4:IntKind.i64.wrap ((N:Int) - 2)=(n:Int):=by rw[i64_in (by omega) (by omega)];omega
    have i5:IntKind.i64.wrap ((m:Int)+N - 2)=(m:Int)+n:=by rw[i64_in (by omega) (by omega)];omega
    have p4:0≤(m:Int)+n:=by omega
    have l4:(m:Int)+n<L:=by omega
    have c4:((m:Int)+n).toNat=m+n:=by omega
    have lw2:=eE W n (by omega)
    have z1:IntKind.i64.wrap (rr*1000000000)=rr*1000000000:=i64_in (by omega) (by omega)
    have z2:IntKind.i64.wrap (rr*1000000000+u[m+n])=rr*1000000000+u[m+n]:=i64_in (by omega) (by omega)
    refine X0 aN (by kernel_rfl) [(8,.sl (iv (lim f))),(9,.lsl g4 1 0 L),(10,.sl (iv (lim W))),(11,.int .i64 N),(12,.lsl g5 1 0 (L - N)),(13,.int .i64 m),(15,.int .i64 gg),(16,.int .i64 rr)] _ (upd (upd bl g4 (some ⟨1,iv u⟩)) g5 (some ⟨1,iv (List.replicate (m+1) 0++Q)⟩))
     131 (.bool (decide (1000000000≤gg)|| decide (rr*1000000000+u[m+n]<gg*(dg W n:Nat)))) ⟨rfl,by simp,Sub.refl _⟩ rfl ?_ ?_
    ·by_cases hbig:1000000000≤gg
     ·simp[-binV, -intV,hbig]
     ·have z3:IntKind.i64.wrap (gg*(dg W n:Nat))=gg*(dg W n:Nat):=by
       have q1:0≤gg*(dg W n:Nat):=Int.mul_nonneg hgg (by omega)
       have q2:gg*(dg W n:Nat)≤1000000000*1000000000:=Int.mul_le_mul (by omega) (by omega) (by omega) (by omega)
       exact i64_in (by omega) (by omega)
      simp[-binV, -intV,hbig,i1,i4,i5,p4,l4,c4,hk1,lw2,z1,z2,z3,h54,Ne.symm h54]
    have conv:(1000000000≤gg∨rr*1000000000+u[m+n]<gg*(dg W n:Nat)) ↔ (LB≤gg.toNat∨rr.toNat*LB+u[m+n].toNat<gg.toNat*dg W n):=by
     have e:gg*(dg W n:Nat)=((gg.toNat*dg W n:Nat):Int):=by rw[Int.natCast_mul,Int.toNat_of_nonneg hgg]
     rw[e,hLB];omega
    simp[-binV, -intV]
    refine⟨fun hc=> ?_,fun hc1 hc2=> ?_⟩
    ·obtain⟨d1,d2,d3⟩:=hGC.dec hGI (conv.1 hc)
     have q1:IntKind.i64.wrap (gg - 1)=gg - 1:=i64_in (by omega) (by omega)
     have q2:IntKind.i64.wrap (rr+(dg W (n+1):Nat))=rr+(dg W (n+1):Nat):=i64_in (by omega) (by omega)
     have e1:(gg - 1).toNat=gg.toNat - 1:=by omega
     have e2:(rr+(dg W (n+1):Nat)).toNat=rr.toNat+dg W (n+1):=by omega
     refine aC ?_
     simp[-binV, -intV,q1,q2,i3,p3,c3,lw]
     refine⟨fun hb=> ?_,fun hb=> ?_⟩
     ·obtain⟨f3,f4⟩:=hGC.brk d3 (by rw[hLB];omega) d2
      rw[hLB] at f3
      rw[aF]
      exact⟨⟨gg - 1,0⟩,⟨by simp only;omega,by simp only;omega,by rw[e1];exact f4⟩,rfl,by simp,Sub.refl _⟩
     ·rw[aB]
      exact⟨⟨gg - 1,rr+(dg W (n+1):Nat)⟩,⟨by simp only;omega,by simp only;omega,⟨by rw[e1,e2];exact d3,by rw[e2,hLB];omega,by rw[e1];exact d2⟩⟩,by simp only;omega,rfl,by simp,Sub.refl _⟩
    ·have hn: ¬ (LB≤gg.toNat∨rr.toNat*LB+u[m+n].toNat<gg.toNat*dg W n):=fun hh=>(conv.2 hh).elim (fun h=>by omega) (fun h=>by omega)
     have f4:=hGC.done hGI (by rcases Nat.lt_or_ge gg.toNat LB with h | h;exact h;exact(hn (.inl h)).elim) (by rcases Nat.lt_or_ge (rr.toNat*LB+u[m+n].toNat) (gg.toNat*dg W n) with h | h;exact(hn (.inr h)).elim;exact h)
     rw[aF]
     exact⟨⟨gg,0⟩,⟨hgg,by simp only;omega,f4⟩,rfl,by simp,Sub.refl _⟩
   ·rintro⟨gg,rr⟩ ⟨hgg,hg9,hgD⟩
    simp only at hgg hg9 hgD
    obtain⟨gN,rfl⟩: ∃gN:Nat,gg=gN:=⟨gg.toNat,by omega⟩
    rw[Int.toNat_natCast] at hgD
    have hs:sliV Tryz.prog 27 (.lsl g4 1 0 L) (some (.int .i64 (m:Nat))) none=some (.lsl g4 1 m (L - m)):=by
     simp[sliV]
     rcases Nat.eq_zero_or_pos m with h | h
     ·subst h;simp;omega
     ·simp[show ¬ m=0 by omega,show ¬ m=L by omega];omega
    have hW0:=hGC.V0
    have b4:(upd (upd bl g4 (some ⟨1,iv u⟩)) g5 (some ⟨1,iv (List.replicate (m+1) 0++Q)⟩)) g4=some ⟨1,iv u⟩:=by simp[Ne.symm h54]
    have q5:(iv (List.replicate (m+1) 0++Q))[m]? =some [.int .i64 0]:=by rw[fR _ _ (by simp;omega)];simp
    have lm:m<L - N:=by omega
    refine aE ?_
    simp[hs]
    refine Lf u W gN m N (L - m) g4 hg4 b4 hI.dig hV (by omega) (by omega) (by omega) (by omega) fun O c hk hT=> ?_
    have hOl:=hT.len
    simp
    refine⟨fun hc=> ?_,fun hc=> ?_⟩
    ·have hov:=S7 hI.dig hT hV hk hz hgD hW0 (by omega)
     have q1:IntKind.i64.wrap ((gN:Int) - 1)=(val (u.drop m) / W:Nat):=by rw[i64_in (by omega) (by omega),hov];simp
     have hO9:=hT.dig.at hk
     have hc9:=hT.c1
     simp[hs,q1]
     refine Mf O (O[m+N] - c) W m N (L - m) g4 hg4 hk (by simp[Ne.symm h54]) hT.dig hV (by omega) (by omega) (by omega) fun v W2 d2 hk2 hG=> ?_
     obtain⟨z0,zD,zv⟩:=P2 hI.dig hT hG hV hk hk2 hz hov hW0
     rw[z0]
     have hN2:=hI.next (O:=W2.set (m+N) 0) (by simp[hG.len,hOl,hlen]) zD zv
     simp
     refine aC ?_
     simp[q5,h54,Ne.symm h54,lm]
     rw[aF]
     refine⟨⟨m,W2.set (m+N) 0,((val (u.drop m) / W:Nat):Int)::Q⟩,⟨rfl,hN2⟩,rfl,by simp,sub_eq ?_⟩
     funext x
     simp only[aA,←vU m _ 0 Q,←eJ]
     by_cases x1:x=g5
     ·simp[x1]
     ·by_cases x2:x=g4<;>simp[x1,x2]
    ·obtain⟨zD,zq,zv⟩:=N5 hI.dig hT hV hk hgD hW0 (by omega)
     have hN2:=hI.next (O:=O.set (m+N) (O[m+N] - c)) (by simp[hOl,hlen]) zD zv
     refine aC ?_
     rw[zq]
     simp[q5,h54,Ne.symm h54,lm]
     rw[aF]
     refine⟨⟨m,O.set (m+N) (O[m+N] - c),((val (u.drop m) / W:Nat):Int)::Q⟩,⟨rfl,hN2⟩,rfl,by simp,sub_eq ?_⟩
     funext x
     simp only[aA,←vU m _ 0 Q,←eJ]
     by_cases x1:x=g5
     ·simp[x1]
     ·by_cases x2:x=g4<;>simp[x1,x2]
  ·rintro⟨j',u',Q'⟩ ⟨hj',hI'⟩
   simp only at hj' hI'
   subst hj'
   have w5:IntKind.i64.wrap ((j':Int) - 1)=(j':Int) - 1:=i64_in (by omega) (by omega)
   refine aC ?_
   simp[w5]
   rw[aB]
   exact⟨⟨j',u',Q'⟩,⟨by simp only;omega,hI'⟩,by simp only;omega,rfl,by simp,Sub.refl _⟩
 ·have e:j=0:=by omega
  subst e
  obtain⟨v1,v2⟩:=hI.done
  obtain⟨s1,s2⟩:=S0 (a:=a) (b:=b) (f:=f) f0
  rw[s1] at v1
  rw[s2] at v2
  have lf:=eE f 0 (by omega)
  have df:dg f 0=f:=(aCH hfl).1
  have hq2:a % b*f / f=a % b:=Nat.mul_div_cancel _ f0
  have hlu:(lim (a % b*f)).length≤1048576:=by
   have:=bW (a:=a % b*f) (b:=a*f) (Nat.mul_le_mul_right _ (Nat.mod_le _ _));omega
  refine dJ 1 9 (.sl (iv u)) (upd bl g5 (some ⟨1,iv Q⟩)) (by intro x y;simp only[aA];grind) ?_ ?_
  ·exact dU hg4 (by simp[Ne.symm h54,hb4]) (by simp[Ne.symm h54]) (by simp[hlen]) (lR u)
  refine dJ 1 12 (.sl (iv Q)) bl (by simp[hb5]) ?_ ?_
  ·exact dU hg5 hb5 (by simp) (by simp[hI.Up]) (lR Q)
  refine bI aN (by kernel_rfl) ?_
  simp
  refine aG (rA u hI.dig (by omega)) ?_
  simp[v2,lf,df]
  refine aG (rI _ f hlu f0 f1) ?_
  simp[hq2]
  refine aD (rA Q hI.Yw (by have:=hI.Up;omega)) ?_
  simp[v1]
  exact aQ [.sl (iv (lim (a / b))),.sl (iv (lim (a % b)))] 1 (by simp) rfl (Sub.refl _)
end Go.Proofs.YticmgmemnpcbbaaGreat.Vm

namespace Go.Proofs.YticmgmemnpcbbaaGreat.Vm
set_option linter.unusedSimpArgs false
set_option linter.unusedVariables false
structure RT where
 neg:Bool
 m:List Int
 d:List Int
 deriving DecidableEq
def rq (q:Rat):RT:=⟨decide (q.num<0),lim q.num.natAbs,lim q.den⟩
def rz :RT:=⟨false,[],[]⟩
def fits (q:Rat):Prop:=(lim q.num.natAbs).length≤24∧(lim q.den).length≤24
instance (q : Rat) : Decidable (fits q) := by unfold fits; infer_instance
def fit (q:Rat):Option Rat:=if fits q then some q else none
def RT.ok (r:RT):Prop:=lim (val r.m)=r.m∧lim (val r.d)=r.d∧r.m.length≤24∧r.d.length≤24∧r.d≠ []∧ ¬ (r.neg=true∧r.m= [])∧Nat.gcd (val r.m) (val r.d)=1
instance (r : RT) : Decidable r.ok := by unfold RT.ok; infer_instance
def RT.num (r:RT):Int:=if r.neg then -(val r.m:Int) else val r.m
def rd (r:RT):Option Rat:=if r.ok then some (mkRat r.num (val r.d)) else none
def ro (x:Option Rat):RT:=match x with | some q=>rq q | none=>rz
@[simp] theorem aF0 : ro none = rz := rfl
@[simp] theorem aH2 (q : Rat) : ro (some q) = rq q := rfl
theorem xJ {n:Int} {d:Nat} (hd:d≠0) (h:Nat.gcd n.natAbs d=1):(mkRat n d).num=n∧(mkRat n d).den=d:=by
 rw[←Rat.normalize_eq_mkRat hd,Rat.normalize_eq hd]
 constructor
 ·show n / ((Nat.gcd n.natAbs d:Nat):Int)=n
  rw[h];simp
 ·show d / Nat.gcd n.natAbs d=d
  rw[h];simp
theorem RT.N9 (r:RT):r.num.natAbs=val r.m:=by
 unfold RT.num;split<;>simp
theorem rd_some {r:RT} {q:Rat} (h:rd r=some q):r=rq q∧fits q:=by
 unfold rd at h
 split at h
 ·rename_i hok
  obtain⟨h1,h2,h3,h4,h5,h6,h7⟩:=hok
  have hq:mkRat r.num (val r.d)=q:=Option.some.inj h
  have hd0:val r.d≠0:=fun h0=>by rw[h0,aX] at h2;exact h5 h2.symm
  have ha:=r.N9
  obtain⟨e1,e2⟩:=xJ (n:=r.num) hd0 (by rw[ha];exact h7)
  rw[hq] at e1 e2
  have f1:lim q.num.natAbs=r.m:=by rw[e1,ha,h1]
  have f2:lim q.den=r.d:=by rw[e2,h2]
  refine⟨?_,by rw[f1];exact h3,by rw[f2];exact h4⟩
  unfold rq
  rw[f1,f2,e1]
  cases r with
  | mk neg m d =>
    congr 1
    unfold RT.num
    simp only at h1 h6 ⊢
    cases neg
    ·simp
    ·simp
     have:m≠ []:=fun hm=>h6 ⟨rfl,hm⟩
     have:val m≠0:=fun h0=>by rw[h0,aX] at h1;exact this h1.symm
     omega
 ·cases h
theorem aB5 {q:Rat} (h:fits q):rd (rq q)=some q:=by
 have hok:(rq q).ok:=by
  unfold rq RT.ok
  simp only[fL]
  refine⟨trivial,trivial,h.1,h.2,fun h0=>q.den_nz (fK.1 h0),?_,q.reduced⟩
  rintro⟨h1,h2⟩
  have h3:q.num.natAbs=0:=fK.1 h2
  have:q.num<0:=by simpa using h1
  omega
 unfold rd
 rw[if_pos hok]
 congr 1
 have:(rq q).num=q.num:=by
  unfold rq RT.num
  simp only[fL]
  by_cases h1:q.num<0
  ·simp[h1];omega
  ·simp[h1];omega
 rw[this]
 show mkRat q.num (val (lim q.den))=q
 rw[fL,Rat.mkRat_self]
theorem aFS :rd rz=none:=by
 unfold rd
 rw[if_neg]
 rintro⟨_,_,_,_,h,_⟩
 exact h rfl
theorem Zk {r:RT} :(rd r).isSome=true ↔ r.ok:=by
 unfold rd;split<;>simp_all
theorem At :fits 0:=by
 unfold fits
 show(lim 0).length≤24∧(lim 1).length≤24
 rw[aX]
 exact⟨by simp,aH.2 (by decide+kernel)⟩
theorem fits_int {n:Int} (h:n.natAbs≤9223372036854775808):fits (n:Rat):=by
 unfold fits
 refine⟨aH.2 ?_,aH.2 ?_⟩
 ·show n.natAbs<_
  exact Nat.lt_of_le_of_lt h (by decide+kernel)
 ·show 1<_
  decide+kernel
end Go.Proofs.YticmgmemnpcbbaaGreat.Vm

namespace Go.Proofs.YticmgmemnpcbbaaGreat.Vm
open Go Go.Proofs
set_option linter.unusedSimpArgs false
set_option linter.unusedVariables false
theorem wI (a b:Nat) (ha:(lim a).length≤300000) (hb:(lim b).length≤300000):RO Tryz.prog 101 [.sl (iv (lim a)),.sl (iv (lim b))] (.sl (iv (lim (Nat.gcd a b)))):=by
 refine aK Tryz.func101 rfl rfl (by rw[Tryz.ntmps101];simp) fun bl=> ?_
 rw[Tryz.ntmps101,Tryz.results101]
 refine aC ?_
 simp
 refine aP (fun p:Nat×Nat=> [(0,.sl (iv (lim p.1))),(1,.sl (iv (lim p.2)))]) (fun _=>bl) (fun p=>Nat.gcd p.1 p.2=Nat.gcd a b∧(lim p.1).length≤300000∧(lim p.2).length≤300000) (fun p=>p.2) _ (a,b) ⟨rfl,ha,hb⟩ ⟨rfl,by simp,Sub.refl _⟩ ?_
 rintro⟨x,y⟩ ⟨hg,hx,hy⟩
 simp only at hg hx hy
 refine aC ?_
 simp
 refine⟨fun h=> ?_,fun h=> ?_⟩
 ·have hy0:0<y:=by
   rcases Nat.eq_zero_or_pos y with h0 | h0
   ·rw[h0,aX] at h;simp at h
   ·exact h0
  refine aD (uC x y hy0 hx hy) ?_
  simp[aB]
  have hlt:=Nat.mod_lt x hy0
  refine⟨y,x % y,⟨?_,hy,?_⟩,hlt,rfl,by simp,Sub.refl _⟩
  ·rw[←hg,Nat.gcd_comm x y,Nat.gcd_rec y x,Nat.gcd_comm]
  ·exact Nat.le_trans (bW (Nat.le_of_lt hlt)) hy
 ·have h0:y=0:=fK.1 (by simpa using h)
  subst h0
  rw[Nat.gcd_zero_right] at hg
  rw[←hg]
  exact aR (by simp) rfl rfl
def oL (ns:List Int):Bool:=decide (ns.length≤60)&& decide (lim (val ns)=ns)
theorem G5 {ns:List Int} :lim (val ns)=ns ↔ Dig ns∧(ns.length=0∨ns.getD (ns.length - 1) 1≠0):=by
 have Oe: ∀d,ns.getLast? =some d ↔ ns.length≠0∧ns.getD (ns.length - 1) 1=d:=by
  intro d
  rw[List.getLast?_eq_getElem?]
  rcases Nat.eq_zero_or_pos ns.length with h | h
  ·rw[List.getElem?_eq_none (by omega)];simp[h]
  ·have h1:ns.length - 1<ns.length:=by omega
   have h2:ns≠ []:=fun h0=>by rw[h0] at h;simp at h
   rw[List.getElem?_eq_getElem h1]
   simp[h1,h2]
 constructor
 ·intro h
  refine⟨h▸iF _,?_⟩
  by_cases h0:ns.length=0
  ·exact .inl h0
  ·exact .inr (K4 (val ns) _ (by rw[h];exact(Oe _).2 ⟨h0,rfl⟩))
 ·rintro⟨h1,h2⟩
  refine W5 h1 fun d hd=> ?_
  obtain⟨h3,h4⟩:=(Oe d).1 hd
  rcases h2 with h2 | h2
  ·exact absurd h2 h3
  ·rw[←h4];exact h2
theorem zC {ns:List Int} :oL ns=true ↔ ns.length≤60∧Dig ns∧(ns.length=0∨ns.getD (ns.length - 1) 1≠0):=by
 unfold oL
 rw[Bool.and_eq_true,decide_eq_true_eq,decide_eq_true_eq,G5]
theorem Bj (n:Int):RO Tryz.prog 175 [.int .i64 n] (.bool (decide (n<0)|| decide (1000000000≤n))):=by
 refine aK Tryz.func175 rfl rfl (by rw[Tryz.ntmps175];simp) fun bl=> ?_
 rw[Tryz.ntmps175,Tryz.results175]
 refine aC ?_
 simp
 refine eV [(0,.int .i64 n)] _ bl 2 (.bool (decide (n<0)|| decide (1000000000≤n))) bl ⟨rfl,by simp,Sub.refl _⟩ rfl ?_ ?_
 ·simp;grind
 simp
 exact aR (by simp) rfl rfl
theorem oP (ns:List Int) (hn:ns.length≤140737488351232):RO Tryz.prog 99 [.sl (iv ns)] (.bool (oL ns)):=by
 refine aK Tryz.func99 rfl rfl (by rw[Tryz.ntmps99];simp) fun bl=> ?_
 rw[Tryz.ntmps99,Tryz.results99]
 refine aC ?_
 simp
 refine aV [(0,.sl (iv ns))] _ bl 19 (.bool (decide (60<ns.length)|| (decide (0<ns.length)&& decide (ns.getD (ns.length - 1) 1=0)))) ⟨rfl,by simp,Sub.refl _⟩ rfl ?_ ?_
 ·have w1:0<ns.length→IntKind.i64.wrap ((ns.length:Int) - 1)=((ns.length - 1:Nat):Int):=fun h=>by rw[i64_in (by omega) (by omega)];omega
  have q1: ∀h:0<ns.length,(iv ns)[ns.length - 1]? =some [.int .i64 (ns[ns.length - 1]'(by omega))]:=fun h=>fR _ _ (by omega)
  simp
  refine⟨fun h=> .inl (by omega),fun h=>⟨fun h3=> ?_,fun h3=> ?_⟩⟩
  ·have h4:ns.length - 1<ns.length:=by omega
   have h5:ns.length≤60:=by omega
   have h6: ¬ 60<ns.length:=by omega
   simp[w1 h3,q1 h3,h3,h4,h6,rZ]
  ·subst h3;simp
 simp
 refine⟨fun h=> ?_,fun h1 h2=> ?_⟩
 ·refine aR ?_ rfl rfl
  have:oL ns=false:=by
   rw[Bool.eq_false_iff]
   intro hk
   obtain⟨k1,_,k3⟩:=zC.1 hk
   rcases h with h | ⟨h,h4⟩
   ·omega
   ·rcases k3 with k3 | k3
    ·omega
    ·simp at k3;exact k3 h4
  simp[this]
 ·refine aD (iJ ns _ [] (fun n=>decide (n<0)|| decide (1000000000≤n)) hn fun n _=>Bj n) ?_
  simp
  refine aR ?_ rfl rfl
  have:oL ns= !(ns.any fun n=>decide (n<0)|| decide (1000000000≤n)):=by
   rw[Bool.eq_iff_iff,zC]
   simp
   constructor
   ·rintro⟨_,k2,_⟩ x hx
    have:=k2 x hx
    omega
   ·intro h3
    refine⟨h1,fun d hd=>by have:=h3 d hd;omega,?_⟩
    by_cases h0:ns.length=0
    ·exact .inl (List.length_eq_zero_iff.1 h0)
    ·exact .inr (h2 (by omega))
  simp[this]
def RT.c (r:RT):List V:= [.bool r.neg,.sl (iv r.m),.sl (iv r.d)]
def yA (neg:Bool) (m:List Int):Bool:=oL m && !(neg && decide (m= []))
theorem Jo (m:List Int):((m.length:Int)==0)=decide (m= []):=by
 rw[rZ];cases m<;>simp;omega
theorem rP (neg:Bool) (m:List Int) (hm:m.length≤140737488351232):RO Tryz.prog 98 [.agg [.bool neg,.sl (iv m)]] (.bool (yA neg m)):=by
 refine aK Tryz.func98 rfl rfl (by rw[Tryz.ntmps98];simp) fun bl=> ?_
 rw[Tryz.ntmps98,Tryz.results98]
 refine aC ?_
 simp
 intro g hg0 hg
 refine eV [(1,.loc g 2 0 0)] _ (upd bl g (some ⟨2,[[.bool neg,.sl (iv m)]]⟩)) 2 (.bool (yA neg m)) (upd bl g (some ⟨2,[[.bool neg,.sl (iv m)]]⟩)) ⟨rfl,by simp,Sub.refl _⟩ rfl ?_ ?_
 ·simp
  refine aD (oP m hm) ?_
  simp[yA,Jo]
  cases oL m<;>cases neg<;>simp
 simp
 exact aQ [_] 0 rfl rfl (by simp[hg])
def RT.bad (r:RT):Bool:=(((!(yA r.neg r.m)|| !(oL r.d))|| decide (r.d= []))|| decide (24<r.m.length))|| decide (24<r.d.length)
theorem RT.Fw {r:RT} :r.ok ↔ r.bad=false∧Nat.gcd (val r.m) (val r.d)=1:=by
 unfold RT.ok RT.bad yA oL
 simp
 constructor
 ·rintro⟨h1,h2,h3,h4,h5,h6,h7⟩
  exact⟨⟨⟨⟨⟨⟨⟨by omega,h1⟩,h6⟩,by omega,h2⟩,h5⟩,h3⟩,h4⟩,h7⟩
 ·rintro⟨⟨⟨⟨⟨⟨⟨_,h1⟩,h6⟩,_,h2⟩,h5⟩,h3⟩,h4⟩,h7⟩
  exact⟨h1,h2,h3,h4,h5,h6,h7⟩
theorem RT.aIW {r:RT} (h:r.bad=false):r.m=lim (val r.m)∧r.d=lim (val r.d)∧r.m.length≤24∧r.d.length≤24:=by
 unfold RT.bad yA oL at h
 simp at h
 obtain⟨⟨⟨⟨⟨⟨_,h1⟩,_⟩,_,h2⟩,_⟩,h3⟩,h4⟩:=h
 exact⟨h1.symm,h2.symm,h3,h4⟩
theorem Ba :lim 1= [1]:=X8 (f:=1) (by decide) (by decide)
theorem zH {a b:Nat} :iW a b=0 ↔ a=b:=by unfold iW;split<;>(try split)<;>omega
theorem Y4 {a b:Nat} {k:Nat} (ha:(lim a).length≤k) (hb:(lim b).length≤k):(lim (Nat.gcd a b)).length≤k:=by
 rcases Nat.eq_zero_or_pos a with h | h
 ·rw[h,Nat.gcd_zero_left];exact hb
 ·exact Nat.le_trans (bW (Nat.gcd_le_left _ h)) ha
theorem oM (r:RT) (hm:r.m.length≤140737488351232) (hd:r.d.length≤140737488351232):RO Tryz.prog 30 [.agg r.c] (.bool (decide r.ok)):=by
 refine aK Tryz.func30 rfl rfl (by rw[Tryz.ntmps30];simp) fun bl=> ?_
 rw[Tryz.ntmps30,Tryz.results30]
 refine aC ?_
 simp[RT.c]
 intro g hg0 hg
 refine eV [(1,.loc g 3 0 0)] _ (upd bl g (some ⟨3,[[.bool r.neg,.sl (iv r.m),.sl (iv r.d)]]⟩)) 31 (.bool r.bad) (upd bl g (some ⟨3,[[.bool r.neg,.sl (iv r.m),.sl (iv r.d)]]⟩)) ⟨rfl,by simp,Sub.refl _⟩ rfl ?_ ?_
 ·simp
  refine aD (rP r.neg r.m hm) ?_
  simp[RT.bad]
  refine⟨fun h=>by simp[h],fun h=> ?_⟩
  refine aD (oP r.d hd) ?_
  simp[h]
  refine⟨fun a=>by simp[a],fun a=>⟨fun b=>by simp[b],fun b=>⟨fun c=> .inl (.inr (by omega)),fun c=> ?_⟩⟩⟩
  have c2: ¬ 24<r.m.length:=by omega
  simp[a,b,c2]
  omega
 simp
 refine⟨fun h=> ?_,fun h=> ?_⟩
 ·refine aQ [.bool false] 0 (by simp) ?_ (by simp[hg])
  have: ¬ r.ok:=fun hk=>by have:=(RT.Fw.1 hk).1;rw[h] at this;cases this
  simp[frz,this]
 ·obtain⟨l1,l2,l3,l4⟩:=RT.aIW h
  rw[l1,l2]
  refine aD (wI (val r.m) (val r.d) (by rw[←l1];omega) (by rw[←l2];omega)) ?_
  simp
  intro g2 hg2 h2g hb2
  refine bV 1 (ys:= [.sl (iv (lim ((val r.m).gcd (val r.d)))),.sl (iv (lim 1))]) ?_ (iD _ 1 ?_ (by rw[Ba];simp)) rfl ?_
  ·simp[frzL,frz,Ba,iv,V.cl,Int.not_lt.2 hg2]
  ·exact Y4 (by rw[←l1];omega) (by rw[←l2];omega)
  simp
  refine aQ [.bool (decide (Nat.gcd (val r.m) (val r.d)=1))] 0 ?_ ?_ (by simp[hg,hb2])
  ·simp[rZ,zH]
  ·simp[frz,RT.Fw,h]

def biC (n:Int):List V:= [.bool (decide (n<0)),.sl (iv (lim n.natAbs))]
def sg (neg:Bool) (m:Nat):Int:=if neg then -(m:Int) else m
@[simp] theorem Tp (neg : Bool) (m : Nat) : (sg neg m).natAbs = m := by unfold sg; split <;> simp
theorem Sr (neg:Bool) (m:Nat):decide (sg neg m<0)=(neg && decide (0<m)):=by
 unfold sg;cases neg<;>simp
theorem Kn (n:Int):sg (decide (n<0)) n.natAbs=n:=by
 unfold sg
 by_cases h:n<0
 ·simp[h];omega
 ·simp[h];omega
theorem tE (m:Nat):0<(lim m).length ↔ 0<m:=by
 rw[List.length_pos_iff]
 constructor
 ·intro h;rcases Nat.eq_zero_or_pos m with h0 | h0
  ·rw[h0,aX] at h;exact absurd rfl h
  ·exact h0
 ·intro h h0;have:=fK.1 h0;omega
@[simp] theorem aH5 (n : Int) : (biC n).length = 2 := rfl
@[simp] theorem aHX (n : Int) : (biC n).all V.one = true := by simp [biC]
theorem Fj (n:Int):(biC n).all V.cl=true:=by simp[biC,V.cl]
@[simp] theorem Wr (a b : V) (n : Int) : splice [a, b] 0 (biC n) = biC n := by simp [splice, biC]
theorem Ej (neg:Bool) (m:Nat):biC (sg neg m)= [.bool (neg && decide (0<(lim m).length)),.sl (iv (lim m))]:=by
 unfold biC
 rw[Sr,Tp,decide_eq_decide.2 (tE m)]
theorem lE {bl bl':Int→Option Blk} {n:Int} :frz (dropB bl' bl) 1 (.agg (biC n))=some (.agg (biC n)):=by
 unfold frz;rw[if_pos (Fj n)]
theorem Qr (x:Int):sg (!decide (x<0)) x.natAbs= -x:=by
 unfold sg
 by_cases h:x<0
 ·simp[h];omega
 ·simp[h];omega
theorem eC (neg:Bool) (m:Nat):RO Tryz.prog 229 [.bool neg,.sl (iv (lim m))] (.agg (biC (sg neg m))):=by
 refine aK Tryz.func229 rfl rfl (by rw[Tryz.ntmps229];simp) fun bl=> ?_
 rw[Tryz.ntmps229,Tryz.results229]
 refine aC ?_
 simp
 intro g hg0 hg
 refine eV [(0,.bool neg),(1,.sl (iv (lim m))),(4,.loc g 2 0 0)] _ (upd bl g (some ⟨2,[[.bool false,.nils]]⟩)) 4 (.loc g 2 0 0) (upd bl g (some ⟨2,[biC (sg neg m)]⟩)) ⟨rfl,by simp,Sub.refl _⟩ rfl ?_ ?_
 ·simp
  rw[Ej]
  cases neg<;>simp
 simp
 exact aQ [.agg (biC (sg neg m))] 1 (by simp[biC]) lE (by simp[hg])
theorem jR (x:Int):RO Tryz.prog 177 [.agg (biC x)] (.agg (biC (-x))):=by
 refine aK Tryz.func177 rfl rfl (by rw[Tryz.ntmps177];simp) fun bl=> ?_
 rw[Tryz.ntmps177,Tryz.results177]
 refine aC ?_
 rw[show biC x= [.bool (decide (x<0)),.sl (iv (lim x.natAbs))] from rfl]
 simp
 intro g hg0 hg g2 hg2 h2g hb2
 simp[h2g,Ne.symm h2g]
 refine aD (eC _ _) ?_
 rw[Qr]
 simp[h2g,Ne.symm h2g]
 exact aQ [.agg (biC (-x))] 1 (by simp[biC]) lE (by simp[hg,hb2])
theorem iS (x:Int):RO Tryz.prog 153 [.agg (biC x)] (.int .i64 x.sign):=by
 refine aK Tryz.func153 rfl rfl (by rw[Tryz.ntmps153];simp) fun bl=> ?_
 rw[Tryz.ntmps153,Tryz.results153]
 refine aC ?_
 rw[show biC x= [.bool (decide (x<0)),.sl (iv (lim x.natAbs))] from rfl]
 simp
 intro g hg0 hg
 refine⟨fun h=> ?_,fun h=> ?_⟩
 ·have h0:=fK.1 h
  have:x=0:=by omega
  exact aQ [.int .i64 0] 0 (by simp) (by simp[frz,this]) (by simp[hg])
 ·have h0:x≠0:=fun h1=>h (by rw[h1];exact aX)
  refine⟨fun h2=> ?_,fun h2=> ?_⟩
  ·exact aQ [.int .i64 (-1)] 0 (by simp) (by simp[frz,Int.sign_eq_neg_one_of_neg h2]) (by simp[hg])
  ·exact aQ [.int .i64 1] 0 (by simp) (by simp[frz,Int.sign_eq_one_of_pos (show 0<x by omega)]) (by simp[hg])
theorem F5 {x y:Int} (h:x<0 ↔ y<0):sg (decide (x<0)) (x.natAbs+y.natAbs)=x+y:=by
 unfold sg
 by_cases hx:x<0
 ·have:=h.1 hx;simp[hx];omega
 ·have: ¬ y<0:=fun hh=>hx (h.2 hh);simp[hx];omega
theorem sR {x y:Int} (h: ¬ (x<0 ↔ y<0)) (hle:y.natAbs≤x.natAbs):sg (decide (x<0)) (x.natAbs - y.natAbs)=x+y:=by
 unfold sg
 by_cases hx:x<0
 ·have: ¬ y<0:=fun hh=>h ⟨fun _=>hh,fun _=>hx⟩;simp[hx];omega
 ·have:y<0:=by
   by_cases hy:y<0
   ·exact hy
   ·exact absurd ⟨fun hh=>absurd hh hx,fun hh=>absurd hh hy⟩ h
  simp[hx];omega
theorem Hq (x y:Int):sg (decide (x<0) !=decide (y<0)) (x.natAbs*y.natAbs)=x*y:=by
 have e:(x.natAbs:Int)*y.natAbs=(x*y).natAbs:=by rw[Int.natAbs_mul];simp
 unfold sg
 by_cases hx:x<0<;>by_cases hy:y<0<;>simp only[hx,hy,decide_true,decide_false,bne_self_eq_false,Bool.bne_true,Bool.bne_false,Bool.not_false,if_true,if_false,Bool.false_eq_true,Int.natCast_mul]
 ·rw[Int.ofNat_natAbs_of_nonpos (by omega),Int.ofNat_natAbs_of_nonpos (by omega),Int.neg_mul_neg]
 ·rw[Int.ofNat_natAbs_of_nonpos (by omega),Int.natAbs_of_nonneg (by omega),Int.neg_mul,Int.neg_neg]
 ·rw[Int.natAbs_of_nonneg (by omega),Int.ofNat_natAbs_of_nonpos (by omega),Int.mul_neg,Int.neg_neg]
 ·rw[Int.natAbs_of_nonneg (by omega),Int.natAbs_of_nonneg (by omega)]
def lA (x y:Int):Int:=if x<y then -1 else if x=y then 0 else 1
theorem Jd {a b:Nat} :0≤iW a b ↔ b≤a:=by unfold iW;split<;>(try split)<;>omega
theorem I3 (x y:Int) (hx:(lim x.natAbs).length≤1048576) (hy:(lim y.natAbs).length≤1048576):RO Tryz.prog 276 [.agg (biC x),.agg (biC y)] (.int .i64 (lA x y)):=by
 refine aK Tryz.func276 rfl rfl (by rw[Tryz.ntmps276];simp) fun bl=> ?_
 rw[Tryz.ntmps276,Tryz.results276]
 refine aE ?_
 rw[show biC x= [.bool (decide (x<0)),.sl (iv (lim x.natAbs))] from rfl,show biC y= [.bool (decide (y<0)),.sl (iv (lim y.natAbs))] from rfl]
 simp
 intro g hg0 hg g2 hg2 h2g hb2
 refine aC ?_
 simp[h2g,Ne.symm h2g]
 refine eV [(2,.loc g 2 0 0),(3,.loc g2 2 0 0)] _ _ 5 (.bool ((decide (x<0) !=decide (y<0))&& decide (x<0))) (upd (upd bl g (some ⟨2,[[.bool (decide (x<0)),.sl (iv (lim x.natAbs))]]⟩)) g2 (some ⟨2,[[.bool (decide (y<0)),.sl (iv (lim y.natAbs))]]⟩)) ⟨rfl,by simp,Sub.refl _⟩ rfl ?_ ?_
 ·simp[h2g,Ne.symm h2g]
  by_cases h1:x<0<;>by_cases h2:y<0<;>simp[h1,h2,h2g,Ne.symm h2g]
 by_cases h1:x<0<;>by_cases h2:y<0<;>simp[h1,h2,h2g,Ne.symm h2g]
 ·refine aD (iD _ _ hy hx) ?_
  simp
  refine aQ [.int .i64 (lA x y)] 0 ?_ (by simp[frz]) (by simp[hg,hb2])
  have:iW y.natAbs x.natAbs=lA x y:=by unfold iW lA;split<;>split<;>(try split)<;>(try split)<;>omega
  simp[this]
 ·have:lA x y= -1:=by unfold lA;rw[if_pos (by omega)]
  exact aQ [.int .i64 (-1)] 0 (by simp) (by simp[frz,this]) (by simp[hg,hb2])
 ·have:lA x y=1:=by unfold lA;rw[if_neg (by omega),if_neg (by omega)]
  exact aQ [.int .i64 1] 0 (by simp) (by simp[frz,this]) (by simp[hg,hb2])
 ·refine aD (iD _ _ hx hy) ?_
  simp
  refine aQ [.int .i64 (lA x y)] 0 ?_ (by simp[frz]) (by simp[hg,hb2])
  have:iW x.natAbs y.natAbs=lA x y:=by unfold iW lA;split<;>split<;>(try split)<;>(try split)<;>omega
  simp[this]
theorem G6 (x y:Int) (hx:(lim x.natAbs).length≤1048575) (hy:(lim y.natAbs).length≤1048575):RO Tryz.prog 227 [.agg (biC x),.agg (biC y)] (.agg (biC (x+y))):=by
 refine aK Tryz.func227 rfl rfl (by rw[Tryz.ntmps227];simp) fun bl=> ?_
 rw[Tryz.ntmps227,Tryz.results227]
 refine aE ?_
 rw[show biC x= [.bool (decide (x<0)),.sl (iv (lim x.natAbs))] from rfl,show biC y= [.bool (decide (y<0)),.sl (iv (lim y.natAbs))] from rfl]
 simp
 intro g hg0 hg g2 hg2 h2g hb2 g3 hg3 h32 h3g hb3
 refine aC ?_
 simp[h2g,Ne.symm h2g,h32,Ne.symm h32,h3g,Ne.symm h3g]
 refine aD (iD _ _ (by omega) (by omega)) ?_
 simp[h2g,Ne.symm h2g,h32,Ne.symm h32,h3g,Ne.symm h3g,Jd]
 refine⟨fun hs=> ?_,fun hs=>⟨fun hle=> ?_,fun hle=> ?_⟩⟩
 ·refine bS aN (upd (upd bl g (some ⟨2,[[.bool (decide (x<0)),.sl (iv (lim x.natAbs))]]⟩)) g2 (some ⟨2,[[.bool (decide (y<0)),.sl (iv (lim y.natAbs))]]⟩)) (by simp[h32,h3g,hb3]) [0,1,2,3,4,5,6,7] 1 (by kernel_rfl) ?_
  simp[h2g,Ne.symm h2g,h32,Ne.symm h32,h3g,Ne.symm h3g]
  refine aG (La _ _ hx hy) ?_
  simp[h2g,Ne.symm h2g,h32,Ne.symm h32,h3g,Ne.symm h3g]
  refine aG (eC _ _) ?_
  simp[h2g,Ne.symm h2g,h32,Ne.symm h32,h3g,Ne.symm h3g]
  refine Dz 8 ?_
  simp[h2g,Ne.symm h2g,h32,Ne.symm h32,h3g,Ne.symm h3g]
  refine⟨by simp[h32,h3g,hb3],Dy ?_⟩
  rw[F5 hs]
  simp[h2g,Ne.symm h2g,h32,Ne.symm h32,h3g,Ne.symm h3g]
  exact aQ [.agg (biC (x+y))] 1 (by simp[biC,h2g,Ne.symm h2g,h32,Ne.symm h32,h3g,Ne.symm h3g]) lE (by simp[hg,hb2,hb3])
 ·refine bS aN (upd (upd bl g (some ⟨2,[[.bool (decide (x<0)),.sl (iv (lim x.natAbs))]]⟩)) g2 (some ⟨2,[[.bool (decide (y<0)),.sl (iv (lim y.natAbs))]]⟩)) (by simp[h32,h3g,hb3]) [0,1,2,3,4,5,6,7] 1 (by kernel_rfl) ?_
  simp[h2g,Ne.symm h2g,h32,Ne.symm h32,h3g,Ne.symm h3g]
  refine aG (G3 _ _ hle hx) ?_
  simp[h2g,Ne.symm h2g,h32,Ne.symm h32,h3g,Ne.symm h3g]
  refine aG (eC _ _) ?_
  simp[h2g,Ne.symm h2g,h32,Ne.symm h32,h3g,Ne.symm h3g]
  refine Dz 8 ?_
  simp[h2g,Ne.symm h2g,h32,Ne.symm h32,h3g,Ne.symm h3g]
  refine⟨by simp[h32,h3g,hb3],Dy ?_⟩
  rw[sR hs hle]
  simp[h2g,Ne.symm h2g,h32,Ne.symm h32,h3g,Ne.symm h3g]
  exact aQ [.agg (biC (x+y))] 1 (by simp[biC,h2g,Ne.symm h2g,h32,Ne.symm h32,h3g,Ne.symm h3g]) lE (by simp[hg,hb2,hb3])
 ·refine bS aN (upd (upd bl g (some ⟨2,[[.bool (decide (x<0)),.sl (iv (lim x.natAbs))]]⟩)) g2 (some ⟨2,[[.bool (decide (y<0)),.sl (iv (lim y.natAbs))]]⟩)) (by simp[h32,h3g,hb3]) [0,1,2,3,4,5,6,7] 1 (by kernel_rfl) ?_
  simp[h2g,Ne.symm h2g,h32,Ne.symm h32,h3g,Ne.symm h3g]
  refine aG (G3 _ _ (by omega) hy) ?_
  simp[h2g,Ne.symm h2g,h32,Ne.symm h32,h3g,Ne.symm h3g]
  refine aG (eC _ _) ?_
  simp[h2g,Ne.symm h2g,h32,Ne.symm h32,h3g,Ne.symm h3g]
  refine Dz 8 ?_
  simp[h2g,Ne.symm h2g,h32,Ne.symm h32,h3g,Ne.symm h3g]
  refine⟨by simp[h32,h3g,hb3],Dy ?_⟩
  rw[sR (x:=y) (y:=x) (fun hh=>hs ⟨hh.2,hh.1⟩) (by omega),Int.add_comm y x]
  simp[h2g,Ne.symm h2g,h32,Ne.symm h32,h3g,Ne.symm h3g]
  exact aQ [.agg (biC (x+y))] 1 (by simp[biC,h2g,Ne.symm h2g,h32,Ne.symm h32,h3g,Ne.symm h3g]) lE (by simp[hg,hb2,hb3])
theorem jA (x y:Int) (hx:(lim x.natAbs).length≤400000) (hy:(lim y.natAbs).length≤400000):RO Tryz.prog 231 [.agg (biC x),.agg (biC y)] (.agg (biC (x*y))):=by
 refine aK Tryz.func231 rfl rfl (by rw[Tryz.ntmps231];simp) fun bl=> ?_
 rw[Tryz.ntmps231,Tryz.results231]
 refine aE ?_
 rw[show biC x= [.bool (decide (x<0)),.sl (iv (lim x.natAbs))] from rfl,show biC y= [.bool (decide (y<0)),.sl (iv (lim y.natAbs))] from rfl]
 simp
 intro g hg0 hg g2 hg2 h2g hb2 g3 hg3 h32 h3g hb3
 refine aC ?_
 simp
 refine bS aN (upd (upd bl g (some ⟨2,[[.bool (decide (x<0)),.sl (iv (lim x.natAbs))]]⟩)) g2 (some ⟨2,[[.bool (decide (y<0)),.sl (iv (lim y.natAbs))]]⟩)) (by simp[h32,h3g,hb3]) [0,1,2,3,4,5,6,7,8,9,10] 1 (by kernel_rfl) ?_
 simp[h2g,Ne.symm h2g,h32,Ne.symm h32,h3g,Ne.symm h3g]
 refine aG (jX _ _ hx hy) ?_
 simp[h2g,Ne.symm h2g,h32,Ne.symm h32,h3g,Ne.symm h3g]
 refine aG (eC _ _) ?_
 simp[h2g,Ne.symm h2g,h32,Ne.symm h32,h3g,Ne.symm h3g]
 refine Dz 11 ?_
 simp[h2g,Ne.symm h2g,h32,Ne.symm h32,h3g,Ne.symm h3g]
 refine⟨by simp[h32,h3g,hb3],Dy ?_⟩
 rw[Hq]
 simp[h2g,Ne.symm h2g,h32,Ne.symm h32,h3g,Ne.symm h3g]
 exact aQ [.agg (biC (x*y))] 1 (by simp[biC,h2g,Ne.symm h2g,h32,Ne.symm h32,h3g,Ne.symm h3g]) lE (by simp[hg,hb2,hb3])

theorem dP (x:Int):biC x= [.bool (decide (x<0)),.sl (iv (lim x.natAbs))]:=rfl
theorem eG (q:Rat):(rq q).c= [.bool (decide (q.num<0)),.sl (iv (lim q.num.natAbs)),.sl (iv (lim q.den))]:=rfl
theorem Nq (n:Int) {d:Nat} (hd:d≠0):rq (mkRat n d)=⟨decide (n<0),lim (n.natAbs / Nat.gcd n.natAbs d),lim (d / Nat.gcd n.natAbs d)⟩:=by
 obtain⟨h1,h2,h3⟩:=Y8 n hd
 unfold rq
 rw[h1,h2,decide_eq_decide.2 h3]
theorem rS (x y:Int) (hx:(lim x.natAbs).length≤1048575) (hy:(lim y.natAbs).length≤1048575):RO Tryz.prog 239 [.agg (biC x),.agg (biC y)] (.agg (biC (x - y))):=by
 refine aK Tryz.func239 rfl rfl (by rw[Tryz.ntmps239];simp) fun bl=> ?_
 rw[Tryz.ntmps239,Tryz.results239]
 refine aE ?_
 simp
 intro g hg0 hg g2 hg2 h2g hb2 g3 hg3 h32 h3g hb3
 refine aC ?_
 simp
 refine bS aN (upd (upd bl g (some ⟨2,[biC x]⟩)) g2 (some ⟨2,[biC y]⟩)) (by simp[h32,h3g,hb3]) [0,1,2,3] 1 (by kernel_rfl) ?_
 simp[h2g,Ne.symm h2g,h32,Ne.symm h32,h3g,Ne.symm h3g]
 refine aG (jR y) ?_
 simp[h2g,Ne.symm h2g,h32,Ne.symm h32,h3g,Ne.symm h3g]
 refine aG (G6 x (-y) hx (by simpa using hy)) ?_
 rw[show x+ -y=x - y by omega]
 simp[h2g,Ne.symm h2g,h32,Ne.symm h32,h3g,Ne.symm h3g]
 refine Dz 4 ?_
 simp[h2g,Ne.symm h2g,h32,Ne.symm h32,h3g,Ne.symm h3g]
 refine⟨by simp[h32,h3g,hb3],Dy ?_⟩
 simp
 exact aQ [.agg (biC (x - y))] 1 (by simp[biC,h2g,Ne.symm h2g,h32,Ne.symm h32,h3g,Ne.symm h3g]) lE (by simp[hg,hb2,hb3])
theorem nQ (q:Rat) (m:Nat) (hq:(lim q.num.natAbs).length≤400000) (hm:(lim m).length≤400000):RO Tryz.prog 226 [.ptr (rq q).c,.sl (iv (lim m))] (.agg (biC (q.num*m))):=by
 refine aK Tryz.func226 rfl rfl (by rw[Tryz.ntmps226];simp) fun bl=> ?_
 rw[Tryz.ntmps226,Tryz.results226]
 refine aC ?_
 rw[eG]
 simp
 intro g hg0 hg
 refine bS aN bl (by simp[hg]) [0,1,2,3,4,5,6,7,8,9,10,11,12] 1 (by kernel_rfl) ?_
 simp
 refine aG (jX _ _ hq hm) ?_
 simp
 refine aG (eC _ _) ?_
 simp
 refine Dz 13 ?_
 simp
 refine⟨by simp[hg],Dy ?_⟩
 have e:sg (decide (q.num<0)) (q.num.natAbs*m)=q.num*m:=by
  have:=Hq q.num m
  have h0:decide ((m:Int)<0)=false:=decide_eq_false (by omega)
  rw[h0,Bool.bne_false,Int.natAbs_natCast] at this
  exact this
 rw[e]
 simp
 exact aQ [.agg (biC (q.num*m))] 1 (by simp[biC]) lE (by simp[hg])
theorem nF (n:Int) (d:Nat) (hd:d≠0) (hn:(lim n.natAbs).length≤300000) (hdl:(lim d).length≤300000):RO Tryz.prog 221 [.agg (biC n),.sl (iv (lim d))] (.ptr (rq (mkRat n d)).c):=by
 refine aK Tryz.func221 rfl rfl (by rw[Tryz.ntmps221];simp) fun bl=> ?_
 rw[Tryz.ntmps221,Tryz.results221]
 refine aC ?_
 rw[dP]
 simp
 intro g hg0 hg
 refine⟨fun h=> ?_,fun h=> ?_⟩
 ·intro g1 hg1 h1g hb1 g2 hg2 h21 h2g hb2
  have h0:n=0:=by have:=fK.1 h;omega
  subst h0
  rw[Rat.zero_mkRat]
  refine aQ [.loc g2 3 0 0] 2 (by simp) ?_ (by simp[hg,hb1,hb2])
  simp[frz,dropB,V.cl,hb1,hb2,h1g,Ne.symm h1g,h21,Ne.symm h21,h2g,Ne.symm h2g,Int.not_lt.2 hg1,eG,aX]
  exact⟨rfl,by rw[Ba];rfl⟩
 ·have hz:n.natAbs≠0:=fun h0=>h (by rw[h0];exact aX)
  refine aD (wI _ _ hn hdl) ?_
  simp
  intro g1 hg1 h1g hb1
  have hgl:=Y4 hn hdl
  refine bV 1 (ys:= [.sl (iv (lim (Nat.gcd n.natAbs d))),.sl (iv (lim 1))]) ?_ (iD _ 1 (by omega) (by rw[Ba];simp)) rfl ?_
  ·simp[frzL,frz,Ba,iv,V.cl,Int.not_lt.2 hg1]
  simp[rZ,zH]
  refine⟨fun h1=> ?_,fun h1=> ?_⟩
  ·simp[h1g,Ne.symm h1g]
   intro g2 hg2 h21 h2g hb2
   refine aQ [.loc g2 3 0 0] 2 (by simp) ?_ (by simp[hg,hb1,hb2])
   have e:rq (mkRat n d)=⟨decide (n<0),lim n.natAbs,lim d⟩:=by rw[Nq n hd,h1,Nat.div_one,Nat.div_one]
   rw[e]
   simp[frz,dropB,V.cl,hb1,hb2,h1g,Ne.symm h1g,h21,Ne.symm h21,h2g,Ne.symm h2g,RT.c]
  ·have Pw:0<Nat.gcd n.natAbs d:=Nat.gcd_pos_of_pos_right _ (by omega)
   simp[h1g,Ne.symm h1g]
   refine aD (uC _ _ Pw hn hgl) ?_
   simp
   refine aD (uC _ _ Pw hdl hgl) ?_
   simp[h1g,Ne.symm h1g]
   refine aD (eC _ _) ?_
   simp[h1g,Ne.symm h1g]
   rw[Ej]
   simp[h1g,Ne.symm h1g]
   intro g2 hg2 h21 h2g hb2
   refine aQ [.loc g2 3 0 0] 2 (by simp) ?_ (by simp[hg,hb1,hb2])
   have e3:0<n.natAbs / Nat.gcd n.natAbs d:=Nat.div_pos (Nat.gcd_le_left _ (by omega)) Pw
   rw[Nq n hd]
   simp[frz,dropB,V.cl,hb1,hb2,h1g,Ne.symm h1g,h21,Ne.symm h21,h2g,Ne.symm h2g,RT.c,tE,e3]
theorem jP {a b k l:Nat} (ha:(lim a).length≤k) (hb:(lim b).length≤l):(lim (a*b)).length≤k+l:=by
 refine aH.2 ?_
 have h1:=aH.1 ha
 have h2:=aH.1 hb
 rw[Nat.pow_add]
 exact Nat.mul_lt_mul'' h1 h2
theorem X2 {a b k:Nat} (ha:(lim a).length≤k) (hb:(lim b).length≤k):(lim (a+b)).length≤k+1:=by
 refine aH.2 ?_
 have h1:=aH.1 ha
 have h2:=aH.1 hb
 have:LB^(k+1)=LB^k*1000000000:=Nat.pow_succ ..
 omega
theorem H7 {a b k:Nat} (h:a≤b) (hb:(lim b).length≤k):(lim a).length≤k:=Nat.le_trans (bW h) hb
def few (k:Nat) (q:Rat):Prop:=(lim q.num.natAbs).length≤k∧(lim q.den).length≤k
theorem iI {k l:Nat} {q:Rat} (h:few k q) (hkl:k≤l):few l q:=⟨by have:=h.1;omega,by have:=h.2;omega⟩
def aI2 (a b:Rat):Int:=lA (a.num*b.den) (b.num*a.den)
theorem K5 (a b:Rat) (ha:few 100000 a) (hb:few 100000 b):RO Tryz.prog 159 [.ptr (rq a).c,.ptr (rq b).c] (.ptr (rq (a+b)).c):=by
 obtain⟨a1,a2⟩:=ha
 obtain⟨b1,b2⟩:=hb
 have n1:(lim (a.num*b.den).natAbs).length≤200000:=by rw[Int.natAbs_mul,Int.natAbs_natCast];have:=jP a1 b2;omega
 have n2:(lim (b.num*a.den).natAbs).length≤200000:=by rw[Int.natAbs_mul,Int.natAbs_natCast];have:=jP b1 a2;omega
 refine aK Tryz.func159 rfl rfl (by rw[Tryz.ntmps159];simp) fun bl=> ?_
 rw[Tryz.ntmps159,Tryz.results159]
 refine aC ?_
 simp
 refine bI aN (by kernel_rfl) ?_
 rw[eG a,eG b]
 simp
 refine aG (nQ a b.den (by omega) (by omega)) ?_
 simp
 refine aG (nQ b a.den (by omega) (by omega)) ?_
 simp
 refine aG (G6 _ _ (by omega) (by omega)) ?_
 simp
 refine aG (jX _ _ (by omega) (by omega)) ?_
 simp
 refine aG (nF _ _ (Nat.mul_ne_zero a.den_nz b.den_nz) ?_ ?_) ?_
 ·exact H7 (Int.natAbs_add_le _ _) (by have:=X2 n1 n2;omega)
 ·have:=jP a2 b2;omega
 rw[←Rat.add_def']
 simp
 exact aR (by simp) rfl rfl
theorem Z6 (a b:Rat) (ha:few 100000 a) (hb:few 100000 b):RO Tryz.prog 178 [.ptr (rq a).c,.ptr (rq b).c] (.ptr (rq (a - b)).c):=by
 obtain⟨a1,a2⟩:=ha
 obtain⟨b1,b2⟩:=hb
 have n1:(lim (a.num*b.den).natAbs).length≤200000:=by rw[Int.natAbs_mul,Int.natAbs_natCast];have:=jP a1 b2;omega
 have n2:(lim (b.num*a.den).natAbs).length≤200000:=by rw[Int.natAbs_mul,Int.natAbs_natCast];have:=jP b1 a2;omega
 refine aK Tryz.func178 rfl rfl (by rw[Tryz.ntmps178];simp) fun bl=> ?_
 rw[Tryz.ntmps178,Tryz.results178]
 refine aC ?_
 simp
 refine bI aN (by kernel_rfl) ?_
 rw[eG a,eG b]
 simp
 refine aG (nQ a b.den (by omega) (by omega)) ?_
 simp
 refine aG (nQ b a.den (by omega) (by omega)) ?_
 simp
 refine aG (rS _ _ (by omega) (by omega)) ?_
 simp
 refine aG (jX _ _ (by omega) (by omega)) ?_
 simp
 refine aG (nF _ _ (Nat.mul_ne_zero a.den_nz b.den_nz) ?_ ?_) ?_
 ·rw[Int.sub_eq_add_neg];exact H7 (Int.natAbs_add_le _ _) (by rw[Int.natAbs_neg];have:=X2 n1 n2;omega)
 ·have:=jP a2 b2;omega
 rw[←Rat.sub_def']
 simp
 exact aR (by simp) rfl rfl
theorem yP (a b:Rat) (ha:few 100000 a) (hb:few 100000 b):RO Tryz.prog 163 [.ptr (rq a).c,.ptr (rq b).c] (.ptr (rq (a*b)).c):=by
 obtain⟨a1,a2⟩:=ha
 obtain⟨b1,b2⟩:=hb
 refine aK Tryz.func163 rfl rfl (by rw[Tryz.ntmps163];simp) fun bl=> ?_
 rw[Tryz.ntmps163,Tryz.results163]
 refine aC ?_
 simp
 refine bI aN (by kernel_rfl) ?_
 rw[eG a,eG b]
 simp
 refine aG (jA a.num b.num (by omega) (by omega)) ?_
 simp
 refine aG (jX _ _ (by omega) (by omega)) ?_
 simp
 refine aG (nF _ _ (Nat.mul_ne_zero a.den_nz b.den_nz) ?_ ?_) ?_
 ·rw[Int.natAbs_mul];have:=jP a1 b1;omega
 ·have:=jP a2 b2;omega
 rw[←Rat.mul_def']
 simp
 exact aR (by simp) rfl rfl
def fv :Option Rat→V
 | none => .nilp
 | some q => .ptr (rq q).c
theorem sL {b:Int→Option Blk} {n:Nat} {x:Option Rat} :frz b n (fv x)=some (fv x):=by cases x<;>simp[fv,frz]
theorem N0 (q:Rat):RO Tryz.prog 158 [.ptr (rq q).c] (fv (fit q)):=by
 refine aK Tryz.func158 rfl rfl (by rw[Tryz.ntmps158];simp) fun bl=> ?_
 rw[Tryz.ntmps158,Tryz.results158]
 refine aC ?_
 simp
 refine aV [(0,.ptr (rq q).c)] _ bl 17 (.bool (!decide (fits q))) ⟨rfl,by simp,Sub.refl _⟩ rfl ?_ ?_
 ·rw[eG]
  simp
  have hf:fits q ↔ (lim q.num.natAbs).length≤24∧(lim q.den).length≤24:=Iff.rfl
  refine⟨fun h hh=>by have:=hf.1 hh;omega,fun h=> ?_⟩
  rw[Bool.eq_iff_iff]
  simp[hf]
  omega
 simp
 refine⟨fun h=> ?_,fun h=> ?_⟩
 ·exact aR (by simp[fit,h,fv]) rfl sL
 ·exact aR (by simp[fit,h,fv]) rfl sL
theorem Ml (q:Rat):RO Tryz.prog 78 [.ptr (rq q).c] (.int .i64 q.num.sign):=by
 refine aK Tryz.func78 rfl rfl (by rw[Tryz.ntmps78];simp) fun bl=> ?_
 rw[Tryz.ntmps78,Tryz.results78]
 refine aC ?_
 rw[eG]
 simp
 refine aD (iS q.num) ?_
 simp
 exact aR (by simp) rfl rfl
theorem W6 (r:RT) (hm:r.m.length≤140737488351232) (hd:r.d.length≤140737488351232):RO Tryz.prog 97 [.agg r.c] (fv (rd r)):=by
 refine aK Tryz.func97 rfl rfl (by rw[Tryz.ntmps97];simp) fun bl=> ?_
 rw[Tryz.ntmps97,Tryz.results97]
 refine aC ?_
 simp[RT.c]
 intro g hg0 hg
 refine aD (oM r hm hd) ?_
 simp
 refine⟨fun h=> ?_,fun h=> ?_⟩
 ·have:rd r=none:=by unfold rd;rw[if_neg h]
  exact aQ [.nilp] 0 (by simp) (by rw[this];rfl) (by simp[hg])
 ·obtain⟨q,hq⟩: ∃q,rd r=some q:=⟨_,by unfold rd;rw[if_pos h]⟩
  obtain⟨hr,hf⟩:=rd_some hq
  rw[hq]
  intro g2 hg2 h2g hb2
  refine aQ [.loc g2 3 0 0] 1 (by simp) ?_ (by simp[hg,hb2])
  simp[frz,dropB,V.cl,hb2,h2g,Ne.symm h2g,fv,←hr,RT.c]
def okQ (x:Option Rat):Prop:= ∀q,x=some q→fits q
theorem Kk (q:Rat):okQ (fit q):=by
 intro p h
 unfold fit at h
 split at h
 ·cases h;assumption
 ·cases h
theorem Qc (r:RT):okQ (rd r):=fun q h=>(rd_some h).2
def op2 (f:Rat→Rat→Rat) (x y:Option Rat):Option Rat:=match x,y with | some a,some b=>fit (f a b)| _,_=>none
theorem gJ (f:Rat→Rat→Rat) (x y:Option Rat):okQ (op2 f x y):=by
 unfold op2;split
 ·exact Kk _
 ·intro q h;cases h
theorem kI (x y:Option Rat) (hx:okQ x) (hy:okQ y):RO Tryz.prog 82 [fv x,fv y] (fv (op2 (· + ·) x y)):=by
 refine aK Tryz.func82 rfl rfl (by rw[Tryz.ntmps82];simp) fun bl=> ?_
 rw[Tryz.ntmps82,Tryz.results82]
 refine aC ?_
 simp
 rcases x with _ | a
 ·refine aV [(0,fv none),(1,fv y)] _ bl 10 (.bool true) ⟨rfl,by simp,Sub.refl _⟩ rfl ?_ ?_
  ·simp[fv]
  simp
  exact aR (by simp[op2,fv]) rfl rfl
 rcases y with _ | b
 ·refine aV [(0,fv (some a)),(1,fv none)] _ bl 10 (.bool true) ⟨rfl,by simp,Sub.refl _⟩ rfl ?_ ?_
  ·simp[fv]
  simp
  exact aR (by simp[op2,fv]) rfl rfl
 refine aV [(0,fv (some a)),(1,fv (some b))] _ bl 10 (.bool false) ⟨rfl,by simp,Sub.refl _⟩ rfl ?_ ?_
 ·simp[fv]
 simp[fv]
 refine aD (K5 a b (iI (hx a rfl) (by decide)) (iI (hy b rfl) (by decide))) ?_
 simp
 refine aD (N0 _) ?_
 simp
 exact aR (by simp[op2];rfl) rfl sL
theorem Qn (x y:Option Rat) (hx:okQ x) (hy:okQ y):RO Tryz.prog 104 [fv x,fv y] (fv (op2 (· - ·) x y)):=by
 refine aK Tryz.func104 rfl rfl (by rw[Tryz.ntmps104];simp) fun bl=> ?_
 rw[Tryz.ntmps104,Tryz.results104]
 refine aC ?_
 simp
 rcases x with _ | a
 ·refine aV [(0,fv none),(1,fv y)] _ bl 10 (.bool true) ⟨rfl,by simp,Sub.refl _⟩ rfl ?_ ?_
  ·simp[fv]
  simp
  exact aR (by simp[op2,fv]) rfl rfl
 rcases y with _ | b
 ·refine aV [(0,fv (some a)),(1,fv none)] _ bl 10 (.bool true) ⟨rfl,by simp,Sub.refl _⟩ rfl ?_ ?_
  ·simp[fv]
  simp
  exact aR (by simp[op2,fv]) rfl rfl
 refine aV [(0,fv (some a)),(1,fv (some b))] _ bl 10 (.bool false) ⟨rfl,by simp,Sub.refl _⟩ rfl ?_ ?_
 ·simp[fv]
 simp[fv]
 refine aD (Z6 a b (iI (hx a rfl) (by decide)) (iI (hy b rfl) (by decide))) ?_
 simp
 refine aD (N0 _) ?_
 simp
 exact aR (by simp[op2];rfl) rfl sL
theorem vK (x y:Option Rat) (hx:okQ x) (hy:okQ y):RO Tryz.prog 86 [fv x,fv y] (fv (op2 (· * ·) x y)):=by
 refine aK Tryz.func86 rfl rfl (by rw[Tryz.ntmps86];simp) fun bl=> ?_
 rw[Tryz.ntmps86,Tryz.results86]
 refine aC ?_
 simp
 rcases x with _ | a
 ·refine aV [(0,fv none),(1,fv y)] _ bl 10 (.bool true) ⟨rfl,by simp,Sub.refl _⟩ rfl ?_ ?_
  ·simp[fv]
  simp
  exact aR (by simp[op2,fv]) rfl rfl
 rcases y with _ | b
 ·refine aV [(0,fv (some a)),(1,fv none)] _ bl 10 (.bool true) ⟨rfl,by simp,Sub.refl _⟩ rfl ?_ ?_
  ·simp[fv]
  simp
  exact aR (by simp[op2,fv]) rfl rfl
 refine aV [(0,fv (some a)),(1,fv (some b))] _ bl 10 (.bool false) ⟨rfl,by simp,Sub.refl _⟩ rfl ?_ ?_
 ·simp[fv]
 simp[fv]
 refine aD (yP a b (iI (hx a rfl) (by decide)) (iI (hy b rfl) (by decide))) ?_
 simp
 refine aD (N0 _) ?_
 simp
 exact aR (by simp[op2];rfl) rfl sL

end Go.Proofs.YticmgmemnpcbbaaGreat.Vm

namespace Go.Proofs.YticmgmemnpcbbaaGreat.Vm
open Go Go.Proofs
set_option linter.unusedSimpArgs false
set_option linter.unusedVariables false

structure DL2 where
 lo:Int
 hi:Int
structure SD where
 g:Int
 i:Nat
 Q:List Int
 r:Nat
theorem Kw {bl bl0:Int→Option Blk} {g:Int} {ns:List Int} (h0:0≤g∨ns= []) (hg:bl0 g=none) (hb:bl g=some ⟨1,iv ns⟩):frz (dropB bl bl0) 1 (.lsl g 1 0 ns.length)=some (.sl (iv ns)):=by
 rcases Int.lt_or_le g 0 with h | h
 ·have:ns= []:=by rcases h0 with h0 | h0;omega;exact h0
  subst this
  unfold frz
  rw[if_pos h];rfl
 ·exact dU h hg hb (by simp) (lR ns)

def sgq (x:Option Rat):Int:=match x with | some q=>q.num.sign | none=>0

structure SP where
 lo:RT
 hi:RT
 nl:Bool
 nh:Bool
def SP.c (s:SP):List V:= [.bool s.lo.neg,.sl (iv s.lo.m),.sl (iv s.lo.d),.bool s.hi.neg,.sl (iv s.hi.m),.sl (iv s.hi.d),.bool s.nl,.bool s.nh]
def RT.le (r:RT) (k:Nat):Prop:=r.m.length≤k∧r.d.length≤k
def SP.le (s:SP) (k:Nat):Prop:=s.lo.le k∧s.hi.le k
def aAF (s:SP):Bool:=match rd s.lo,rd s.hi with
 | some a, some b => (s.nl && decide (a.num.sign ≠ 0)) || (s.nh && decide (b.num.sign ≠ 0))
 | _, _ => true
def Pe (s:SP):Bool:=match rd s.lo,rd s.hi with
 | some a, some b => (s.nl || s.nh) || decide (aI2 a b ≤ 0)
 | _, _ => false
def aJX (s:SP):Bool:= !aAF s && Pe s

def aM9 (neg:Bool) (a b:Nat):Option Rat:=if b=0 then none else fit (mkRat (sg neg a) b)
theorem Kc {bl bl0:Int→Option Blk} {g:Int} {ns ms:List Int} {b:Bool} (h0:0≤g∨ns= []) (hg:bl0 g=none) (hb:bl g=some ⟨1,iv ns⟩):frz (dropB bl bl0) 2 (.agg [.bool b,.sl (iv ms),.lsl g 1 0 ns.length])=some (.agg [.bool b,.sl (iv ms),.sl (iv ns)]):=by
 have h1:=Kw h0 hg hb
 have h2:frz (dropB bl bl0) 1 (.bool b)=some (.bool b):=by simp[frz]
 have h3:frz (dropB bl bl0) 1 (.sl (iv ms))=some (.sl (iv ms)):=by simp[frz]
 rw[B8]
 simp only[List.mapM_cons,List.mapM_nil,h1,h2,h3]
 rfl
def nm (x:Option Rat):Int:=match x with | some q=>q.num | none=>0
def dn (x:Option Rat):Nat:=match x with | some q=>q.den | none=>0
theorem uD {x:Option Rat} (h:okQ x):okQ (x.map (- ·)):=by
 intro q hq
 cases x with
 | none => cases hq
 | some a =>
   cases hq
   have:=h a rfl
   unfold fits at this ⊢
   rw[show(-a).num= -a.num from rfl,show(-a).den=a.den from rfl,Int.natAbs_neg];exact this
theorem K9 {x:Option Rat} (h:okQ x):rd (ro x)=x:=by
 cases x with
 | none => exact aFS
 | some q => exact aB5 (h q rfl)

theorem zM {n:Int} (h0:0≤n) (h1:n≤18446744073709551615):IntKind.u64.wrap n=n:=IntWalk.u64_in _ ⟨by omega,by omega⟩
theorem pN (n:Int) (hn: -9223372036854775808≤n∧n≤9223372036854775807):RO Tryz.prog 160 [.int .i64 n] (.agg (biC n)):=by
 refine aK Tryz.func160 rfl rfl (by rw[Tryz.ntmps160];simp) fun bl=> ?_
 rw[Tryz.ntmps160,Tryz.results160]
 refine aC ?_
 simp
 intro g hg0 hg
 refine⟨fun h=> ?_,fun h=> ?_⟩
 ·have e:IntKind.u64.wrap (IntKind.u64.wrap (IntKind.i64.wrap (-IntKind.i64.wrap (n+1)))+1)=(n.natAbs:Int):=by
   have w1:IntKind.i64.wrap (n+1)=n+1:=i64_in (by omega) (by omega)
   have w2:IntKind.i64.wrap (-(n+1))= -(n+1):=i64_in (by omega) (by omega)
   have w3:IntKind.u64.wrap (-(n+1))= -(n+1):=zM (by omega) (by omega)
   have w4:IntKind.u64.wrap (-(n+1)+1)= -(n+1)+1:=zM (by omega) (by omega)
   rw[w1,w2,w3,w4]
   omega
  rw[e]
  refine aD (pS n.natAbs (by omega)) ?_
  simp
  refine aD (eC true n.natAbs) ?_
  have e2:sg true n.natAbs=n:=by unfold sg;simp;omega
  rw[e2,dP]
  simp
  exact aQ [.agg (biC n)] 1 (by simp[dP]) (by simp[frz,dP,V.cl]) (by simp[hg])
 ·have e:IntKind.u64.wrap n=(n.natAbs:Int):=by rw[zM (by omega) (by omega)];omega
  rw[e]
  refine aD (pS n.natAbs (by omega)) ?_
  simp
  refine aD (eC false n.natAbs) ?_
  have e2:sg false n.natAbs=n:=by unfold sg;simp;omega
  rw[e2,dP]
  simp
  exact aQ [.agg (biC n)] 1 (by simp[dP]) (by simp[frz,dP,V.cl]) (by simp[hg])
theorem Qq (n:Int):(rq (n:Rat)).c= [.bool (decide (n<0)),.sl (iv (lim n.natAbs)),.sl [[.int .i64 1]]]:=by
 rw[eG]
 show [V.bool (decide (n<0)),V.sl (iv (lim n.natAbs)),V.sl (iv (lim 1))]=_
 rw[Ba];rfl
theorem mU {n:Int} (hn: -9223372036854775808≤n∧n≤9223372036854775807):okQ (some (n:Rat)):=fun q h=>by
 cases h;exact fits_int (by omega)
theorem eO (n:Int) (hn: -9223372036854775808≤n∧n≤9223372036854775807):RO Tryz.prog 83 [.int .i64 n] (fv (some (n:Rat))):=by
 refine aK Tryz.func83 rfl rfl (by rw[Tryz.ntmps83];simp) fun bl=> ?_
 rw[Tryz.ntmps83,Tryz.results83]
 refine aC ?_
 rw[show fv (some (n:Rat))= .ptr (rq (n:Rat)).c from rfl,Qq n]
 simp
 refine aD (pN n hn) ?_
 simp[dP]
 intro g1 hg1 hb1 g2 hg2 h21 hb2
 refine aQ [.loc g2 3 0 0] 2 (by simp[h21,Ne.symm h21]) ?_ (by simp[hb1,hb2])
 have h1:=Kc (bl0:=bl) (ms:=lim n.natAbs) (b:=decide (n<0)) (ns:= [1]) (g:=g1) (.inl hg1) hb1 (bl:=upd (upd bl g1 (some ⟨1,iv [1]⟩)) g2 (some ⟨3,[[.bool (decide (n<0)),.sl (iv (lim n.natAbs)),.lsl g1 1 0 1]]⟩)) (by simp[h21,Ne.symm h21])
 rw[B8] at h1
 show frz _ 2 (.loc g2 3 0 0)=_
 rw[kB (e:= [.bool (decide (n<0)),.sl (iv (lim n.natAbs)),.lsl g1 1 0 1]) (by simp[dropB,hb2])]
 obtain⟨e',he,h2⟩:=Option.map_eq_some_iff.1 h1
 cases h2
 exact(congrArg (Option.map V.ptr) he).trans rfl

end Go.Proofs.YticmgmemnpcbbaaGreat.Vm

namespace Go.Proofs.YticmgmemnpcbbaaGreat.Vm
open Go Go.Proofs
set_option linter.unusedSimpArgs false
set_option linter.unusedVariables false
def Tj (n:Int):Prop:= -9223372036854775808≤n∧n≤9223372036854775807
structure Mb.fit (m : Mb) : Prop where
 a:Tj m.a
 b:Tj m.b
 kind:Tj m.kind
structure Str.fit (s : Str) : Prop where
 js:s.js.length≤140737488351232
 ms:s.ms.length≤140737488351232
 names: ∀j,j∈s.js→j.name.size≤140737488351232
 aIQ: ∀j,j∈s.js→j.fit
 members: ∀m,m∈s.ms→m.fit

def szR (r:RT) (left:Int):Int:=if less left r.m.length<0 then -1 else less (less left r.m.length) r.d.length
def aL8 (s:SP) (left:Int):Int:=if szR s.lo left<0 then -1 else szR s.hi (szR s.lo left)

theorem qF {bl:Int→Option Blk} {d e:D} {vs:List V} {gs:List Int} :OwnL bl [d,e] vs gs ↔ ∃v w g1 g2,vs= [v,w]∧gs=g1++g2∧(∀g,g∈g1→g∉g2)∧OwnD bl d v g1∧OwnD bl e w g2:=by
 rw[OwnL]
 constructor
 ·rintro⟨v,vs',g1,g2,rfl,rfl,h1,h2,h3⟩
  rw[OwnL] at h3
  obtain⟨w,aNI,g3,g4,rfl,rfl,h4,h5,h6⟩:=h3
  rw[OwnL] at h6
  obtain⟨rfl,rfl⟩:=h6
  rw[List.append_nil] at h1 ⊢
  exact⟨v,w,g1,g3,rfl,rfl,h1,h2,h5⟩
 ·rintro⟨v,w,g1,g2,rfl,rfl,h1,h2,h3⟩
  refine⟨v,[w],g1,g2,rfl,rfl,h1,h2,?_⟩
  rw[OwnL]
  exact⟨w,[],g2,[],rfl,by simp,by simp,h3,by rw[OwnL];exact⟨rfl,rfl⟩⟩
theorem OwnD.one {bl:Int→Option Blk} {sz:Nat} {rows:List (List V)} {v:V} {gs:List Int} (h:OwnD bl (fl sz rows) v gs):v.one=true∧v.cells= [v]:=by
 unfold fl at h
 rw[OwnD] at h
 rcases h with ⟨_,rfl,_⟩| ⟨g,els,gs',rfl,_⟩<;>exact⟨rfl,rfl⟩
theorem aC8 (ns:List Int):(fl 1 (iv ns)).sc=true:=Mz (Zb ns)
theorem eL {bl bl':Int→Option Blk} {gs:List Int} (h2: ∀g,g∈gs→bl g=none) (h3: ∀g,g∉gs→bl' g=bl g) {x:Int} {b:Blk} (hx:bl x=some b):bl' x=some b:=
 Made.sub (d:=default) (v:=default) h2 h3 x b hx
theorem OwnD.fU {bl bl':Int→Option Blk} {d:D} {v:V} {gs:List Int} (h:OwnD bl d v gs) (hg: ∀x,x∈gs→ ∀b,bl x=some b→bl' x=some b):OwnD bl' d v gs:=h.frame fun x hx=>by
 obtain⟨b,hb⟩:=h.has x hx
 rw[hb,hg x hx b hb]
theorem OwnL.fU {bl bl':Int→Option Blk} {d:List D} {v:List V} {gs:List Int} (h:OwnL bl d v gs) (hg: ∀x,x∈gs→ ∀b,bl x=some b→bl' x=some b):OwnL bl' d v gs:=h.frame fun x hx=>by
 obtain⟨b,hb⟩:=h.has x hx
 rw[hb,hg x hx b hb]
theorem OwnL.not {bl:Int→Option Blk} {d:List D} {v:List V} {gs:List Int} (h:OwnL bl d v gs) {g:Int} (hg:bl g=none):g∉gs:=fun hh=>by
 obtain⟨b,hb⟩:=h.has g hh
 rw[hg] at hb;cases hb
theorem OwnD.not {bl:Int→Option Blk} {d:D} {v:V} {gs:List Int} (h:OwnD bl d v gs) {g:Int} (hg:bl g=none):g∉gs:=fun hh=>by
 obtain⟨b,hb⟩:=h.has g hh
 rw[hg] at hb;cases hb
theorem OwnR.fU {bl bl':Int→Option Blk} {sz:Nat} {d:List (List D)} {v:List (List V)} {gs:List Int} (h:OwnR bl sz d v gs) (hg: ∀x,x∈gs→ ∀b,bl x=some b→bl' x=some b):OwnR bl' sz d v gs:=h.frame fun x hx=>by
 obtain⟨b,hb⟩:=h.has x hx
 rw[hb,hg x hx b hb]
theorem OwnR.not {bl:Int→Option Blk} {sz:Nat} {d:List (List D)} {v:List (List V)} {gs:List Int} (h:OwnR bl sz d v gs) {g:Int} (hg:bl g=none):g∉gs:=fun hh=>by
 obtain⟨b,hb⟩:=h.has g hh
 rw[hg] at hb;cases hb
theorem OwnR.snoc {bl:Int→Option Blk} {sz:Nat} {r:List D} {e:List V} {g2:List Int} (hr:OwnL bl r e g2) (hl:e.length=sz) (ho:e.all V.one=true): ∀ {rs:List (List D)} {els:List (List V)} {g1:List Int},OwnR bl sz rs els g1→(∀x,x∈g1→x∉g2)→OwnR bl sz (rs++ [r]) (els++ [e]) (g1++g2)
 | [], els, g1, h, hd => by
   rw[OwnR] at h
   obtain⟨rfl,rfl⟩:=h
   show OwnR bl sz [r] [e] g2
   rw[OwnR]
   exact⟨e,[],g2,[],rfl,by simp,by simp,hl,ho,hr,by rw[OwnR];exact⟨rfl,rfl⟩⟩
 | r1 :: rs, els, g1, h, hd => by
   rw[OwnR] at h
   obtain⟨e1,jJ,ga,gb,rfl,rfl,h3,h4,h5,h6,h7⟩:=h
   have ih:=OwnR.snoc hr hl ho h7 fun x hx=>hd x (by simp[hx])
   show OwnR bl sz (r1::(rs++ [r])) (e1::(jJ++ [e])) (ga++gb++g2)
   rw[OwnR]
   refine⟨e1,jJ++ [e],ga,gb++g2,rfl,by simp,fun x hx hx2=> ?_,h4,h5,h6,ih⟩
   rcases List.mem_append.1 hx2 with hx2 | hx2
   ·exact h3 x hx hx2
   ·exact hd x (by simp[hx]) hx2
theorem OwnR.at {bl:Int→Option Blk} {sz:Nat} : ∀ {rs:List (List D)} {els:List (List V)} {gs:List Int} (i:Nat) (hi:i<rs.length),OwnR bl sz rs els gs→
  ∃e gi,els[i]? =some e∧OwnL bl rs[i] e gi∧e.length=sz∧e.all V.one=true∧(∀x,x∈gi→x∈gs)∧
   ∀bl' r' e',OwnL bl' r' e' gi→e'.length=sz→e'.all V.one=true→(∀x,x∈gs→x∉gi→ ∀y,bl x=some y→bl' x=some y)→OwnR bl' sz (rs.set i r') (els.set i e') gs
 | [], els, gs, i, hi, _ => by simp at hi
 | r :: rs, els, gs, 0, hi, h => by
   rw[OwnR] at h
   obtain⟨e,jJ,g1,g2,rfl,rfl,h3,h4,h5,h6,h7⟩:=h
   refine⟨e,g1,rfl,h6,h4,h5,fun x hx=>by simp[hx],fun bl' r' e' a1 a2 a3 a4=> ?_⟩
   show OwnR bl' sz (r'::rs) (e'::jJ) (g1++g2)
   rw[OwnR]
   exact⟨e',jJ,g1,g2,rfl,rfl,h3,a2,a3,a1,h7.fU fun x hx b hb=>a4 x (by simp[hx]) (fun h=>h3 x h hx) b hb⟩
 | r :: rs, els, gs, i + 1, hi, h => by
   rw[OwnR] at h
   obtain⟨e,jJ,g1,g2,rfl,rfl,h3,h4,h5,h6,h7⟩:=h
   obtain⟨e2,gi,b1,b2,b3,b4,b5,b6⟩:=OwnR.at (rs:=rs) i (by simpa using hi) h7
   refine⟨e2,gi,by simpa using b1,by simpa using b2,b3,b4,fun x hx=>by simp[b5 x hx],fun bl' r' e' a1 a2 a3 a4=> ?_⟩
   show OwnR bl' sz (r::rs.set i r') (e::jJ.set i e') (g1++g2)
   rw[OwnR]
   refine⟨e,jJ.set i e',g1,g2,rfl,rfl,h3,h4,h5,h6.fU fun x hx b hb=>a4 x (by simp[hx]) (fun h=>h3 x hx (b5 x h)) b hb,b6 bl' r' e' a1 a2 a3 fun x hx hn y hy=>a4 x (by simp[hx]) hn y hy⟩
theorem Gs (els:List (List V)) (z:List V) (n:Nat) (h:els.length<n):(els++List.replicate (n - els.length) z)[els.length]? =some z:=by
 rw[List.getElem?_append_right (Nat.le_refl _),Nat.sub_self,List.getElem?_replicate,if_pos (by omega)]
theorem Cv (els:List (List V)) (z x:List V) (n:Nat) (h:els.length<n):(els++List.replicate (n - els.length) z).set els.length x=(els++ [x])++List.replicate (n - (els++ [x]).length) z:=by
 rw[List.set_append_right _ _ (Nat.le_refl _),Nat.sub_self]
 obtain⟨m,hm⟩: ∃m,n - els.length=m+1:=⟨n - els.length - 1,by omega⟩
 have h2:n - (els++ [x]).length=m:=by simp;omega
 rw[hm,h2,List.replicate_succ]
 simp
theorem Bv (els:List (List V)) (z x:List V) (n:Nat) (h:els.length<n):els++(List.replicate (n - els.length) z).set 0 x=(els++ [x])++List.replicate (n - (els++ [x]).length) z:=by
 rw[←Cv els z x n h,List.set_append_right _ _ (Nat.le_refl _),Nat.sub_self]
theorem kU {bl:Int→Option Blk} {d:D} {v:V} {gs:List Int} :OwnL bl [d] [v] gs ↔ OwnD bl d v gs:=by
 rw[OwnL]
 constructor
 ·rintro⟨v',vs',g1,g2,h1,rfl,_,h2,h3⟩
  cases h1
  rw[OwnL] at h3
  rw[h3.2,List.append_nil];exact h2
 ·intro h
  exact⟨v,[],gs,[],rfl,by simp,by simp,h,by rw[OwnL];exact⟨rfl,rfl⟩⟩
theorem Fv {bl bl':Int→Option Blk} {g:Int} {b:Option Blk} (hg:bl g=none) (hs:Sub bl bl'):Sub bl (upd bl' g b):=hs.upd hg b
structure aKO where
 els:List (List V)
 gs:List Int
 b:Int→Option Blk
theorem jL {bl:Int→Option Blk} {d:D} {ds:List D} {v:V} {vs:List V} {g1 g2:List Int} (h1:OwnD bl d v g1) (h2:OwnL bl ds vs g2) (hd: ∀g,g∈g1→g∉g2):OwnL bl (d::ds) (v::vs) (g1++g2):=by
 rw[OwnL];exact⟨v,vs,g1,g2,rfl,rfl,hd,h1,h2⟩
theorem Lk {bl:Int→Option Blk} :OwnL bl [] [] []:=by rw[OwnL];exact⟨rfl,rfl⟩
theorem U7 {bl:Int→Option Blk} (n:Int):OwnD bl (.c (.int .i64 n)) (.int .i64 n) []:=by rw[OwnD];exact⟨rfl,rfl,rfl⟩
theorem wU {bl:Int→Option Blk} (b:Bool):OwnD bl (.c (.bool b)) (.bool b) []:=by rw[OwnD];exact⟨rfl,rfl,rfl⟩

def Yx (ys xs:List (List V)) (i:Nat):List (List V):=ys.take i++xs.drop i
def marks (k:Int) (n:Nat):List Int:=(List.range n).map fun(i:Nat)=>k+i

def dB (neg:Bool) (m:List Int):List D:= [.c (.bool neg),fl 1 (iv m)]
def dR (r:RT):List D:= [.c (.bool r.neg),fl 1 (iv r.m),fl 1 (iv r.d)]
theorem Bz {bl:Int→Option Blk} {neg:Bool} {m:List Int} {v:V} {gs:List Int} :OwnD bl (.a (dB neg m)) v gs ↔ ∃vm,v= .agg [.bool neg,vm]∧OwnD bl (fl 1 (iv m)) vm gs:=by
 rw[OwnD];unfold dB
 constructor
 ·rintro⟨vs,rfl,h⟩
  rw[OwnL] at h
  obtain⟨v,vs',g1,g2,rfl,rfl,_,h1,h2⟩:=h
  rw[OwnD] at h1
  obtain⟨rfl,_,rfl⟩:=h1
  obtain⟨w,rfl⟩: ∃w,vs'= [w]:=by
   have:=h2.length
   match vs',this with
   | [w], _ => exact ⟨w, rfl⟩
  exact⟨w,rfl,kU.1 h2⟩
 ·rintro⟨vm,rfl,h⟩
  exact⟨_,rfl,jL (wU _) (kU.2 h) (fun x hx=>by cases hx)⟩
theorem B6 {bl:Int→Option Blk} {r:RT} {vs:List V} {gs:List Int} :OwnL bl (dR r) vs gs ↔ ∃vm vd gm gd,vs= [.bool r.neg,vm,vd]∧gs=gm++gd∧(∀g,g∈gm→g∉gd)∧OwnD bl (fl 1 (iv r.m)) vm gm∧OwnD bl (fl 1 (iv r.d)) vd gd:=by
 unfold dR
 constructor
 ·intro h
  rw[OwnL] at h
  obtain⟨v,vs',g1,g2,rfl,rfl,_,h1,h2⟩:=h
  rw[OwnD] at h1
  obtain⟨rfl,_,rfl⟩:=h1
  obtain⟨vm,vd,gm,gd,rfl,rfl,hd,h3,h4⟩:=qF.1 h2
  exact⟨vm,vd,gm,gd,rfl,rfl,hd,h3,h4⟩
 ·rintro⟨vm,vd,gm,gd,rfl,rfl,hd,h3,h4⟩
  exact jL (g1:= []) (g2:=gm++gd) (wU _) (qF.2 ⟨vm,vd,gm,gd,rfl,rfl,hd,h3,h4⟩) (fun x hx=>by cases hx)
theorem zO {bl:Int→Option Blk} {r:RT} {v:V} {gs:List Int} :OwnD bl (.a (dR r)) v gs ↔ ∃vm vd gm gd,v= .agg [.bool r.neg,vm,vd]∧gs=gm++gd∧(∀g,g∈gm→g∉gd)∧OwnD bl (fl 1 (iv r.m)) vm gm∧OwnD bl (fl 1 (iv r.d)) vd gd:=by
 rw[OwnD]
 constructor
 ·rintro⟨vs,rfl,h⟩
  obtain⟨vm,vd,gm,gd,rfl,h2⟩:=B6.1 h
  exact⟨vm,vd,gm,gd,rfl,h2⟩
 ·rintro⟨vm,vd,gm,gd,rfl,h2⟩
  exact⟨_,rfl,B6.2 ⟨vm,vd,gm,gd,rfl,h2⟩⟩
theorem aBW (r:RT):D.fzL (dR r)=r.c:=by simp[dR,D.fzL,D.fz,RT.c]
theorem Db (r:RT) (n:Nat):D.depL (n+1) (dR r):=by simp[dR,D.depL,D.dep,mN]
theorem U3 (r:RT) (n:Nat):(D.a (dR r)).dep (n+2):=by rw[D.dep];exact⟨by omega,Db r n⟩
theorem aCP (r:RT):D.scL (dR r)=true:=by simp[dR,D.scL,D.sc,V.ow,aC8]
def mkR (k:Nat) (r:RT):RT:=⟨r.neg,marks k r.m.length,marks (k+r.m.length:Nat) r.d.length⟩
def Sz (k:Nat) (r:RT):Nat:=k+r.m.length+r.d.length
def dS (s:SP):List D:=dR s.lo++(dR s.hi++ [.c (.bool s.nl),.c (.bool s.nh)])
def aM2 (k:Nat) (s:SP):Nat:=Sz (Sz k s.lo) s.hi

end Go.Proofs.YticmgmemnpcbbaaGreat.Vm

namespace Go.Proofs.YticmgmemnpcbbaaGreat.Vm
open Go Go.Proofs
set_option linter.unusedSimpArgs false
set_option linter.unusedVariables false
def rv (rs:List RT):List (List V):=rs.map RT.c
@[simp] theorem Vf (rs : List RT) : (rv rs).length = rs.length := by simp [rv]
@[simp] theorem aIC (rs : List RT) (i : Nat) (h : i < (rv rs).length) : (rv rs)[i] = (rs[i]'(by simpa using h)).c := by simp [rv]
def dRs (rs:List RT):D:= .s 3 (rs.map dR)
theorem Un (rs:List RT):(dRs rs).fz= .sl (rv rs):=by
 unfold dRs rv
 rw[D.fz,uB,List.map_map]
 congr 1
 refine List.map_congr_left fun r _=> ?_
 show List.map D.fz (dR r)=r.c
 rw[←qD,aBW]
theorem Ko (rs:List RT) (n:Nat):(dRs rs).dep (n+2):=by
 unfold dRs
 rw[D.dep]
 refine⟨by omega,?_⟩
 induction rs with
 | nil => simp [D.depR]
 | cons r rs ih => simp only [List.map_cons, D.depR]; exact ⟨Db r _, ih⟩
theorem Qs (rs:List RT):(dRs rs).sc=true:=by
 unfold dRs
 rw[D.sc]
 induction rs with
 | nil => simp [D.scR]
 | cons r rs ih => simp only [List.map_cons, D.scR, aCP, ih]; rfl
theorem P7 {bl:Int→Option Blk} {rs:List RT} {v:V} {gs:List Int} :OwnD bl (dRs rs) v gs ↔ (rs= []∧v= .nils∧gs= [])∨ ∃g els gs',v= .lsl g 3 0 rs.length∧gs=g::gs'∧g∉gs'∧bl g=some ⟨3,els⟩∧(g<0→els= [])∧OwnR bl 3 (rs.map dR) els gs':=by
 unfold dRs
 rw[OwnD]
 constructor
 ·rintro(⟨h1,h2,h3⟩| ⟨g,els,gs',h1,h2,h3,h4,h5,h6⟩)
  ·exact .inl ⟨by simpa using h1,h2,h3⟩
  ·exact .inr ⟨g,els,gs',by simpa using h1,h2,h3,h4,h5,h6⟩
 ·rintro(⟨h1,h2,h3⟩| ⟨g,els,gs',h1,h2,h3,h4,h5,h6⟩)
  ·exact .inl ⟨by simpa using h1,h2,h3⟩
  ·exact .inr ⟨g,els,gs',by simpa using h1,h2,h3,h4,h5,h6⟩
theorem Jh {bl:Int→Option Blk} {rs:List RT} {v:V} {gs:List Int} (h:OwnD bl (dRs rs) v gs):v.one=true∧v.cells= [v]:=by
 rcases P7.1 h with ⟨_,rfl,_⟩| ⟨g,els,gs',rfl,_⟩<;>exact⟨rfl,rfl⟩
def szTo :List RT→Int→Int
 | [], left => left
 | r :: rs, left => if szR r left < 0 then -1 else szTo rs (szR r left)
def aML (rs:List RT) (left:Int):Int:=if less left rs.length<0 then -1 else szTo rs (less left rs.length)
def xE (rs:List RT) (k:Nat):Prop:=rs.length≤k∧ ∀r,r∈rs→r.le k
def aJ7 (rs:List RT):Nat:=(rs.map fun r=>r.m.length+r.d.length).sum
def mkQ (k:Nat) (r:RT):RT:=⟨(k:Int).tmod 3==0,marks (k+1:Nat) r.m.length,marks (k+1+r.m.length:Nat) r.d.length⟩
def aAH (k:Nat) (r:RT):Nat:=k+1+r.m.length+r.d.length
def mkQs :Nat→List RT→List RT
 | _, [] => []
 | k, r :: rs => mkQ k r :: mkQs (aAH k r) rs
def aLQ (k:Nat) (rs:List RT):Nat:=rs.foldl aAH k
structure Mk where
 i:Nat
 els:List (List V)
 b:Int→Option Blk

theorem Dn (n:Int) (hn:(lim n.natAbs).length≤60):NW Tryz.prog 173 [.agg (biC n)] (.a (dB (decide (n<0)) (lim n.natAbs))):=by
 refine jQ Tryz.func173 rfl rfl (by rw[Tryz.ntmps173];simp) fun bl=> ?_
 rw[Tryz.ntmps173,Tryz.results173]
 refine aC ?_
 rw[dP]
 simp
 intro g1 hg1 hb1 g2 hg2 h21 hb2
 try simp[h21,Ne.symm h21]
 refine⟨fun h=>by omega,fun h=> ?_⟩
 try simp[h21,Ne.symm h21]
 refine bS aN (upd bl g1 (some ⟨2,[[.bool (decide (n<0)),.sl (iv (lim n.natAbs))]]⟩)) (by simp[h21,hb2]) [0,1,2,3] 3 (by kernel_rfl) ?_
 simp[h21,Ne.symm h21]
 refine Dz 4 ?_
 simp[h21,Ne.symm h21]
 refine iZ (jV (lim n.natAbs) (by omega)) fun v gs b o f fr=> ?_
 obtain⟨c1,c2⟩:=o.one
 have e1: ∀x,x∈gs→x≠g1∧x≠g2∧bl x=none:=fun x hx=>by have:=f x hx;simp[aA] at this;grind
 have n1:b g1=_:=fr g1 fun h=>(e1 g1 h).1 rfl
 have n2:b g2=_:=fr g2 fun h=>(e1 g2 h).2.1 rfl
 simp[h21,Ne.symm h21] at n1 n2
 have hs:Sub bl b:=fun x y hy=>by
  have z1:x≠g1:=fun h=>by rw[h,hb1] at hy;cases hy
  have z2:x≠g2:=fun h=>by rw[h,hb2] at hy;cases hy
  exact eL f fr (by simp[aA,z1,z2,hy])
 have hs1:Sub (upd bl g1 (some ⟨2,[[.bool (decide (n<0)),.sl (iv (lim n.natAbs))]]⟩)) b:=fun x y hy=>by
  rw[aA] at hy
  split at hy
  ·rename_i h;subst h;rw[n1];exact hy
  ·exact hs x y hy
 refine⟨hs1,Dz 5 ?_⟩
 simp[h21,Ne.symm h21,n1,n2,c1,c2]
 refine⟨hs1,Dz 6 ?_⟩
 simp[h21,Ne.symm h21,n1,n2,c1,c2]
 refine⟨hs1.upd (by simp[h21,hb2]) _,Dy ?_⟩
 simp[h21,Ne.symm h21,n1,n2,c1,c2]
 refine fA [.agg [.bool (decide (n<0)),v]] gs (by simp[c1,n1,n2]) ?_ (fun x hx=>(e1 x hx).2.2) (hs.upd hb2 _)
 exact Bz.2 ⟨v,rfl,o.frame fun x hx=>by simp[aA,(e1 x hx).2.1]⟩
theorem uJ (x:Option Rat) (hx:okQ x):NW Tryz.prog 95 [fv x] (.a (dR (ro x))):=by
 cases x with
 | none =>
   refine jQ Tryz.func95 rfl rfl (by rw[Tryz.ntmps95];simp) fun bl=> ?_
   rw[Tryz.ntmps95,Tryz.results95]
   refine aC ?_
   simp[fv]
   intro g2 hg2 hb2
   refine fA [.agg [.bool false,.nils,.nils]] [] (by simp) ?_ (by simp) (by simp[hb2])
   exact zO.2 ⟨.nils,.nils,[],[],rfl,rfl,by simp,jU.2 (.inl ⟨rfl,rfl,rfl⟩),jU.2 (.inl ⟨rfl,rfl,rfl⟩)⟩
 | some q =>
   have hf:=hx q rfl
   have hl:=hf.1
   have hl2:=hf.2
   refine jQ Tryz.func95 rfl rfl (by rw[Tryz.ntmps95];simp) fun bl=> ?_
   rw[Tryz.ntmps95,Tryz.results95]
   refine aC ?_
   rw[show fv (some q)= .ptr (rq q).c from rfl,eG]
   simp
   intro g2 hg2 hb2
   refine bS aN bl (by simp[hb2]) [0,1,2,3,5,6,7,8] 4 (by kernel_rfl) ?_
   simp
   refine Dz 4 ?_
   simp
   have hfw:=Dn q.num (by omega)
   rw[dP] at hfw
   refine iZ hfw fun v gs b o f fr=> ?_
   obtain⟨vm,rfl,om⟩:=Bz.1 o
   obtain⟨c1,c2⟩:=om.one
   have e1: ∀x,x∈gs→x≠g2∧bl x=none:=fun x hx=>by have:=f x hx;simp[aA] at this;exact this
   have n2:b g2=_:=fr g2 fun h=>(e1 g2 h).1 rfl
   simp at n2
   have hs:Sub bl b:=fun x y hy=>by
    have z2:x≠g2:=fun h=>by rw[h,hb2] at hy;cases hy
    exact eL f fr (by simp[aA,z2,hy])
   refine⟨hs,Dz 9 ?_⟩
   simp
   refine iZ (jV (lim q.den) (by omega)) fun w gw b2 ow f2 fr2=> ?_
   obtain⟨d1,d2⟩:=ow.one
   have m2:b2 g2=_:=eL f2 fr2 n2
   have hs2:Sub bl b2:=fun x y hy=>eL f2 fr2 (hs x y hy)
   have e3: ∀x,x∈gw→x≠g2:=fun x hx h=>by have:=f2 x hx;rw[h,n2] at this;cases this
   have e4: ∀x,x∈gs→x∉gw:=fun x hx h=>by
    obtain⟨y,hy⟩:=om.has x hx
    rw[f2 x h] at hy;cases hy
   refine⟨hs2,Dz 10 ?_⟩
   simp[m2,c1,c2,d1,d2]
   refine⟨hs2,Dz 11 ?_⟩
   simp[m2,c1,c2,d1,d2]
   refine⟨hs2.upd hb2 _,Dy ?_⟩
   simp[m2,c1,c2,d1,d2]
   refine fA [.agg [.bool (decide (q.num<0)),vm,w]] (gs++gw) (by simp[c1,d1,m2]) ?_ (fun x hx=> ?_) (hs2.upd hb2 _)
   ·refine zO.2 ⟨vm,w,gs,gw,rfl,rfl,e4,om.frame fun x hx=> ?_,ow.frame fun x hx=> ?_⟩
    ·simp only[aA];rw[if_neg (e1 x hx).1];exact fr2 x (e4 x hx)
    ·simp only[aA];rw[if_neg (e3 x hx)]
   ·rcases List.mem_append.1 hx with hx | hx
    ·exact(e1 x hx).2
    ·exact dA hs (f2 x hx)
def dT (r:RT) (b:Bool):D:= .t [.a (dR r),.c (.bool b)]
def aM3 (s:SP):Option Rat:=if aJX s && !s.nl && !s.nh then op2 (· - ·) (rd s.hi) (rd s.lo) else none
theorem aFJ {x:Option Rat} (h:okQ x):decide (ro x).ok=x.isSome:=by
 have:=Zk (r:=ro x)
 rw[K9 h] at this
 rw[Bool.eq_iff_iff,decide_eq_true_iff,this]
theorem ro_le {x:Option Rat} (h:okQ x):(ro x).m.length≤24∧(ro x).d.length≤24:=by
 cases x with
 | none => simp [ro, rz]
 | some q => exact h q rfl
end Go.Proofs.YticmgmemnpcbbaaGreat.Vm
