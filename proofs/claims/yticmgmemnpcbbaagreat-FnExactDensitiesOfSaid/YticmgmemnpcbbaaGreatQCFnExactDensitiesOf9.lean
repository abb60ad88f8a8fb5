import Derived.Test.YticmgmemnpcbbaaGreatQCFnExactDensitiesOf8

namespace Go.Proofs.YticmgmemnpcbbaaGreat.Lp
set_option linter.unusedSimpArgs false
set_option linter.unusedVariables false
theorem tN {m:Nat} {t:Tab} {C:Nat→Rat} {j:Nat} (hj: ∀i,i<m→t.bs i≠j):rc m (wl C (j+1)) t j= -1:=by
 unfold rc wl
 simp only
 rw[if_pos trivial,jQ]
 ·grind
 ·intro i hi;rw[if_neg (hj i hi)];grind
theorem U6 {m:Nat} {t:Tab} {C:Nat→Rat} {j k:Nat} (hjk:j≠k) (hk: ∀i,i<m→t.bs i≠k):rc m (wl C (k+1)) t j=0:=by
 unfold rc wl
 simp only
 rw[if_neg hjk,jQ]
 ·grind
 ·intro i hi;rw[if_neg (hk i hi)];grind
theorem El {m:Nat} {E:Nat→Nat→Rat} {t:Tab} {C:Nat→Rat} {j i:Nat} (h:TI m E t) (hi:i<m) (hj:j≠t.bs i):rc m (wl C (t.bs i+1)) t j=t.X i j:=by
 unfold rc wl
 simp only
 rw[if_neg hj,dI hi]
 ·rw[if_pos rfl];grind
 ·intro i' hi' hne
  rw[if_neg fun e=>hne (h.inj hi' hi e)];grind
def Deep (m:Nat) (C:Nat→Rat) (t:Tab) (j k:Nat) (s:Int):Prop:=
 (s=0∧ ∀q,q≤k→rc m (wl C q) t j=0)∨(s≠0∧ ∃q,q≤k∧(∀p,p<q→rc m (wl C p) t j=0)∧rc m (wl C q) t j≠0∧s=(rc m (wl C q) t j).num.sign)
theorem Gg {q:Rat} :0<q.num ↔ 0<q:=by
 have h1:=Rat.num_nonneg (q:=q)
 have h2:=Rat.num_eq_zero (q:=q)
 constructor
 ·intro h
  have h3:=h1.1 (by omega)
  have h4:q≠0:=fun e=>by rw[e] at h;exact absurd h (by decide)
  grind
 ·intro h
  have h3:=h1.2 (by grind)
  have h4:q.num≠0:=fun e=>by have:=h2.1 e;grind
  omega
theorem C3 {q:Rat} :0<q.num.sign ↔ 0<q:=by
 rw[←Gg]
 rcases Int.lt_trichotomy q.num 0 with h | h | h
 ·rw[Int.sign_eq_neg_one_of_neg h];omega
 ·rw[h];decide
 ·rw[Int.sign_eq_one_of_pos h];omega
theorem sign_zero {q:Rat} :q.num.sign=0 ↔ q=0:=by
 rw[Int.sign_eq_zero_iff_zero]
 exact Rat.num_eq_zero
theorem Deep.start (m:Nat) (C:Nat→Rat) (t:Tab) (j:Nat):Deep m C t j 0 (rc m C t j).num.sign:=by
 by_cases h:rc m C t j=0
 ·refine .inl ⟨sign_zero.2 h,fun q hq=> ?_⟩
  rw[show q=0 by omega];exact h
 ·exact .inr ⟨fun e=>h (sign_zero.1 e),0,Nat.le_refl _,fun p hp=>by omega,h,rfl⟩
theorem Deep.next {m:Nat} {C:Nat→Rat} {t:Tab} {j k:Nat} (h:Deep m C t j k 0) {s:Int} (hs:s=(rc m (wl C (k+1)) t j).num.sign):Deep m C t j (k+1) s:=by
 rcases h with ⟨_,h⟩| ⟨h,_⟩
 ·by_cases e:rc m (wl C (k+1)) t j=0
  ·refine .inl ⟨by rw[hs];exact sign_zero.2 e,fun q hq=> ?_⟩
   by_cases e2:q=k+1
   ·rw[e2];exact e
   ·exact h q (by omega)
  ·exact .inr ⟨fun e2=>e (sign_zero.1 (hs▸e2)),k+1,Nat.le_refl _,fun p hp=>h p (by omega),e,hs⟩
 ·exact absurd rfl h
theorem Deep.mono {m:Nat} {C:Nat→Rat} {t:Tab} {j k k':Nat} {s:Int} (h:Deep m C t j k s) (hs:s≠0) (hk:k≤k'):Deep m C t j k' s:=by
 rcases h with ⟨h,_⟩| ⟨h,q,h1,h2⟩
 ·exact absurd h hs
 ·exact .inr ⟨h,q,by omega,h2⟩
theorem Deep.end {m n:Nat} {C:Nat→Rat} {t:Tab} {j:Nat} {s:Int} (h:Deep m C t j n s):0<s ↔ iK (n+1) fun q=>rc m (wl C q) t j:=by
 rcases h with ⟨rfl,h⟩| ⟨h,q,h1,h2,h3,h4⟩
 ·constructor
  ·intro h0;omega
  ·rintro⟨q,q1,q2,q3⟩
   simp only at q2
   rw[h q (by omega)] at q2;exact absurd q2 (by decide)
 ·rw[h4]
  constructor
  ·intro h5;exact⟨q,by omega,C3.1 h5,fun p hp=>h2 p hp⟩
  ·rintro⟨p,p1,p2,p3⟩
   rcases Nat.lt_trichotomy p q with g | g | g
   ·simp only at p2;rw[h2 p g] at p2;exact absurd p2 (by decide)
   ·subst g;exact C3.2 p2
   ·exact absurd (p3 q g) h3
theorem Deep.own {m n:Nat} {C:Nat→Rat} {t:Tab} {j:Nat} (h:Deep m C t j j 0) (hj: ∀i,i<m→t.bs i≠j): ¬ iK (n+1) fun q=>rc m (wl C q) t j:=by
 rintro⟨q,q1,q2,q3⟩
 rcases h with ⟨_,h⟩| ⟨h,_⟩
 ·have h5:=tN (C:=C) hj
  rcases Nat.lt_trichotomy q (j+1) with g | g | g
  ·simp only at q2;rw[h q (by omega)] at q2;exact absurd q2 (by decide)
  ·subst g;simp only at q2;rw[h5] at q2;exact absurd q2 (by decide)
  ·have:=q3 (j+1) g
   simp only at this
   rw[h5] at this;exact absurd this (by decide)
 ·exact h rfl
noncomputable def zT (m : Nat) (C : Nat → Rat) (t : Tab) (j n : Nat) : Int := match fstP (fun q => rc m (wl C q) t j ≠ 0) (n + 1) with
 | some q => (rc m (wl C q) t j).num.sign
 | none => 0
theorem C7 (m:Nat) (C:Nat→Rat) (t:Tab) (j n:Nat):Deep m C t j n (zT m C t j n):=by
 unfold zT
 cases h:fstP (fun q=>rc m (wl C q) t j≠0) (n+1) with
 | none =>
   have h1:=eP.1 h
   exact .inl ⟨rfl,fun q hq=>Classical.not_not.1 (h1 q (by omega))⟩
 | some q =>
   obtain⟨h1,h2,h3⟩:=dD.1 h
   exact .inr ⟨fun e=>h2 (sign_zero.1 e),q,by omega,fun p hp=>Classical.not_not.1 (h3 p hp),h2,rfl⟩
theorem Deep.uniq {m:Nat} {C:Nat→Rat} {t:Tab} {j n:Nat} {s s':Int} (h:Deep m C t j n s) (h':Deep m C t j n s'):s=s':=by
 rcases h with ⟨rfl,h⟩| ⟨h,q,h1,h2,h3,h4⟩<;>rcases h' with ⟨rfl,g⟩| ⟨g,p,g1,g2,g3,g4⟩
 ·rfl
 ·exact absurd (h p g1) g3
 ·exact absurd (g q h1) h3
 ·have:p=q:=by
   rcases Nat.lt_trichotomy p q with x | x | x
   ·exact absurd (h2 p x) g3
   ·exact x
   ·exact absurd (g2 q x) h3
  subst this
  rw[h4,g4]
theorem Deep.eq {m:Nat} {C:Nat→Rat} {t:Tab} {j n:Nat} {s:Int} (h:Deep m C t j n s):zT m C t j n=s:=(C7 m C t j n).uniq h
theorem Kf {m n:Nat} {C:Nat→Rat} {t:Tab} {j:Nat} :0<zT m C t j n ↔ iK (n+1) fun q=>rc m (wl C q) t j:=(C7 m C t j n).end
theorem Deep.self {m n:Nat} {C:Nat→Rat} {t:Tab} {j:Nat} (h:Deep m C t j j 0) (hj: ∀i,i<m→t.bs i≠j) (hn:j<n):zT m C t j n= -1:=by
 have h1:=h.next (s:= -1) (by rw[tN hj];rfl)
 exact(h1.mono (by decide) hn).eq
end Go.Proofs.YticmgmemnpcbbaaGreat.Lp

namespace Go.Proofs.YticmgmemnpcbbaaGreat.Vm
open Go Go.RowKit Go.Proofs
set_option linter.unusedSimpArgs false
set_option linter.unusedVariables false
def basic (r:Nat) (bs:Nat→Nat) (j:Nat):Prop:= ∃p,p<r∧bs p=j
instance (r : Nat) (bs : Nat → Nat) (j : Nat) : Decidable (basic r bs j) := by unfold basic; infer_instance
theorem Bb (t:SN) (j:Nat) (hr:t.r≤100):RO Tryz.prog 247 [.ptr t.c,.int .i64 j] (.bool (decide (basic t.r t.bs j))):=by
 obtain⟨R,w,n,Z,co,bs⟩:=t
 simp only at hr
 refine aH Tryz.func247 rfl rfl (by rw[Tryz.ntmps247];simp) fun bl=> ?_
 rw[Tryz.ntmps247,Tryz.results247]
 refine aB ?_
 simp[SN.c]
 refine aG (fun i:Nat=> [(1,.int .i64 j),(10,.sl (iv (lb R bs))),(11,.int .i64 R),(12,.int .i64 i)]) (fun _=>bl) (fun i=>i≤R∧ ∀p,p<i→bs p≠j) (fun i=>R - i) _ 0 ⟨Nat.zero_le _,fun p hp=>by omega⟩ ⟨rfl,by simp,Sub.refl _⟩ ?_
 rintro i ⟨hi,bH⟩
 have wi:IntKind.i64.wrap ((i:Int)+1)=(i:Int)+1:=i64_in (by omega) (by omega)
 refine aB ?_
 simp
 refine⟨fun hiR=> ?_,fun hiR=> ?_⟩
 ·simp[hiR]
  refine⟨fun hb=> ?_,fun hb=> ?_⟩
  ·have hd:basic R bs j:=⟨i,hiR,by omega⟩
   exact aP (by simp[hd]) rfl rfl
  ·simp[wi,aA]
   refine⟨i+1,⟨by omega,fun p hp=> ?_⟩,by omega,rfl,by simp,Sub.refl _⟩
   by_cases e:p=i
   ·rw[e];omega
   ·exact bH p (by omega)
 ·have: ¬ basic R bs j:=fun⟨p,hp,e⟩=>bH p (by omega) e
  exact aP (by simp[this]) rfl rfl
theorem T1 (t:SN) (j:Nat) (hj:j<t.w) (hf:fits (t.co j)):RO Tryz.prog 248 [.ptr t.c,.int .i64 j,.bool false] (.int .i64 (t.co j).num.sign):=by
 obtain⟨R,w,n,Z,co,bs⟩:=t
 simp only at hj hf
 have hjw:(j:Int)<w:=by omega
 have l3: ∀q:Rat,(rq q).c.length=3:=fun _=>rfl
 have t3: ∀q:Rat,(rq q).c.take 3=(rq q).c:=fun _=>rfl
 refine aH Tryz.func248 rfl rfl (by rw[Tryz.ntmps248];simp) fun bl=> ?_
 rw[Tryz.ntmps248,Tryz.results248]
 refine aB ?_
 simp[SN.c,hj,hjw,l3,t3]
 refine aD (gK hf) ?_
 simp
 obtain⟨s,hs⟩: ∃s,(co j).num.sign=s:=⟨_,rfl⟩
 rw[hs]
 refine aG (fun _:Unit=> [(0,.ptr [.int .i64 n,.sl (rrs R w Z),.sl (iv (lb R bs)),.sl (rqs w co)]),(1,.int .i64 j),(2,.bool false),(7,.int .i64 s),(8,.int .i64 0)]) (fun _=>bl) (fun _=>True) (fun _=>0) _ () trivial ⟨rfl,by simp,Sub.refl _⟩ ?_
 rintro⟨⟩ -
 refine aO (aO ?_)
 refine bD [(0,.ptr [.int .i64 n,.sl (rrs R w Z),.sl (iv (lb R bs)),.sl (rqs w co)]),(1,.int .i64 j),(2,.bool false),(7,.int .i64 s),(8,.int .i64 0)] _ bl 31 (.bool false) ⟨rfl,by simp,Sub.refl _⟩ rfl ?_ ?_
 ·simp
 simp
 refine aB ?_
 simp
 exact aP (by simp) rfl rfl
structure View (m b : Nat) (E : Nat → Nat → Rat) (T : Lp.Tab) (rows : List Nat) (t : SN) : Prop where
 ti:Lp.TI m E T
 rr:Rows m rows
 len:t.r=rows.length
 bs: ∀p,p<t.r→t.bs p=T.bs (atR rows p)
 nl:t.n≤100
 rl:t.r≤100
 nw:t.w=t.n+1
 wl:t.w≤200
 dead: ∀i,i<m→i∉rows→t.n≤T.bs i
 z: ∀p j,p<t.r→j<t.n→t.Z p j=T.X (atR rows p) j
 zb: ∀p,p<t.r→t.Z p t.n=T.X (atR rows p) b
 tm:Vr t
theorem View.nb {m b:Nat} {E:Nat→Nat→Rat} {T:Lp.Tab} {rows:List Nat} {t:SN} (h:View m b E T rows t) {k:Nat} (hk:k<t.n) (hb: ∀p,p<t.r→t.bs p≠k): ∀i,i<m→T.bs i≠k:=fun i hi e=>by
 rcases Classical.em (i∈rows) with g | g
 ·obtain⟨p,hp,e2⟩:=List.mem_iff_getElem.1 g
  have hp':p<t.r:=by rw[h.len];exact hp
  refine hb p hp' ?_
  rw[h.bs p hp',show atR rows p=i by unfold atR;rw[List.getD_eq_getElem?_getD,List.getElem?_eq_getElem hp,e2];rfl,e]
 ·have:=h.dead i hi g;omega
structure Xd where
 k:Nat
 s:Int
theorem Q4 {m b:Nat} {E:Nat→Nat→Rat} {C:Nat→Rat} {T:Lp.Tab} {rows:List Nat} {t:SN} (h:View m b E T rows t) (j:Nat) (hjn:j<t.n) (hnb: ¬ basic t.r t.bs j) (hco:t.co j=Lp.rc m C T j):
  RO Tryz.prog 248 [.ptr t.c,.int .i64 j,.bool true] (.int .i64 (Lp.zT m C T j t.n)):=by
 have hjw:j<t.w:=by have:=h.nw;omega
 have hf:fits (t.co j):=cE (h.tm.co j hjw)
 have hfZ: ∀p,p<t.r→fits (t.Z p j):=fun p hp=>cE (h.tm.z p j hp hjw)
 have hnl:=h.nl
 have hrl:=h.rl
 have hTj: ∀i,i<m→T.bs i≠j:=h.nb hjn fun p hp e=>hnb ⟨p,hp,e⟩
 have hbs:=h.bs
 have hz:=h.z
 have aIW:= @View.nb _ _ _ _ _ _ h
 have hlen:=h.len
 have hR:=h.rr
 have hti:=h.ti
 clear h
 obtain⟨R,w,n,Z,co,bs⟩:=t
 simp only at hjn hnb hco hjw hf hfZ hnl hrl hbs hz aIW hlen
 have tC:(j:Int)<w:=by omega
 have l3: ∀q:Rat,(rq q).c.length=3:=fun _=>rfl
 have t3: ∀q:Rat,(rq q).c.take 3=(rq q).c:=fun _=>rfl
 refine aH Tryz.func248 rfl rfl (by rw[Tryz.ntmps248];simp) fun bl=> ?_
 rw[Tryz.ntmps248,Tryz.results248]
 refine aB ?_
 simp[SN.c,hjw,tC,l3,t3]
 refine aD (gK hf) ?_
 simp
 have hD0:=Lp.Deep.start m C T j
 rw[←hco] at hD0
 refine aG (fun s:Xd=> [(0,.ptr [.int .i64 n,.sl (rrs R w Z),.sl (iv (lb R bs)),.sl (rqs w co)]),(1,.int .i64 j),(2,.bool true),(7,.int .i64 s.s),(8,.int .i64 s.k)]) (fun _=>bl) (fun s=>s.k≤n∧Lp.Deep m C T j s.k s.s) (fun s=>n - s.k) _ ⟨0,(co j).num.sign⟩ ⟨Nat.zero_le _,hD0⟩ ⟨rfl,by simp,Sub.refl _⟩ ?_
 rintro⟨k,s⟩ ⟨hk,hD⟩
 simp only at hk hD
 have wk:IntKind.i64.wrap ((k:Int)+1)=(k:Int)+1:=i64_in (by omega) (by omega)
 refine aO (aO ?_)
 refine bD [(0,.ptr [.int .i64 n,.sl (rrs R w Z),.sl (iv (lb R bs)),.sl (rqs w co)]),(1,.int .i64 j),(2,.bool true),(7,.int .i64 s),(8,.int .i64 k)] _ bl 31 (.bool (decide (s=0∧k<n))) ⟨rfl,by simp,Sub.refl _⟩ rfl ?_ ?_
 ·simp
  by_cases h0:s=0<;>simp[h0]
 simp
 refine aB ?_
 simp
 refine⟨fun h0 hkn=> ?_,fun hno=> ?_⟩
 ·subst h0
  refine aB ?_
  simp
  refine⟨fun hkj=> ?_,fun hkj=> ?_⟩
  ·have hkj:k=j:=by omega
   subst hkj
   exact aP (by simp[hD.self hTj hkn]) rfl rfl
  have hkj:k≠j:=by omega
  refine aG (fun q:Xd=> [(0,.ptr [.int .i64 n,.sl (rrs R w Z),.sl (iv (lb R bs)),.sl (rqs w co)]),(1,.int .i64 j),(2,.bool true),(7,.int .i64 q.s),(8,.int .i64 k),(40,.sl (iv (lb R bs))),(41,.int .i64 R),(42,.int .i64 q.k)]) (fun _=>bl) (fun q=>q.k≤R∧((q.s=0∧ ∀p,p<q.k→bs p≠k)∨ ∃p,p<q.k∧bs p=k∧q.s=(Z p j).num.sign)) (fun q=>R - q.k) _ ⟨0,0⟩ ⟨Nat.zero_le _,.inl ⟨rfl,fun p hp=>by simp only at hp;omega⟩⟩ ⟨rfl,by simp,Sub.refl _⟩ ?_
  rintro⟨i,s⟩ ⟨hi,hs⟩
  simp only at hi hs
  have wi:IntKind.i64.wrap ((i:Int)+1)=(i:Int)+1:=i64_in (by omega) (by omega)
  refine aB ?_
  simp
  refine⟨fun hiR=> ?_,fun hiR=> ?_⟩
  ·have Lj:(i:Int)<R:=by omega
   simp[hiR]
   refine⟨fun hb=> ?_,fun hb=> ?_⟩
   ·have hb:bs i=k:=by omega
    simp[hiR,Lj,hjw,tC,l3,t3]
    refine aD (gK (hfZ i hiR)) ?_
    simp[wi,aA]
    refine⟨⟨i+1,(Z i j).num.sign⟩,⟨by simp only;omega,.inr ⟨i,by simp only;omega,hb,rfl⟩⟩,by simp only;omega,rfl,by simp,Sub.refl _⟩
   ·have hb:bs i≠k:=by omega
    simp[wi,aA]
    refine⟨⟨i+1,s⟩,⟨by simp only;omega,?_⟩,by simp only;omega,rfl,by simp,Sub.refl _⟩
    simp only
    rcases hs with ⟨h1,h2⟩| ⟨p,h1,h2,h3⟩
    ·refine .inl ⟨h1,fun p hp=> ?_⟩
     by_cases e:p=i
     ·rw[e];exact hb
     ·exact h2 p (by omega)
    ·exact .inr ⟨p,by omega,h2,h3⟩
  have hie:i=R:=by omega
  subst hie
  have pJ:Lp.Deep m C T j (k+1) s:=by
   refine hD.next ?_
   rcases hs with ⟨h1,h2⟩| ⟨p,h1,h2,h3⟩
   ·rw[h1,Lp.U6 (Ne.symm hkj) (aIW hkn h2)];rfl
   ·have e1:=hbs p h1
    have hin:atR rows p<m:=hR.lt (cK (by omega))
    rw[h3,hz p j h1 hjn,←h2,e1,Lp.El hti hin (by rw[←e1,h2];exact Ne.symm hkj)]
  simp[wk,aA]
  refine⟨⟨k+1,s⟩,⟨by simp only;omega,pJ⟩,by simp only;omega,rfl,by simp,Sub.refl _⟩
 ·have hE:Lp.zT m C T j n=s:=by
   rcases Classical.em (s=0) with e | e
   ·have:k=n:=by have:=hno e;omega
    subst this;exact hD.eq
   ·exact(hD.mono e hk).eq
  exact aP (by simp[hE]) rfl rfl
end Go.Proofs.YticmgmemnpcbbaaGreat.Vm

namespace Go.Proofs.YticmgmemnpcbbaaGreat.Vm
open Go Go.RowKit Go.Proofs
set_option linter.unusedSimpArgs false
set_option linter.unusedVariables false
def isGC :Oper→Bool
 | ⟨_, .call ⟨.value _, _, _⟩, _, _, _, some _⟩ => true
 | _ => false
section
variable (P : Program) (ds : List (Option Tmp)) (blK : Int → Option Blk)
def HoistG :List Oper→(St→Prop)→St→Prop
 | [], K, σ => K σ
 | o :: rest, K, σ => match o with
   | ⟨d,.call ⟨.value f,args,_⟩,_,_,_,some (j,b)⟩=>match ds[j]? with
     | some (some t)=>match σ.ev (.tmp t) with
       | .bool q=>if q=b then bJ (callV σ f args.toList) fun p=> ∃v,RO P p.1 p.2 v∧HoistG rest K (σ.put d v) else HoistG rest K (σ.put d (.tup []))
       | .tup []=>HoistG rest K (σ.put d (.tup []))
       | _=>False
     | _=>False
   | o=>HoistF P ds blK [o] (HoistG rest K) σ
def gcK (rest:List Oper) (K:St→Prop) (σ:St) (d:Option Tmp) (o:Option (FuncId×List V)):Prop:=bJ o fun p=> ∃v,RO P p.1 p.2 v∧HoistG P ds blK rest K (σ.put d v)
def gcV (rest:List Oper) (K:St→Prop) (σ:St) (d:Option Tmp) (f:Operand) (args:Array Operand) (b:Bool) (x:V):Prop:=match x with
 | .bool q => if q = b then gcK P ds blK rest K σ d (callV σ f args.toList) else HoistG P ds blK rest K (σ.put d (.tup []))
 | .tup [] => HoistG P ds blK rest K (σ.put d (.tup []))
 | _ => False
def gcS (rest:List Oper) (K:St→Prop) (σ:St) (d:Option Tmp) (f:Operand) (args:Array Operand) (b:Bool) (x:Option (Option Tmp)):Prop:=match x with
 | some (some t) => gcV P ds blK rest K σ d f args b (σ.ev (.tmp t))
 | _ => False
variable (rest : List Oper) (K : St → Prop) (σ : St) (d : Option Tmp) (f : Operand) (args : Array Operand) (ats : Array TypeId) (ty : TypeId) (pos : String) (af : Array Edge) (b : Bool)
@[simp] theorem aDQ : HoistG P ds blK [] K σ = K σ := (rfl)
@[simp] theorem xA (j : Nat) : HoistG P ds blK (⟨d, .call ⟨.value f, args, ats⟩, ty, pos, af, some (j, b)⟩ :: rest) K σ = gcS P ds blK rest K σ d f args b (ds[j]?) := (rfl)
@[simp] theorem aHK (t : Tmp) : gcS P ds blK rest K σ d f args b (some (some t)) = gcV P ds blK rest K σ d f args b (σ.ev (.tmp t)) := (rfl)
@[simp] theorem aUU : gcV P ds blK rest K σ d f args false (.bool false) = gcK P ds blK rest K σ d (callV σ f args.toList) := by simp [gcV]
@[simp] theorem aS2 : gcV P ds blK rest K σ d f args false (.bool true) = HoistG P ds blK rest K (σ.put d (.tup [])) := by simp [gcV]
@[simp] theorem aH8 : gcV P ds blK rest K σ d f args b (.tup []) = HoistG P ds blK rest K (σ.put d (.tup [])) := (rfl)
theorem cZ {o:Oper} (h:isGC o=false):HoistG P ds blK (o::rest) K σ=HoistF P ds blK [o] (HoistG P ds blK rest K) σ:=by
 obtain⟨d,op,ty,pos,af,gd⟩:=o
 unfold HoistG
 split
 ·rename_i heq
  cases heq
  cases h
 ·rfl
end
section
variable (P : Program) (ds : List (Option Tmp)) (blK : Int → Option Blk) (rest : List Oper) (K : St → Prop) (σ : St) (d : Option Tmp) (ty : TypeId) (pos : String) (af : Array Edge) (g : Nat × Bool)
attribute [-simp] B7
@[simp high] theorem Wl : HoistF P ds blK [] K σ = K σ := (rfl)
theorem Jw (op:Op):isGC ⟨d,op,ty,pos,af,none⟩=false:=by
 unfold isGC
 split
 ·rename_i h;cases h
 ·rfl
@[simp] theorem Xr (op : Op) : HoistG P ds blK (⟨d, op, ty, pos, af, none⟩ :: rest) K σ = HoistF P ds blK [⟨d, op, ty, pos, af, none⟩] (HoistG P ds blK rest K) σ := cZ _ _ _ _ _ _ (Jw _ _ _ _ _)
@[simp] theorem Xw (x : Operand) : HoistG P ds blK (⟨d, .move x, ty, pos, af, some g⟩ :: rest) K σ = HoistF P ds blK [⟨d, .move x, ty, pos, af, some g⟩] (HoistG P ds blK rest K) σ := cZ _ _ _ _ _ _ rfl
@[simp] theorem Xf (c a b : Operand) : HoistG P ds blK (⟨d, .pick c a b, ty, pos, af, some g⟩ :: rest) K σ = HoistF P ds blK [⟨d, .pick c a b, ty, pos, af, some g⟩] (HoistG P ds blK rest K) σ := cZ _ _ _ _ _ _ rfl
@[simp] theorem Xe (t : TypeId) (x : Operand) : HoistG P ds blK (⟨d, .load t x, ty, pos, af, some g⟩ :: rest) K σ = HoistF P ds blK [⟨d, .load t x, ty, pos, af, some g⟩] (HoistG P ds blK rest K) σ := cZ _ _ _ _ _ _ rfl
@[simp] theorem Lx (x : Operand) : HoistG P ds blK (⟨d, .nilCheck x, ty, pos, af, some g⟩ :: rest) K σ = HoistF P ds blK [⟨d, .nilCheck x, ty, pos, af, some g⟩] (HoistG P ds blK rest K) σ := cZ _ _ _ _ _ _ rfl
@[simp] theorem Tj (op : BinOp) (t : TypeId) (x y : Operand) (t2 : TypeId) : HoistG P ds blK (⟨d, .binOp op t x y t2, ty, pos, af, some g⟩ :: rest) K σ = HoistF P ds blK [⟨d, .binOp op t x y t2, ty, pos, af, some g⟩] (HoistG P ds blK rest K) σ := cZ _ _ _ _ _ _ rfl
@[simp] theorem Jc (t : TypeId) (x : Operand) (i : Nat) : HoistG P ds blK (⟨d, .fieldAddr t x i, ty, pos, af, some g⟩ :: rest) K σ = HoistF P ds blK [⟨d, .fieldAddr t x i, ty, pos, af, some g⟩] (HoistG P ds blK rest K) σ := cZ _ _ _ _ _ _ rfl
@[simp] theorem Jb (t : TypeId) (x i : Operand) : HoistG P ds blK (⟨d, .indexAddr t x i, ty, pos, af, some g⟩ :: rest) K σ = HoistF P ds blK [⟨d, .indexAddr t x i, ty, pos, af, some g⟩] (HoistG P ds blK rest K) σ := cZ _ _ _ _ _ _ rfl
end
theorem Y7 {P:Program} {ds:List (Option Tmp)} {blK:Int→Option Blk} {rest:List Oper} {K:St→Prop} {σ:St} {d:Option Tmp} {f:FuncId} {xs:List V} {v:V} (h:RO P f xs v) (hK:HoistG P ds blK rest K (σ.put d v)):gcK P ds blK rest K σ d (some (f,xs)):=
 ⟨_,rfl,v,h,hK⟩
theorem N6 {o:Oper} (h:isGC o=true): ∃d f args ats ty pos af j b,o=⟨d,.call ⟨.value f,args,ats⟩,ty,pos,af,some (j,b)⟩:=by
 unfold isGC at h
 split at h
 ·rename_i d f args ats ty pos af jb
  obtain⟨j,b⟩:=jb
  exact⟨_,_,_,_,_,_,_,_,_,rfl⟩
 ·cases h
theorem Fa {P:Program} {ds:List (Option Tmp)} {blK:Int→Option Blk} {K:St→Prop} {σ:St} {ops:Array Oper} {o:Oper} (hd:ds=ops.toList.map (·.dst)) (h:HoistF P ds blK [o] K σ) {k:Nat} (h0:ops[k]? =some o): ∃v,DY P ops blK o σ v∧K (σ.put o.dst v):=by
 have:=gH (P:=P) (ops:=ops) (blK:=blK) (K:=K) [o] [k] σ (by simp[h0]) (by rw[←hd];exact h)
 unfold Hoist at this
 rw[h0] at this
 exact this
theorem N4 {P:Program} {ops:Array Oper} {blK:Int→Option Blk} {K:St→Prop} : ∀(l:List Oper) (k:Nat) (σ:St),(∀j,l[j]? =ops[k+j]?)→HoistG P (ops.toList.map (·.dst)) blK l K σ→Hoist P ops blK (List.range' k l.length) K σ
 | [], k, σ, _, h => h
 | o :: rest, k, σ, hl, h => by
   have h0:ops[k]? =some o:=by simpa using (hl 0).symm
   have ih:=fun σ' (h':HoistG P (ops.toList.map (·.dst)) blK rest K σ')=>N4 rest (k+1) σ' (fun j=>by have:=hl (j+1);simpa [Nat.add_assoc,Nat.add_comm 1 j] using this) h'
   have hds: ∀(j:Nat) d,(ops.toList.map (·.dst))[j]? =some (some d)→(ops[j]?).bind (·.dst)=some d:=by
    intro j d hd
    rw[List.getElem?_map,Array.getElem?_toList] at hd
    rcases h:ops[j]? with _ | o
    ·rw[h] at hd;cases hd
    ·rw[h] at hd;simpa using hd
   show Hoist P ops blK (k::List.range' (k+1) rest.length) K σ
   unfold Hoist
   rw[h0]
   simp only
   cases hgc:isGC o with
   | false=>
     rw[cZ _ _ _ _ _ _ hgc] at h
     obtain⟨v,h1,h2⟩:=Fa rfl h h0
     exact⟨v,h1,ih _ h2⟩
   | true=>
     obtain⟨d,f,args,ats,ty,pos,af,j,b,rfl⟩:=N6 hgc
     rw[xA] at h
     unfold DY
     simp only
     unfold gcS at h
     split at h
     ·rename_i t hd
      rw[hds j t hd]
      simp only
      unfold gcV at h
      split at h
      ·rename_i q hq
       rw[hq]
       split at h
       ·rename_i hqb
        obtain⟨p,hp,v,h1,h2⟩:=h
        exact⟨v,⟨fun _=> .inr ⟨_,f,p,0,[],rfl,rfl,hp,.inr (Ye h1)⟩,fun hh=>by subst hqb;cases q<;>cases hh⟩,ih _ h2⟩
       ·rename_i hqb
        exact⟨.tup [],⟨fun hh=>absurd hh hqb,fun _=>rfl⟩,ih _ h⟩
      ·rename_i hq
       rw[hq]
       exact⟨.tup [],rfl,ih _ h⟩
      ·exact h.elim
     ·exact h.elim
theorem tK {P:Program} {ds:List (Option Tmp)} {blK:Int→Option Blk} {K:St→Prop} (S:List (Option Tmp)) (σ0:St): ∀(l:List Oper) (σ:St),HoistG P ds blK l K σ→(∀o,o∈l→o.dst∈S)→(σ.n=σ0.n∧ ∀t,some t∉S→σ.sl t=σ0.sl t)→
  HoistG P ds blK l (fun σ'=>K σ'∧σ'.n=σ0.n∧ ∀t,some t∉S→σ'.sl t=σ0.sl t) σ
 | [], σ, h, _, h0 => ⟨h, h0⟩
 | o :: rest, σ, h, hS, h0 => by
   have eG: ∀v,(σ.put o.dst v).n=σ0.n∧ ∀t,some t∉S→(σ.put o.dst v).sl t=σ0.sl t:=fun v=>by
    have hd:=hS o List.mem_cons_self
    cases hod:o.dst with
    | none => exact h0
    | some d =>
      rw[hod] at hd
      exact⟨h0.1,fun t ht=>by
       show upd σ.sl d v t=_
       rw[aK _ _ _ _ (fun e=>ht (by rw[e];exact hd))];exact h0.2 t ht⟩
   have next: ∀σ',HoistG P ds blK rest K σ'→(σ'.n=σ0.n∧ ∀t,some t∉S→σ'.sl t=σ0.sl t)→HoistG P ds blK rest (fun σ'=>K σ'∧σ'.n=σ0.n∧ ∀t,some t∉S→σ'.sl t=σ0.sl t) σ':=fun σ' hv hk=>
    tK S σ0 rest _ hv (fun o' ho'=>hS o' (List.mem_cons_of_mem _ ho')) hk
   cases hgc:isGC o with
   | false=>
     rw[cZ _ _ _ _ _ _ hgc] at h ⊢
     have:=nX S σ0 [o] σ h (fun o' ho'=>hS o' (by rw[List.mem_singleton.1 ho'];exact List.mem_cons_self)) h0
     revert this
     have mono: ∀(K1 K2:St→Prop),(∀σ',K1 σ'→K2 σ')→HoistF P ds blK [o] K1 σ→HoistF P ds blK [o] K2 σ:=by
      intro K1 K2 hK hh
      unfold HoistF at hh ⊢
      cases hg:o.guard with
      | none =>
        simp only[hg] at hh ⊢
        split at hh
        ·obtain⟨p,h1,v,n,ys,h2,h3⟩:=hh
         exact⟨p,h1,v,n,ys,h2,hK _ h3⟩
        ·obtain⟨v,h1,h2⟩:=hh
         exact⟨v,h1,hK _ h2⟩
      | some jb =>
        obtain⟨j,b⟩:=jb
        simp only[hg] at hh ⊢
        split at hh
        ·split at hh
         ·split at hh
          ·rename_i hq
           obtain⟨v,h1,h2⟩:=hh
           rw[if_pos hq]
           exact⟨v,h1,hK _ h2⟩
          ·rename_i hq
           rw[if_neg hq]
           exact hK _ hh
         ·exact hK _ hh
         ·exact hh.elim
        ·exact hh.elim
     exact mono _ _ fun σ' hk=>next σ' hk.1 hk.2
   | true=>
     obtain⟨d,f,args,ats,ty,pos,af,j,b,rfl⟩:=N6 hgc
     rw[xA] at h ⊢
     unfold gcS at h ⊢
     split at h
     ·unfold gcV at h ⊢
      split at h
      ·split at h
       ·rename_i hq
        obtain⟨p,hp,v,h1,h2⟩:=h
        rw[if_pos hq]
        exact⟨p,hp,v,h1,next _ h2 (eG v)⟩
       ·rename_i hq
        rw[if_neg hq]
        exact next _ h (eG _)
      ·exact next _ h (eG _)
      ·exact h.elim
     ·exact h.elim
theorem Nn {P:Program} {id:Nat} {ops:Array Oper} {K:Ex→St→Prop} {σ:St} (hm:P.follows .mixedOrders=true) (hB:C6 ops=true) (l:List (Nat×V)) (n:Nat) (bl:Int→Option Blk) (t:Nat) (v:V) (hf:Fit l n bl σ) (hd:(l.all fun p=> !(ops.toList.map (·.dst)).contains (some p.1))=true)
  (h1:HoistG P (ops.toList.map (·.dst)) bl ops.toList (fun σ'=>σ'.sl t=v∧σ'.bl=bl) ⟨n,hv l,bl⟩) (h2:K .normal ⟨n,hv ((t,v)::l),bl⟩):AW P (.region id ops true) K σ:=by
 refine fG l n bl hf ?_
 have hq:AW P (.region id ops true) (fun e σ'=>e= .normal∧(σ'.sl t=v∧σ'.bl=bl)∧σ'.n=n∧ ∀u,some u∉ops.toList.map (·.dst)→σ'.sl u=hv l u) ⟨n,hv l,bl⟩:=by
  have hB2:=hB
  simp only[C6,Bool.and_eq_true,List.isEmpty_iff] at hB2
  refine rP hm hB2.1 hB2.2 ?_
  have:=tK (ops.toList.map (·.dst)) ⟨n,hv l,bl⟩ ops.toList ⟨n,hv l,bl⟩ h1 (fun o ho=>List.mem_map_of_mem ho) ⟨rfl,fun _ _=>rfl⟩
  have:=N4 ops.toList 0 ⟨n,hv l,bl⟩ (fun j=>by simp) this
  rw[List.range_eq_range',←Array.length_toList]
  simpa using this
 intro w0 M F a w hs
 refine wp_mono (hq w0 M F a w hs) fun e a' w' hp=> ?_
 obtain⟨ex,σ',F',e1,e2,e3,rfl,⟨k1,k2⟩,k3,k4⟩:=hp
 refine⟨.normal,⟨n,hv ((t,v)::l),bl⟩,F',e1,e2,e3.le ?_,h2⟩
 refine J7 ⟨k3,fun p hp=> ?_,by rw[k2];exact Sub.refl _⟩
 rcases List.mem_cons.1 hp with rfl | hp
 ·exact k1
 ·have:=List.all_eq_true.1 hd p hp
  have h5:some p.1∉ops.toList.map (·.dst):=by
   intro hc
   rw[Bool.not_eq_true'] at this
   have h6:=List.contains_iff_mem.2 hc
   rw[this] at h6;cases h6
  rw[k4 _ h5,Ia l hf.2.1 p hp,hf.2.1 p hp]
end Go.Proofs.YticmgmemnpcbbaaGreat.Vm

namespace Go.Proofs.YticmgmemnpcbbaaGreat.Vm
open Go Go.RowKit Go.Proofs
set_option linter.unusedSimpArgs false
set_option linter.unusedVariables false
attribute [-simp] B7
def mC (Z:Nat→Nat→Rat) (n j i:Nat):Rat:=Z i n / Z i j
def lvQ (Z:Nat→Nat→Rat) (n j:Nat) (bs:Nat→Nat):Nat→Option Nat
 | 0 => none
 | i + 1 => if 0 < Z i j then match lvQ Z n j bs i with
   | none=>some i
   | some b=>if mC Z n j i<mC Z n j b∨mC Z n j i=mC Z n j b∧bs i<bs b then some i else some b
   else lvQ Z n j bs i
theorem vG {Z:Nat→Nat→Rat} {n j:Nat} {bs:Nat→Nat} : ∀ {i p:Nat},lvQ Z n j bs i=some p→p<i∧0<Z p j
 | 0, p, h => by cases h
 | i + 1, p, h => by
   rw[lvQ] at h
   split at h
   ·rename_i hp
    split at h
    ·cases h;exact⟨by omega,hp⟩
    ·rename_i b hb
     have:=vG hb
     split at h
     ·cases h;exact⟨by omega,hp⟩
     ·cases h;exact⟨by omega,this.2⟩
   ·have:=vG h
    exact⟨by omega,this.2⟩
theorem I9 {m b:Nat} {E:Nat→Nat→Rat} {T:Lp.Tab} {rows:List Nat} {t:SN} (h:View m b E T rows t) {j:Nat} (hj:j<t.n): ∀i,i≤rows.length→
  Lp.leave T b j (rows.take i)=(lvQ t.Z t.n j t.bs i).map fun p=>atR rows p
 | 0, _ => by simp [lvQ, Lp.leave]
 | i + 1, hi => by
   have hlt:i<rows.length:=by omega
   have hlr:i<t.r:=by rw[h.len];exact hlt
   have ih:=I9 h hj i (by omega)
   have e:rows.take (i+1)=rows.take i++ [atR rows i]:=by
    unfold atR;rw[List.take_add_one,List.getElem?_eq_getElem hlt,List.getD_eq_getElem?_getD,List.getElem?_eq_getElem hlt];rfl
   rw[e,Lp.tF,ih,lvQ]
   unfold Lp.lvStep
   rw[←h.z i j hlr hj]
   by_cases hp:0<t.Z i j
   ·rw[if_pos hp,if_pos hp]
    cases hb:lvQ t.Z t.n j t.bs i with
    | none => rfl
    | some q =>
      simp only[Option.map_some]
      have hq:=(vG hb).1
      have hqr:q<t.r:=by omega
      have e1: ∀p,p<t.r→Lp.quo T b j (atR rows p)=mC t.Z t.n j p:=fun p hp=>by
       unfold Lp.quo mC
       rw[h.z p j hp hj,h.zb p hp]
      rw[e1 i hlr,e1 q hqr,←h.bs i hlr,←h.bs q hqr]
      split<;>rfl
   ·rw[if_neg hp,if_neg hp]
theorem Vv {a b:Rat} (h:a<b):G9 a b= -1:=by
 have:=(Rh a b).1 h
 unfold G9 hH;rw[if_pos this]
theorem Ug (a:Rat):G9 a a=0:=by
 unfold G9 hH;rw[if_neg (by omega),if_pos rfl]
theorem Ty {a b:Rat} (h:b<a):G9 a b=1:=by
 have:=(Rh b a).1 h
 unfold G9 hH;rw[if_neg (by omega),if_neg (by omega)]
def Oj (Z:Nat→Nat→Rat) (n j:Nat):Option Nat→List V
 | none => [.bool false, .nils, .nils]
 | some b => (ro (some (mC Z n j b))).c
theorem Z6 {m b:Nat} {E:Nat→Nat→Rat} {T:Lp.Tab} {rows:List Nat} {t:SN} (h:View m b E T rows t) (j:Nat) (hjn:j<t.n):
  RO Tryz.prog 249 [.ptr t.c,.int .i64 j] (.int .i64 (oI (lvQ t.Z t.n j t.bs t.r))):=by
 have hnl:=h.nl
 have hrl:=h.rl
 have hw1:=h.nw
 have htm:=h.tm.z
 clear h
 obtain⟨R,w,n,Z,co,bs⟩:=t
 simp only at hjn hnl hrl hw1 htm
 subst hw1
 have l3: ∀q:Rat,(rq q).c.length=3:=fun _=>rfl
 have t3: ∀q:Rat,(rq q).c.take 3=(rq q).c:=fun _=>rfl
 obtain⟨w,hw⟩: ∃w,n+1=w:=⟨_,rfl⟩
 rw[hw] at htm
 refine aH Tryz.func249 rfl rfl (by rw[Tryz.ntmps249];simp) fun bl=> ?_
 rw[Tryz.ntmps249,Tryz.results249]
 refine aB ?_
 simp[SN.c,hw]
 intro g6 hg6 hb6
 refine aG (fun i:Nat=> [(0,.ptr [.int .i64 n,.sl (rrs R w Z),.sl (iv (lb R bs)),.sl (rqs w co)]),(1,.int .i64 j),(5,.int .i64 (oI (lvQ Z n j bs i))),(6,.loc g6 3 0 0),(14,.sl (rrs R w Z)),(15,.int .i64 R),(16,.int .i64 i)]) (fun i=>upd bl g6 (some ⟨3,[Oj Z n j (lvQ Z n j bs i)]⟩)) (fun i=>i≤R) (fun i=>R - i) _ 0 (Nat.zero_le _) ⟨rfl,by simp[lvQ,oI],sub_eq (by simp[lvQ,Oj])⟩ ?_
 intro i hi
 have wi:IntKind.i64.wrap ((i:Int)+1)=(i:Int)+1:=i64_in (by omega) (by omega)
 refine aE ?_
 simp
 refine aE ?_
 simp
 refine⟨fun hiR=> ?_,fun hiR=> ?_⟩
 ·have Lj:(i:Int)<R:=by omega
  have hjw:j<w:=by omega
  have tC:(j:Int)<w:=by omega
  have hnw:n<w:=by omega
  have aUI:(n:Int)<w:=by omega
  have wn:IntKind.i64.wrap ((w:Int) - 1)=(n:Int):=by rw[i64_in (by omega) (by omega)];omega
  have fj:=cE (htm i j hiR hjw)
  have fn:=cE (htm i n hiR hnw)
  refine aO (aX ?_)
  refine aE ?_
  simp[hiR,Lj]
  refine aO ?_
  refine aB ?_
  simp[hjw,tC,l3,t3]
  refine aD (gK fj) ?_
  simp
  have aKY:(0<Z i j) ↔ 0<(Z i j).num:=Lp.Gg.symm
  refine⟨fun hle=> ?_,fun hgt=> ?_⟩
  ·have hlv:lvQ Z n j bs (i+1)=lvQ Z n j bs i:=by
    rw[lvQ,if_neg (by rw[aKY];omega)]
   refine aB ?_
   simp[wi,aA]
   refine⟨i+1,by omega,by omega,rfl,by simp[hlv],sub_eq (by simp[hlv])⟩
  have kN:0<Z i j:=aKY.2 (by omega)
  have hz0:Z i j≠0:=fun e=>by rw[e] at kN;exact absurd kN (by decide)
  have hfq:fits (mC Z n j i):=uB (htm i n hiR hnw) (htm i j hiR hjw) hz0
  have lD:=K3 (Z i n) (Z i j) fn fj hz0
  rw[show fit (Z i n / Z i j)=some (mC Z n j i) from by have:fits (Z i n / Z i j):=hfq;simp[fit,this,mC]] at lD
  obtain⟨B,hB⟩: ∃B,upd bl g6 (some ⟨3,[Oj Z n j (lvQ Z n j bs i)]⟩)=B:=⟨_,rfl⟩
  have hB6:B g6=some ⟨3,[Oj Z n j (lvQ Z n j bs i)]⟩:=by rw[←hB];simp
  rw[hB]
  refine aO ?_
  refine nL aM [0,1,2,3,4,5,6,7,8,9,10] 2 (by kernel_rfl) ?_
  simp[hjw,tC,hnw,aUI,l3,t3,wn]
  refine aN lD ?_
  simp
  refine Dz 11 ?_
  simp
  intro g9 hg9 hb9
  have n96: ¬ g9=g6:=fun e=>by rw[e,hB6] at hb9;cases hb9
  refine⟨by simp[hb9],Dz 12 ?_⟩
  simp[RT.c]
  refine⟨by simp[hb9],Dy ?_⟩
  simp
  refine cX 1 9 (.ptr (ro (some (mC Z n j i))).c) B (by intro z b hz;simp only[aC] at hz ⊢;grind) (by simp[frz,dropB,hb9,V.cl,RT.c]) ?_
  refine fG [(0,.ptr [.int .i64 n,.sl (rrs R w Z),.sl (iv (lb R bs)),.sl (rqs w co)]),(1,.int .i64 j),(5,.int .i64 (oI (lvQ Z n j bs i))),(6,.loc g6 3 0 0),(14,.sl (rrs R w Z)),(15,.int .i64 R),(16,.int .i64 i),(7,.int .i64 i),(9,.ptr (ro (some (mC Z n j i))).c)] 73 B ⟨rfl,by simp,Sub.refl _⟩ ?_
  cases hlv:lvQ Z n j bs i with
  | none =>
    have hnx:lvQ Z n j bs (i+1)=some i:=by rw[lvQ,if_pos kN,hlv]
    rw[hlv] at hB6
    refine aO ?_
    refine tT aM (by kernel_rfl) [(0,.ptr [.int .i64 n,.sl (rrs R w Z),.sl (iv (lb R bs)),.sl (rqs w co)]),(1,.int .i64 j),(5,.int .i64 (-1)),(6,.loc g6 3 0 0),(14,.sl (rrs R w Z)),(15,.int .i64 R),(16,.int .i64 i),(7,.int .i64 i),(9,.ptr (ro (some (mC Z n j i))).c)] _ B 68 (.bool true) ⟨rfl,by simp[oI],Sub.refl _⟩ rfl ?_ ?_
    ·simp
    simp
    refine aB ?_
    simp[hB6,Oj,RT.c,l3,t3]
    refine aB ?_
    simp[wi,aA]
    refine⟨i+1,by omega,by omega,rfl,by simp[hnx,oI],?_⟩
    simp only[hnx]
    rw[←hB]
    intro z y hz
    simp only[aC] at hz ⊢
    grind
  | some q =>
    obtain⟨hqi,hqp⟩:=vG hlv
    have hqR:q<R:=by omega
    have aUV:(q:Int)<R:=by omega
    have hq0:Z q j≠0:=fun e=>by rw[e] at hqp;exact absurd hqp (by decide)
    have hfl:fits (mC Z n j q):=uB (htm q n hqR hnw) (htm q j hqR hjw) hq0
    have O4:=Jm (mC Z n j i) (mC Z n j q) hfq hfl
    have hnx:lvQ Z n j bs (i+1)=if mC Z n j i<mC Z n j q∨mC Z n j i=mC Z n j q∧bs i<bs q then some i else some q:=by rw[lvQ,if_pos kN,hlv]
    rw[hlv] at hB6
    obtain⟨A,hA⟩: ∃A,mC Z n j i=A:=⟨_,rfl⟩
    obtain⟨L,hL⟩: ∃L,mC Z n j q=L:=⟨_,rfl⟩
    have Iw:B g6=some ⟨3,[(ro (some L)).c]⟩:=by rw[hB6,←hL];rfl
    rw[hA,hL] at O4 hnx
    rw[hA]
    refine aO ?_
    refine Nn aM (by kernel_rfl) [(0,.ptr [.int .i64 n,.sl (rrs R w Z),.sl (iv (lb R bs)),.sl (rqs w co)]),(1,.int .i64 j),(5,.int .i64 q),(6,.loc g6 3 0 0),(14,.sl (rrs R w Z)),(15,.int .i64 R),(16,.int .i64 i),(7,.int .i64 i),(9,.ptr (ro (some A)).c)] _ B 68 (.bool (decide (A<L∨A=L∧bs i<bs q))) ⟨rfl,by simp[oI],Sub.refl _⟩ rfl ?_ ?_
    ·have hq1: ¬ (q:Int)<0:=by omega
     rcases(show A<L∨A=L∨L<A by grind) with c | c | c
     ·rw[Vv c] at O4
      simp[hq1,Iw,l3,t3]
      refine Y7 O4 ?_
      simp[c]
     ·subst c
      rw[Ug] at O4
      have c2: ¬ A<A:=by grind
      simp[hq1,Iw,l3,t3]
      refine Y7 O4 ?_
      simp[c2,Iw,l3,t3]
      refine Y7 O4 ?_
      simp[c2,hiR,Lj,hqR,aUV]
     ·rw[Ty c] at O4
      have c2: ¬ A<L:=by grind
      have c3: ¬ A=L:=by grind
      simp[hq1,Iw,l3,t3]
      refine Y7 O4 ?_
      simp[c2,c3,Iw,l3,t3]
      refine Y7 O4 ?_
      simp[c2,c3]
    by_cases hc:A<L∨A=L∧bs i<bs q
    ·rw[if_pos hc] at hnx
     simp[hc]
     refine aB ?_
     simp[Iw,RT.c,l3,t3]
     refine aB ?_
     simp[wi,aA]
     refine⟨i+1,by omega,by omega,rfl,by simp[hnx,oI],?_⟩
     simp only[hnx]
     rw[←hA,←hB]
     intro z y hz
     simp only[aC] at hz ⊢
     by_cases e:z=g6
     ·rw[if_pos e] at hz ⊢;exact hz
     ·rw[if_neg e] at hz ⊢;rw[if_neg e];exact hz
    ·rw[if_neg hc] at hnx
     simp[hc]
     refine aB ?_
     simp
     refine aB ?_
     simp[wi,aA]
     refine⟨i+1,by omega,by omega,rfl,by simp[hnx,oI],?_⟩
     simp only[hnx]
     rw[←hB,hlv]
     exact Sub.refl _
 ·have hie:i=R:=by omega
  subst hie
  exact aJ [.int .i64 (oI (lvQ Z n j bs i))] 0 (by simp) (by simp[frz]) (by simp[hb6])
end Go.Proofs.YticmgmemnpcbbaaGreat.Vm

namespace Go.Proofs.YticmgmemnpcbbaaGreat.Vm
open Go Go.RowKit Go.Proofs
set_option linter.unusedSimpArgs false
set_option linter.unusedVariables false
def snV (rows:List Nat) (n b m:Nat) (w0:Nat→Rat) (T:Lp.Tab):SN:=⟨rows.length,n+1,n,fun p c=>T.X (atR rows p) (if c<n then c else b),fun c=>Lp.rc m w0 T (if c<n then c else b),fun p=>T.bs (atR rows p)⟩
theorem SS.congr {b:Int→Option Blk} {g:SG} {r w n:Nat} {Z Z':Nat→Nat→Rat} {co co':Nat→Rat} {bs bs':Nat→Nat} (h:SS b g ⟨r,w,n,Z,co,bs⟩) (hZ: ∀p c,p<r→c<w→Z p c=Z' p c) (hc: ∀c,c<w→co c=co' c) (hb: ∀p,p<r→bs p=bs' p):SS b g ⟨r,w,n,Z',co',bs'⟩:=by
 have hlb:lb r bs=lb r bs':=List.map_congr_left fun p hp=>by rw[hb p (by simpa using hp)]
 refine⟨h.len,h.top,fun i x hi=> ?_,h.pos,h.hd,?_,?_,h.pT,h.pR,h.pB,h.pC,h.nd⟩
 ·have hlt:i<r:=by have:=h.len;simp only at this;rw[←this];exact(List.getElem?_eq_some_iff.1 hi).1
  rw[h.row i x hi]
  simp only
  rw[bN fun c hc2=>hZ i c hlt hc2]
 ·have:=h.ba
  simp only at this ⊢
  rw[this,hlb]
 ·have:=h.cst
  simp only at this ⊢
  rw[this,bN hc]
structure Oa (n0 m n : Nat) (E : Nat → Nat → Rat) (rows : List Nat) (deep : Bool) (w0 : Nat → Rat) (ok : Lp.Tab → Nat → Prop) : Prop where
 ml:m≤17
 nl:n0+m≤100
 nn:n≤n0+m
 rr:Rows m rows
 dead: ∀T,oY n0 m E rows T→ ∀i,i<m→i∉rows→n≤T.bs i
 wt: ∀c,c<n0+m+1→Lp.isInt (w0 c)∧ -((1000:Nat):Rat)≤w0 c∧w0 c≤((1000:Nat):Rat)
 bas: ∀T,oY n0 m E rows T→ ∀j,j<n→basic rows.length (fun p=>T.bs (atR rows p)) j→ ¬ ok T j
theorem Oa.view {n0 m n:Nat} {E:Nat→Nat→Rat} {rows:List Nat} {deep:Bool} {w0:Nat→Rat} {ok:Lp.Tab→Nat→Prop} (h:Oa n0 m n E rows deep w0 ok) {T:Lp.Tab} (hI:oY n0 m E rows T):View m (n0+m) E T rows (snV rows n (n0+m) m w0 T):=by
 have hl:=h.rr.len
 have hml:=h.ml
 have hnl:=h.nl
 have hnn:=h.nn
 refine⟨hI.z.ti,h.rr,rfl,fun _ _=>rfl,?_,?_,rfl,?_,h.dead T hI,fun p j _ hj=> ?_,fun p _=> ?_,⟨fun i c hi hc=> ?_,fun c hc=> ?_,?_,?_⟩⟩
 ·show n≤100;omega
 ·show rows.length≤100;omega
 ·show n+1≤200;omega
 ·show T.X _ (if j<n then j else n0+m)=_
  rw[if_pos (show j<n from hj)]
 ·show T.X _ (if n<n then n else n0+m)=_
  rw[if_neg (by omega)]
 ·have hi':i<rows.length:=hi
  have hin:=h.rr.lt (cK hi')
  exact Lp.fP (hI.z.sm (c:=if c<n then c else n0+m) hin (by split<;>omega)) (pN hml)
 ·exact Lp.fP (hI.z.rc h.wt (c:=if c<n then c else n0+m) (by split<;>omega) (by decide)) (uO hml)
 ·show n+1≤200;omega
 ·show rows.length≤100;omega
theorem Gv {n0 m n:Nat} {rows:List Nat} {w0:Nat→Rat} {T:Lp.Tab} (hr:Rows m rows) {pr k:Nat} (hp:pr<rows.length) (hk:k<n) (h0:T.X (atR rows pr) k≠0):
  (∀p c,p<rows.length→zpv (snV rows n (n0+m) m w0 T).Z pr k p c=(snV rows n (n0+m) m w0 (Lp.piv T (atR rows pr) k)).Z p c)∧
  (∀c,cpv (snV rows n (n0+m) m w0 T).Z (snV rows n (n0+m) m w0 T).co pr k c=(snV rows n (n0+m) m w0 (Lp.piv T (atR rows pr) k)).co c)∧
  (∀p,p<rows.length→pvS (snV rows n (n0+m) m w0 T).bs pr k p=(snV rows n (n0+m) m w0 (Lp.piv T (atR rows pr) k)).bs p):=by
 refine⟨fun p c hpl=> ?_,fun c=> ?_,fun p hpl=> ?_⟩
 ·unfold zpv snV
  simp only
  rw[if_pos hk]
  by_cases e:p=pr
  ·subst e;rw[if_pos rfl,Lp.rX]
  ·rw[if_neg e,Lp.nD T k _ fun e2=>e (hr.inj hpl hp e2)]
 ·unfold cpv snV
  simp only
  rw[if_pos hk,Lp.Rr w0 T (hr.lt (cK hp)) h0]
 ·unfold pvS snV
  simp only
  by_cases e:p=pr
  ·subst e;rw[if_pos rfl,Lp.dK]
  ·rw[if_neg e,Lp.cW T k fun e2=>e (hr.inj hpl hp e2)]
structure aI3 where
 e:Nat
 b:Int→Option Blk
structure aL2 where
 j:Nat
 en:Int
theorem l10Run_cp {bl:Int→Option Blk} {K:V→(Int→Option Blk)→Prop} {n0 m n:Nat} {E:Nat→Nat→Rat} {rows:List Nat} {deep:Bool} {w0:Nat→Rat} {ok:Lp.Tab→Nat→Prop} (h:Oa n0 m n E rows deep w0 ok) (g:SG) (T:Lp.Tab) (e:Nat)
  (hsg: ∀T,oY n0 m E rows T→ ∀j,j<n→ ¬ basic rows.length (fun p=>T.bs (atR rows p)) j→ ∃s:Int,(0<s ↔ ok T j)∧RO Tryz.prog 248 [.ptr (snV rows n (n0+m) m w0 T).c,.int .i64 j,.bool deep] (.int .i64 s))
  (h1:Lp.nx n (n0+m) rows ok (Lp.orb (Lp.nx n (n0+m) rows ok) T e)=none)
  (h2: ∀e',e'<e→(Lp.nx n (n0+m) rows ok (Lp.orb (Lp.nx n (n0+m) rows ok) T e')).isSome=true)
  (hI: ∀e',e'≤e→oY n0 m E rows (Lp.orb (Lp.nx n (n0+m) rows ok) T e'))
  (hS:SS bl g (snV rows n (n0+m) m w0 T))
  (hT: ∀b',Lp.fstP (ok (Lp.orb (Lp.nx n (n0+m) rows ok) T e)) n=none→SS b' g (snV rows n (n0+m) m w0 (Lp.orb (Lp.nx n (n0+m) rows ok) T e))→(∀x y,bl x=some y→x∉g.all→b' x=some y)→K (.bool true) b')
  (hF: ∀b' k,Lp.fstP (ok (Lp.orb (Lp.nx n (n0+m) rows ok) T e)) n=some k→Lp.leave (Lp.orb (Lp.nx n (n0+m) rows ok) T e) (n0+m) k rows=none→(∀x y,bl x=some y→x∉g.all→b' x=some y)→K (.bool false) b'):
  bY Tryz.prog 190 [.loc g.T 4 0 0,.bool deep] bl K:=by
 obtain⟨nxf,hnx⟩: ∃f,Lp.nx n (n0+m) rows ok=f:=⟨_,rfl⟩
 rw[hnx] at h1 h2 hI hT hF
 have hml:=h.ml
 have hnl:=h.nl
 have hnn:=h.nn
 have hrl:=h.rr.len
 refine cJ Tryz.func190 rfl rfl (by rw[Tryz.ntmps190];simp) ?_
 rw[Tryz.ntmps190,Tryz.results190]
 refine aB ?_
 simp
 refine aG (fun q:aI3=> [(0,.loc g.T 4 0 0),(1,.bool deep)]) (fun q=>q.b) (fun q=>q.e≤e∧SS q.b g (snV rows n (n0+m) m w0 (Lp.orb nxf T q.e))∧ ∀x y,bl x=some y→x∉g.all→q.b x=some y) (fun q=>e - q.e) _ ⟨0,bl⟩ ⟨Nat.zero_le _,hS,fun _ _ hx _=>hx⟩ ⟨rfl,by simp,Sub.refl _⟩ ?_
 rintro⟨q,b⟩ ⟨hq,hSb,hfb⟩
 simp only at hq hSb hfb
 obtain⟨U,hU⟩: ∃U,Lp.orb nxf T q=U:=⟨_,rfl⟩
 have hIU:=hI q hq
 rw[hU] at hSb hIU
 have hV:=h.view hIU
 have z4:frz b 4 (.loc g.T 4 0 0)=some (.ptr (snV rows n (n0+m) m w0 U).c):=hSb.frz 0
 have bT:b g.T=_:=hSb.hd
 simp only[snV] at bT
 refine aX ?_
 refine aE ?_
 simp
 refine aO ?_
 refine aB ?_
 simp
 refine aG (fun s:aL2=> [(0,.loc g.T 4 0 0),(1,.bool deep),(5,.int .i64 s.en),(6,.int .i64 s.j)]) (fun _=>b) (fun s=>s.j≤n∧((s.en= -1∧ ∀k,k<s.j→ ¬ ok U k)∨ ∃k:Nat,s.en=k∧Lp.fstP (ok U) n=some k)) (fun s=>n - s.j) _ ⟨0, -1⟩ ⟨Nat.zero_le _,.inl ⟨rfl,fun k hk=>by simp only at hk;omega⟩⟩ ⟨rfl,by simp,Sub.refl _⟩ ?_
 rintro⟨j,en⟩ ⟨hj,hen⟩
 simp only at hj hen
 have wj:IntKind.i64.wrap ((j:Int)+1)=(j:Int)+1:=i64_in (by omega) (by omega)
 refine aO (aO ?_)
 refine bD [(0,.loc g.T 4 0 0),(1,.bool deep),(5,.int .i64 en),(6,.int .i64 j)] _ b 17 (.bool (decide (j<n∧en<0))) ⟨rfl,by simp,Sub.refl _⟩ rfl ?_ ?_
 ·simp[bT]
  by_cases h0:j<n
  ·simp[h0]
   try (intro;omega)
  ·simp[h0]
 simp
 refine aB ?_
 simp
 refine⟨fun hjn bP=> ?_,fun hno=> ?_⟩
 ·have bH:en= -1∧ ∀k,k<j→ ¬ ok U k:=by
   rcases hen with g1 | ⟨k,g1,g2⟩
   ·exact g1
   ·omega
  obtain⟨rfl,bH⟩:=bH
  refine aO (aX ?_)
  refine aO ?_
  have hBs:=Bb (snV rows n (n0+m) m w0 U) j hV.rl
  by_cases hok:ok U j
  ·refine bD [(0,.loc g.T 4 0 0),(1,.bool deep),(5,.int .i64 (-1)),(6,.int .i64 j)] _ b 30 (.bool true) ⟨rfl,by simp,Sub.refl _⟩ rfl ?_ ?_
   ·have hnb: ¬ basic rows.length (fun p=>U.bs (atR rows p)) j:=fun hb=>h.bas U hIU j hjn hb hok
    obtain⟨s,hs1,hs2⟩:=hsg U hIU j hjn hnb
    rw[show decide (basic (snV rows n (n0+m) m w0 U).r (snV rows n (n0+m) m w0 U).bs j)=false from decide_eq_false hnb] at hBs
    simp
    refine aT 4 (ys:= [.ptr (snV rows n (n0+m) m w0 U).c,.int .i64 j]) (by simp[z4];simp[frz]) hBs rfl ?_
    simp
    refine aT 4 (ys:= [.ptr (snV rows n (n0+m) m w0 U).c,.int .i64 j,.bool deep]) (by simp[z4];simp[frz]) hs2 rfl ?_
    have aN5:0<s:=hs1.2 hok
    simp[aN5]
   simp
   refine aB ?_
   simp
   refine aB ?_
   simp[wj,aA]
   refine⟨⟨j+1,j⟩,⟨by simp only;omega,.inr ⟨j,rfl,Lp.dD.2 ⟨hjn,hok,bH⟩⟩⟩,by simp only;omega,rfl,by simp,Sub.refl _⟩
  ·refine bD [(0,.loc g.T 4 0 0),(1,.bool deep),(5,.int .i64 (-1)),(6,.int .i64 j)] _ b 30 (.bool false) ⟨rfl,by simp,Sub.refl _⟩ rfl ?_ ?_
   ·simp
    by_cases hb:basic rows.length (fun p=>U.bs (atR rows p)) j
    ·rw[show decide (basic (snV rows n (n0+m) m w0 U).r (snV rows n (n0+m) m w0 U).bs j)=true from decide_eq_true hb] at hBs
     refine aT 4 (ys:= [.ptr (snV rows n (n0+m) m w0 U).c,.int .i64 j]) (by simp[z4];simp[frz]) hBs rfl ?_
     simp
    ·obtain⟨s,hs1,hs2⟩:=hsg U hIU j hjn hb
     rw[show decide (basic (snV rows n (n0+m) m w0 U).r (snV rows n (n0+m) m w0 U).bs j)=false from decide_eq_false hb] at hBs
     refine aT 4 (ys:= [.ptr (snV rows n (n0+m) m w0 U).c,.int .i64 j]) (by simp[z4];simp[frz]) hBs rfl ?_
     simp
     refine aT 4 (ys:= [.ptr (snV rows n (n0+m) m w0 U).c,.int .i64 j,.bool deep]) (by simp[z4];simp[frz]) hs2 rfl ?_
     have: ¬ 0<s:=fun e=>hok (hs1.1 e)
     simp
     omega
   simp
   refine aB ?_
   simp
   refine aB ?_
   simp[wj,aA]
   refine⟨⟨j+1, -1⟩,⟨by simp only;omega,.inl ⟨rfl,fun k hk=> ?_⟩⟩,by simp only;omega,rfl,by simp,Sub.refl _⟩
   by_cases e:k=j
   ·rw[e];exact hok
   ·exact bH k (by simp only at hk;omega)
 ·have hnU:nxf U=match Lp.fstP (ok U) n with | none=>none | some k=>match Lp.leave U (n0+m) k rows with | none=>none | some r=>some (r,k):=by rw[←hnx];rfl
  have hqe:nxf U=none→q=e:=fun hn=>by
   rcases Nat.lt_or_ge q e with g1 | g1
   ·have:=h2 q g1
    rw[hU,hn] at this;cases this
   ·omega
  refine aO ?_
  refine aB ?_
  simp
  rcases hen with ⟨rfl,bH⟩| ⟨k,rfl,hk⟩
  ·have hjn:j=n:=by
    rcases Nat.lt_or_ge j n with g1 | g1
    ·have:=hno g1;omega
    ·omega
   subst hjn
   have hf0:Lp.fstP (ok U) j=none:=Lp.eP.2 bH
   rw[hf0] at hnU
   have hq1:=hqe hnU
   subst hq1
   rw[hU] at hT
   simp
   rw[bW]
   exact⟨[.bool true],by simp,hT b hf0 hSb hfb⟩
  ·obtain⟨hkn,aWF, -⟩:=Lp.dD.1 hk
   rw[hk] at hnU
   simp only at hnU
   have hk1: ¬ (k:Int)<0:=by omega
   simp[hk1]
   have hlv:=I9 hV hkn rows.length (Nat.le_refl _)
   rw[List.take_length] at hlv
   have hLr:=Z6 hV k hkn
   refine aE ?_
   simp
   refine aT 4 (ys:= [.ptr (snV rows n (n0+m) m w0 U).c,.int .i64 k]) (by simp[z4];simp[frz]) hLr rfl ?_
   simp
   cases hv:lvQ (snV rows n (n0+m) m w0 U).Z (snV rows n (n0+m) m w0 U).n k (snV rows n (n0+m) m w0 U).bs rows.length with
   | none =>
     have hv':lvQ (snV rows n (n0+m) m w0 U).Z (snV rows n (n0+m) m w0 U).n k (snV rows n (n0+m) m w0 U).bs (snV rows n (n0+m) m w0 U).r=none:=hv
     have hlv:Lp.leave U (n0+m) k rows=none:=hlv.trans (congrArg (Option.map fun p=>atR rows p) hv)
     rw[hlv] at hnU
     have hq1:=hqe hnU
     subst hq1
     rw[hU] at hF
     refine aO ?_
     refine aB ?_
     simp[hv',oI]
     rw[bW]
     exact⟨[.bool false],by simp,hF b k hk hlv hfb⟩
   | some pr =>
     have hv':lvQ (snV rows n (n0+m) m w0 U).Z (snV rows n (n0+m) m w0 U).n k (snV rows n (n0+m) m w0 U).bs (snV rows n (n0+m) m w0 U).r=some pr:=hv
     have hlv:Lp.leave U (n0+m) k rows=some (atR rows pr):=hlv.trans (congrArg (Option.map fun p=>atR rows p) hv)
     rw[hlv] at hnU
     simp only at hnU
     have aAC:=(vG hv).1
     have kN:(snV rows n (n0+m) m w0 U).Z pr k≠0:=fun e0=>by
      have:=(vG hv).2
      rw[e0] at this;exact absurd this (by decide)
     have hX:U.X (atR rows pr) k≠0:=by
      have:=hV.z pr k aAC hkn
      rw[this] at kN;exact kN
     have aT0:q<e:=by
      rcases Nat.lt_or_ge q e with g1 | g1
      ·exact g1
      ·have:q=e:=by omega
       subst this
       rw[hU,hnU] at h1;cases h1
     have pJ:Lp.orb nxf T (q+1)=Lp.piv U (atR rows pr) k:=by
      rw[Lp.orb,hU,hnU]
     have hV2:=h.view (T:=Lp.piv U (atR rows pr) k) (by have:=hI (q+1) aT0;rwa [pJ] at this)
     obtain⟨p1,p2,p3⟩:=Gv (n0:=n0) (w0:=w0) h.rr aAC hkn hX
     have aS6: ¬ (pr:Int)<0:=by omega
     refine aO ?_
     refine aB ?_
     simp[hv',oI,aS6]
     refine aB ?_
     simp
     refine wW g (snV rows n (n0+m) m w0 U) pr k hSb aAC (show k<n+1 by omega) hV.tm kN ⟨fun i c hi hc=> ?_,fun c hc=> ?_,hV.tm.w,hV.tm.r⟩ fun b' hS' hx'=> ?_
     ·show oO (zpv _ pr k i c)
      rw[p1 i c hi];exact hV2.tm.z i c hi hc
     ·show oO (cpv _ _ pr k c)
      rw[p2 c];exact hV2.tm.co c hc
     simp[aA]
     refine⟨⟨q+1,b'⟩,⟨by simp only;omega,?_,fun x y g1 g2=>hx' x y (hfb x y g1 g2) g2⟩,by simp only;omega,rfl,by simp,Sub.refl _⟩
     simp only
     rw[pJ]
     exact hS'.congr (fun p c hp _=>p1 p c hp) (fun c _=>p2 c) (fun p hp=>p3 p hp)

def wk :V→V
 | .nils => .sl []
 | x => x
theorem aAO {x:V} (h:x.one=true):(wk x).one=true:=by
 cases x<;>first | exact h | rfl
theorem aAY {F:Nat→Prop} {w:World} {x:V} {v:Value} (h:Rep F w x v):Rep F w (wk x) v:=by
 cases x with
 | nils => cases h; exact .sl0 none 0 (fun _ => rfl)
 | _ => exact h
theorem aI0 {P:Program} {c:Code} {K:Ex→St→Prop} {σ:St} {g:Int} {s:Nat} {els:List (List V)} (hb:σ.bl g=some ⟨s,els⟩)
  (h:AW P c K ⟨σ.n,σ.sl,upd σ.bl g (some ⟨s,els.map fun e=>e.map wk⟩)⟩):AW P c K σ:=by
 intro w0 M F a w hs
 have hm:=hs.mem
 refine h w0 M F a w ⟨⟨hm.os,hm.tape,hm.output,hm.size,hm.frame,hm.jH,hm.fr,?_,fun x b hx h0=> ?_,fun x b hx=> ?_⟩,hs.size,hs.sl,hs.defers⟩
 ·obtain⟨n,hn⟩:=hm.fin
  refine⟨n,fun x hx=> ?_⟩
  have:=hn x hx
  show upd _ _ _ x=none
  by_cases hxg:x=g
  ·subst hxg;rw[hb] at this;cases this
  ·rw[aK _ _ _ _ hxg];exact this
 ·by_cases hxg:x=g
  ·subst hxg;exact hm.own x _ hb h0
  ·simp only at hx
   rw[aK _ _ _ _ hxg] at hx
   exact hm.own x b hx h0
 ·by_cases hxg:x=g
  ·subst hxg
   simp only at hx
   rw[bA] at hx
   cases hx
   have hB:=hm.blk x _ hb
   unfold cV at hB ⊢
   split at hB
   ·rename_i bP
    rw[if_pos bP];simp only at hB ⊢;rw[hB];rfl
   ·rename_i bP
    rw[if_neg bP]
    obtain⟨h1,cs,t,h2,h3,h4⟩:=hB
    refine⟨h1,cs,t,h2,by simpa using h3,fun k e he=> ?_⟩
    simp only[List.getElem?_map] at he
    cases he0:els[k]? with
    | none => rw [he0] at he; cases he
    | some e0 =>
      rw[he0] at he;cases he
      obtain⟨h5,h6⟩:=h4 k e0 he0
      refine⟨by simpa using h5,fun j y hy=> ?_⟩
      rw[List.getElem?_map] at hy
      cases hy0:e0[j]? with
      | none=>rw[hy0] at hy;cases hy
      | some y0=>
        rw[hy0] at hy;cases hy
        obtain⟨h7,v,h8,h9⟩:=h6 j y0 hy0
        exact⟨aAO h7,v,h8,aAY h9⟩
  ·simp only at hx
   rw[aK _ _ _ _ hxg] at hx
   exact hm.blk x b hx
theorem aSC :biC 0= [.bool false,.sl []]:=by
 simp[bO,aU,iv]
theorem Tm (n:Nat):(List.replicate n [V.bool false,.nils]).map (fun e=>e.map wk)=zv n fun _=>0:=by
 rw[List.map_replicate]
 apply List.ext_getElem
 ·simp
 ·intro i h1 h2
  simp[zv,aSC,wk]
theorem Qj {N i:Nat} (f:Nat→Int) (v:Int) (h:i<N):(zv N f).set i (biC v)=zv N fun c=>if c=i then v else f c:=by
 apply List.ext_getElem
 ·simp
 ·intro j h1 h2
  rw[List.getElem_set,P5,P5]
  by_cases e:i=j
  ·rw[if_pos e,if_pos e.symm]
  ·rw[if_neg e,if_neg (Ne.symm e)]
theorem S4 (r:Nat) (bs:Nat→Nat):lb (r+1) bs=lb r bs++ [(bs r:Int)]:=by simp[lb,List.range_succ]
theorem TT.start {b:Int→Option Blk} {T R B F:Int} {t:TN} (hr:t.r=0) (hR:b R=some ⟨1,[]⟩) (hB:b B=some ⟨1,[]⟩) (hT:b T=some ⟨6,[[.lsl R 1 0 0,.bool (decide (t.d<0)),.sl (iv (lim t.d.natAbs)),.lsl B 1 0 0,.int .i64 t.n,.lsl F 1 0 t.n]]⟩)
  (hF:b F=some ⟨1,lv t.n t.fr⟩) (pT:0≤T) (pF:0≤F) (nd: [T,R,B,F].Nodup):TT b ⟨T,R,B,F,[]⟩ t:=
 ⟨⟨hr.symm,hR,fun i g h=>(by cases h),fun g h=>(by cases h),fun i j g h=>(by cases h),fun h=>(by cases h)⟩,by simp only[hr];exact hT,by simp only[hr];exact hB,hF,pT,fun _=>hr,fun _=>hr,pF,nd⟩
theorem TT.snoc {b b':Int→Option Blk} {g:TG} {t:TN} (h:TT b g t) (gN gM gr:Int) (hR:b' gN=some ⟨1,(g.ids++ [gr]).map fun g=> [.lsl g 2 0 (t.n+1)]⟩) (hB:b' gM=some ⟨1,iv (lb (t.r+1) t.bs)⟩)
  (hT:b' g.T=some ⟨6,[[.lsl gN 1 0 (t.r+1),.bool (decide (t.d<0)),.sl (iv (lim t.d.natAbs)),.lsl gM 1 0 (t.r+1),.int .i64 t.n,.lsl g.F 1 0 t.n]]⟩) (hF:b' g.F=b g.F) (hi: ∀x,x∈g.ids→b' x=b x)
  (hr:b' gr=some ⟨2,zv (t.n+1) (t.Z t.r)⟩) (h0:0≤gr) (hN:0≤gN) (hM:0≤gM) (nd:(g.T::gN::gM::g.F::(g.ids++ [gr])).Nodup):
  TT b' ⟨g.T,gN,gM,g.F,g.ids++ [gr]⟩ ⟨t.r+1,t.n,t.Z,t.d,t.bs,t.fr⟩:=by
 have hl:=h.fE.len
 have key: ∀(i:Nat) (x:Int),(g.ids++ [gr])[i]? =some x→(i<t.r∧g.ids[i]? =some x)∨(i=t.r∧x=gr):=fun i x hx=>by
  by_cases e:i<t.r
  ·rw[List.getElem?_append_left (by omega)] at hx;exact .inl ⟨e,hx⟩
  ·rw[List.getElem?_append_right (by omega)] at hx
   have:i - g.ids.length=0:=by
    rcases Nat.eq_zero_or_pos (i - g.ids.length) with h | h
    ·exact h
    ·rw[List.getElem?_eq_none (by simp;omega)] at hx;cases hx
   rw[this] at hx;cases hx
   exact .inr ⟨by omega,rfl⟩
 have nd2:=nd
 simp only[List.nodup_cons,List.mem_cons,not_or] at nd2
 obtain⟨-,⟨-, -,nNi⟩, -, -,ndi⟩:=nd2
 have hgr:gr∉g.ids:=fun hm=>by
  rw[List.nodup_append] at ndi
  exact ndi.2.2 gr hm gr (by simp) rfl
 refine⟨⟨by simp[hl],hR,fun i x hx=> ?_,fun x hx=> ?_,fun i j x hx hy=> ?_,nNi⟩,hT,hB,?_,h.pT,fun hn=>absurd hn (by simp only;omega),fun hn=>absurd hn (by simp only;omega),h.pF,nd⟩
 ·rcases key i x hx with ⟨hlt,hx⟩| ⟨rfl,rfl⟩
  ·rw[hi x (List.mem_of_getElem? hx)];exact h.fE.row i x hx
  ·exact hr
 ·rcases List.mem_append.1 hx with hx | hx
  ·exact h.fE.pos x hx
  ·rw[List.mem_singleton.1 hx];exact h0
 ·rcases key i x hx with ⟨hlt,hx⟩| ⟨e1,e2⟩<;>rcases key j x hy with ⟨aCD,hy⟩| ⟨e3,e4⟩
  ·exact h.fE.inj i j x hx hy
  ·exact absurd (List.mem_of_getElem? hx) (by rw[e4];exact hgr)
  ·exact absurd (List.mem_of_getElem? hy) (by rw[e2];exact hgr)
  ·rw[e1,e3]
 ·simp only;rw[hF];exact h.fre
theorem TT.aLZ {b b':Int→Option Blk} {g:TG} {t:TN} (h:TT b g t) (fr:Nat→Bool) (hF:b' g.F=some ⟨1,lv t.n fr⟩) (hk: ∀x y,x∈g.all→x≠g.F→b x=some y→b' x=some y):TT b' g ⟨t.r,t.n,t.Z,t.d,t.bs,fr⟩:=by
 have nd:=h.nd
 simp only[List.nodup_cons,List.mem_cons,not_or] at nd
 obtain⟨⟨n1,n2,n3,n4⟩,⟨n5,n6,n7⟩,⟨n8,n9⟩,n10,n11⟩:=nd
 refine⟨h.fE.eG fun x y hx hy=> ?_,hk _ _ (by simp[TG.all]) n3 h.hd,hk _ _ (by simp[TG.all]) n8 h.ba,hF,h.pT,h.pR,h.pB,h.pF,h.nd⟩
 rcases hx with rfl | hx
 ·exact hk _ _ (by simp[TG.all]) n6 hy
 ·exact hk _ _ (by simp[TG.all,hx]) (fun e=>n10 (e▸hx)) hy
theorem dE {m q:Nat} (h:q<m):atR (List.range m) q=q:=by
 unfold atR
 rw[List.getD_eq_getElem?_getD,List.getElem?_eq_getElem (by simpa using h)];simp

theorem Jy (p:Pg) (n m i:Nat) (h:PgN p n m) (hi:i<m):RO Tryz.prog 246 [.agg p.v,.int .i64 i] (.sl (iv (lz n (pA p n i)))):=by
 have hr:=h.row hi
 have hml:=h.ml
 have hnl:=h.nl
 have hal:=h.al
 have hin:i*n≤17*100:=Nat.mul_le_mul (by omega) (by omega)
 have hmn:i*n+n≤m*n:=by
  have:=Nat.mul_le_mul_right n (show i+1≤m by omega)
  rwa [Nat.add_mul,Nat.one_mul] at this
 have e1:(i:Int)*(n:Int)=((i*n:Nat):Int):=(Int.natCast_mul i n).symm
 have e2:((i:Int)+1)*(n:Int)=((i*n+n:Nat):Int):=by rw[Int.add_mul,Int.one_mul,e1];omega
 have w0:IntKind.i64.wrap ((i:Int)+1)=(i:Int)+1:=i64_in (by omega) (by omega)
 have w1:IntKind.i64.wrap ((i:Int)*(n:Int))=(i:Int)*n:=by rw[e1];exact i64_in (by omega) (by omega)
 have w2:IntKind.i64.wrap (((i:Int)+1)*(n:Int))=(i:Int)*n+n:=by rw[e2,i64_in (by omega) (by omega)];simp
 have hc:=h.aS
 have k1:(0:Int)≤(i:Int)*n:=by rw[e1];omega
 have k2:(i:Int)*n≤(i:Int)*n+n:=by omega
 have k3:(i:Int)*n+n≤(p.a.length:Int):=by rw[hal,e1];omega
 have k4:((i:Int)*n).toNat=i*n:=by rw[e1];omega
 have k5:((i:Int)*n+n).toNat=i*n+n:=by rw[e1];omega
 refine aH Tryz.func246 rfl rfl (by rw[Tryz.ntmps246];simp) fun bl=> ?_
 rw[Tryz.ntmps246,Tryz.results246]
 refine aB ?_
 simp[Pg.v]
 intro g hg hbg
 simp[hc,w0,w1,w2,k1,k2,k3,sliV,k4,k5,hr]
 exact⟨fun x hx=>(R5 _ x hx).symm,aJ [.sl (iv (lz n (pA p n i)))] 0 (by simp) (by simp[frz,V.cl]) (by simp[hbg])⟩
theorem SS.snoc {b b':Int→Option Blk} {g:SG} {r w n:Nat} {Z:Nat→Nat→Rat} {co:Nat→Rat} {bs:Nat→Nat} (h:SS b g ⟨r,w,n,Z,co,bs⟩) (gN gM gr:Int) (hR:b' gN=some ⟨1,(g.ids++ [gr]).map fun x=> [.lsl x 3 0 w]⟩) (hB:b' gM=some ⟨1,iv (lb (r+1) bs)⟩)
  (hT:b' g.T=some ⟨4,[[.int .i64 n,.lsl gN 1 0 (r+1),.lsl gM 1 0 (r+1),.lsl g.C 3 0 w]]⟩) (hC:b' g.C=b g.C) (hi: ∀x,x∈g.ids→b' x=b x)
  (hr:b' gr=some ⟨3,rqs w (Z r)⟩) (h0:0≤gr) (hN:0≤gN) (hM:0≤gM) (nd:(SG.all ⟨g.T,gN,gM,g.C,g.ids++ [gr]⟩).Nodup):
  SS b' ⟨g.T,gN,gM,g.C,g.ids++ [gr]⟩ ⟨r+1,w,n,Z,co,bs⟩:=by
 have hl:=h.len
 simp only at hl
 refine⟨by simp[hl],hR,fun i x hx=> ?_,fun x hx=> ?_,hT,hB,by simp only;rw[hC];exact h.cst,h.pT,fun e=>by simp only at e;omega,fun e=>by simp only at e;omega,h.pC,nd⟩
 ·simp only at hx ⊢
  by_cases e:i<r
  ·rw[List.getElem?_append_left (by omega)] at hx
   rw[hi x (List.mem_of_getElem? hx)];exact h.row i x hx
  ·rw[List.getElem?_append_right (by omega)] at hx
   have e0:i - g.ids.length=0:=by
    rcases Nat.eq_zero_or_pos (i - g.ids.length) with q | q
    ·exact q
    ·rw[List.getElem?_eq_none (by simp;omega)] at hx;cases hx
   rw[e0] at hx;cases hx
   rw[show i=r by omega];exact hr
 ·rcases List.mem_append.1 hx with hx | hx
  ·exact h.pos x hx
  ·rw[List.mem_singleton.1 hx];exact h0
noncomputable def fL (p : Pg) (n m i : Nat) : Nat → Rat := fun c => if c < n ∨ c = n + m then Lp.S i fun r => eQ p n m r c else 0
theorem aJQ {p:Pg} {n m:Nat} (h:PgN p n m) (i c:Nat): ∃z:Int,eQ p n m i c=(z:Rat)∧z.natAbs≤1000:=⟨_,rfl,Oq h i c⟩
theorem Y0 {p:Pg} {n m:Nat} (h:PgN p n m) (c:Nat): ∀i,∃z:Int,fL p n m i c=(z:Rat)∧z.natAbs≤i*1000
 | 0 => ⟨0, by unfold fL; rw [Lp.S]; split <;> rfl, by simp⟩
 | i + 1 => by
   obtain⟨z,h1,h2⟩:=Y0 h c i
   obtain⟨y,h3,h4⟩:=aJQ h i c
   by_cases e:c<n∨c=n+m
   ·refine⟨z+y,?_,by omega⟩
    unfold fL at h1 ⊢
    rw[if_pos e] at h1 ⊢
    rw[Lp.S,h1,h3,Rat.intCast_add]
   ·refine⟨0,?_,by simp⟩
    unfold fL;rw[if_neg e];rfl
theorem M4 {p:Pg} {n m i:Nat} (h:PgN p n m) (hi:i≤m) (c:Nat):fits (fL p n m i c):=by
 obtain⟨z,h1,h2⟩:=Y0 h c i
 rw[h1]
 have:=h.ml
 have:=Nat.mul_le_mul_right 1000 (show i≤17 by omega)
 exact fits_int (by omega)
theorem X3 {p:Pg} {n m i c:Nat} (e:c<n∨c=n+m):fL p n m (i+1) c=fL p n m i c+eQ p n m i c:=by unfold fL;rw[if_pos e,if_pos e,Lp.S]
theorem Ua {p:Pg} {n m i c:Nat} (e: ¬ (c<n∨c=n+m)):fL p n m (i+1) c=fL p n m i c:=by unfold fL;rw[if_neg e,if_neg e]
theorem Vi {p:Pg} {n m c:Nat} (h:PgN p n m) (hc:c≤n+m):fL p n m m c=Lp.rc m (Lp.aZ n m) (Lp.kR n (eQ p n m)) c:=by
 have hS:(Lp.S m fun i=>(Lp.kR n (eQ p n m)).X i c*Lp.aZ n m ((Lp.kR n (eQ p n m)).bs i))= - Lp.S m fun i=>eQ p n m i c:=by
  rw[Lp.bK (g:=fun i=>(-1)*eQ p n m i c) fun i hi=>by
   show eQ p n m i c*Lp.aZ n m (n+i)=_
   unfold Lp.aZ
   rw[if_pos (by omega)];grind,Lp.jM]
  grind
 unfold Lp.rc
 rw[hS]
 unfold fL
 by_cases e:c<n∨c=n+m
 ·rw[if_pos e,show Lp.aZ n m c=0 by unfold Lp.aZ;rw[if_neg (by omega)]];grind
 ·rw[if_neg e,show Lp.aZ n m c= -1 by unfold Lp.aZ;rw[if_pos (by omega)]]
  obtain⟨j,hj⟩: ∃j,c=n+j:=⟨c - n,by omega⟩
  have hjm:j<m:=by omega
  rw[hj,Lp.dI (k:=j) hjm,h.init.art j j hjm hjm,if_pos rfl]
  ·grind
  ·intro i hi hne
   rw[h.init.art i j hi hjm,if_neg hne]
structure Pc where
 j:Nat
 gC:Int
 b:Int→Option Blk
structure Bg where
 k:Nat
 gw:Int
 b:Int→Option Blk
structure Sy where
 i:Nat
 g:SG
 b:Int→Option Blk
structure WOk (b : Int → Option Blk) (f : Nat → Rat) (W : Bg) : Prop where
 blk:W.b W.gw=some ⟨3,rqs W.k f⟩
 new:b W.gw=none
 nn:0≤W.gw
 sub:Sub b W.b
theorem WOk.snoc {b:Int→Option Blk} {f:Nat→Rat} {k:Nat} {gw g4 gN:Int} {bw:Int→Option Blk} (h:WOk b f ⟨k,gw,bw⟩) (h4:bw g4=none) (hN:0≤gN) (hn: ¬ gN=gw→ ¬ gN=g4∧bw gN=none):
  WOk b f ⟨k+1,gN,upd (rem bw gw) gN (some ⟨3,rqs (k+1) f⟩)⟩:=by
 have hbN:b gN=none:=by
  by_cases e:gN=gw
  ·rw[e];exact h.new
  ·cases hv:b gN with
   | none => rfl
   | some y => have := h.sub gN y hv; simp only at this; rw [(hn e).2] at this; cases this
 refine⟨bA _ _ _,hbN,hN,fun x y hx=> ?_⟩
 have x1:x≠gN:=fun e=>by rw[e,hbN] at hx;cases hx
 have x2:x≠gw:=fun e=>by have:=h.new;simp only at this;rw[e,this] at hx;cases hx
 simp only
 rw[aK _ _ _ _ x1,aF,if_neg x2]
 exact h.sub x y hx
theorem G1 {bw:Int→Option Blk} {gw g4 gN:Int} {X Y:Option Blk} (h4:bw g4=none) (h: ¬ gN=gw→ ¬ gN=g4) (hw:g4≠gw):Sub (upd (rem bw gw) gN Y) (upd (rem (upd bw g4 X) gw) gN Y):=fun z y hz=>by
 simp only[aC,aF] at hz ⊢
 grind
theorem Y4 {bl:Int→Option Blk} {K:V→(Int→Option Blk)→Prop} (p:Pg) (n m:Nat) (h:PgN p n m)
  (hK: ∀b' g,SS b' g (snV (List.range m) (n+m) (n+m) m (Lp.aZ n m) (Lp.kR n (eQ p n m)))→(∀x,x∈g.all→bl x=none)→Sub bl b'→K (.loc g.T 4 0 0) b'):
  bY Tryz.prog 189 [.agg p.v] bl K:=by
 have hml:=h.ml
 have hnl:=h.nl
 obtain⟨N,hN⟩: ∃N,n+m=N:=⟨_,rfl⟩
 have wN:IntKind.i64.wrap ((n:Int)+(m:Int))=(N:Int):=by rw[i64_in (by omega) (by omega)];omega
 have hL5:p.v.length=5:=rfl
 refine cJ Tryz.func189 rfl rfl (by rw[Tryz.ntmps189];simp) ?_
 rw[Tryz.ntmps189,Tryz.results189]
 refine aE ?_
 simp[Pg.v]
 intro g1 hg1 hb1
 refine cX 1 1 (.ptr p.v) bl (by intro z b hz;simp only[aC] at hz ⊢;grind) (by simp[frz,dropB,hb1,V.cl,Pg.v]) ?_
 refine aE ?_
 simp[Pg.v,h.rows,h.aS,wN]
 intro gT hgT hbT
 refine fG [(1,.ptr p.v),(3,.loc gT 4 0 0)] 152 (upd bl gT (some ⟨4,[[.int .i64 N,.nils,.nils,.nils]]⟩)) ⟨rfl,by simp[Pg.v,h.rows,h.aS],sub_eq (by simp)⟩ ?_
 refine cQ (g:=gT) (s:=4) (els:= [[.int .i64 N,.nils,.nils,.nils]]) 0 1 1 (by simp) rfl rfl fun gR hgR hRT=> ?_
 simp[hRT] at hgR
 refine cQ (g:=gT) (s:=4) (els:= [[.int .i64 N,.lsl gR 1 0 0,.nils,.nils]]) 0 2 1 (by simp[Ne.symm hRT]) rfl rfl fun gB hgB hBT=> ?_
 simp[hBT] at hgB
 obtain⟨hBR,hgB⟩:=hgB
 refine cQ (g:=gT) (s:=4) (els:= [[.int .i64 N,.lsl gR 1 0 0,.lsl gB 1 0 0,.nils]]) 0 3 3 (by simp[Ne.symm hBT]) rfl rfl fun gC hgC hCT=> ?_
 simp[hCT] at hgC
 obtain⟨hCB,hCR,hgC⟩:=hgC
 obtain⟨b1,hb1⟩: ∃b1,b1=upd (upd (upd (upd (upd (upd (upd bl gT (some ⟨4,[[.int .i64 N,.nils,.nils,.nils]]⟩)) gT (some ⟨4,[[.int .i64 N,.lsl gR 1 0 0,.nils,.nils]]⟩)) gR (some ⟨1,[]⟩)) gT (some ⟨4,[[.int .i64 N,.lsl gR 1 0 0,.lsl gB 1 0 0,.nils]]⟩)) gB (some ⟨1,[]⟩)) gT (some ⟨4,[[.int .i64 N,.lsl gR 1 0 0,.lsl gB 1 0 0,.lsl gC 3 0 0]]⟩)) gC (some ⟨3,[]⟩):=⟨_,rfl⟩
 have b1T:b1 gT=some ⟨4,[[.int .i64 N,.lsl gR 1 0 0,.lsl gB 1 0 0,.lsl gC 3 0 0]]⟩:=by rw[hb1];simp[Ne.symm hCT]
 have b1R:b1 gR=some ⟨1,[]⟩:=by rw[hb1];simp[Ne.symm hCR,hRT,Ne.symm hBR]
 have b1B:b1 gB=some ⟨1,[]⟩:=by rw[hb1];simp[Ne.symm hCB,hBT]
 have b1C:b1 gC=some ⟨3,rqs 0 fun _=>0⟩:=by rw[hb1];simp[rqs]
 have s1:Sub bl b1:=fun x y hx=>by
  have x1:x≠gT:=fun e=>by rw[e,hbT] at hx;cases hx
  have x2:x≠gR:=fun e=>by rw[e,hgR] at hx;cases hx
  have x3:x≠gB:=fun e=>by rw[e,hgB] at hx;cases hx
  have x4:x≠gC:=fun e=>by rw[e,hgC] at hx;cases hx
  rw[hb1];simp[x1,x2,x3,x4,hx]
 refine fG [(1,.ptr p.v),(3,.loc gT 4 0 0)] 152 b1 ⟨rfl,by simp,by rw[hb1];exact sub_eq (by simp)⟩ ?_
 clear hb1
 refine aO ?_
 refine aB ?_
 simp
 refine aG (fun q:Pc=> [(1,.ptr p.v),(3,.loc gT 4 0 0),(4,.int .i64 q.j)]) (fun q=>q.b) (fun q=>q.j≤N+1∧q.b gT=some ⟨4,[[.int .i64 N,.lsl gR 1 0 0,.lsl gB 1 0 0,.lsl q.gC 3 0 q.j]]⟩∧q.b gR=some ⟨1,[]⟩∧q.b gB=some ⟨1,[]⟩∧q.b q.gC=some ⟨3,rqs q.j fun _=>0⟩∧(q.gC≠gT∧q.gC≠gR∧q.gC≠gB∧bl q.gC=none∧(0≤q.gC∨q.j=0))∧Sub bl q.b) (fun q=>N+1 - q.j) _ ⟨0,gC,b1⟩ ⟨Nat.zero_le _,b1T,b1R,b1B,b1C,⟨hCT,hCR,hCB,hgC,.inr rfl⟩,s1⟩ ⟨rfl,by simp,Sub.refl _⟩ ?_
 clear s1 b1T b1R b1B b1C hgC hCB hCR hCT
 rintro⟨j,gC,b⟩ ⟨hj,bT,bR,bB,bC,⟨cT,cR,cB,cbl,aDH⟩,hsb⟩
 simp only at hj bT bR bB bC cT cR cB cbl aDH hsb
 have wj:IntKind.i64.wrap ((j:Int)+1)=(j:Int)+1:=i64_in (by omega) (by omega)
 refine aO ?_
 refine aB ?_
 simp[bT]
 refine⟨fun hjn=> ?_,fun hjn=> ?_⟩
 ·refine aO (aX ?_)
  have hR0:=dP 0 (by decide)
  refine eR aM (rem b gC) (eH b gC) [0,1,2,3,4,5] 5 10 (by kernel_rfl) ?_
  simp[Ne.symm cT,bT]
  refine aN hR0 ?_
  simp
  refine Dq 6 false ?_
  simp[RT.c]
  intro g4 hg4 hb4
  have n4T:g4≠gT:=fun e=>by rw[e,bT] at hb4;cases hb4
  have n4R:g4≠gR:=fun e=>by rw[e,bR] at hb4;cases hb4
  have n4B:g4≠gB:=fun e=>by rw[e,bB] at hb4;cases hb4
  have n4C:g4≠gC:=fun e=>by rw[e,bC] at hb4;cases hb4
  have wY: ∀X,Sub (rem b gC) (upd b g4 X):=fun X z y hz=>by
   rw[aF] at hz
   rw[aC]
   grind
  refine⟨wY _,Dq 7 false ?_⟩
  have tkC:(rqs j fun _=>(0:Rat)).take j=rqs j fun _=>0:=List.take_of_length_le (by simp)
  simp[n4C,Ne.symm n4C,appV,elsV,Int.not_lt.2 hg4,bC,tkC]
  have hsn:(rqs j fun _=>(0:Rat))++ [[V.bool (rq 0).neg,.sl (iv (rq 0).m),.sl (iv (rq 0).d)]]=rqs (j+1) fun _=>0:=by rw[kJ];rfl
  rw[hsn]
  refine⟨by omega,fun gN hgN hbN=> ?_⟩
  have nN:gN≠gT∧gN≠gR∧gN≠gB∧gN≠g4:=by
   by_cases e:gN=gC
   ·subst e
    exact⟨cT,cR,cB,Ne.symm n4C⟩
   ·obtain⟨q1,q2⟩:=hbN e
    exact⟨fun e=>(by rw[e,bT] at q2;cases q2),fun e=>(by rw[e,bR] at q2;cases q2),fun e=>(by rw[e,bB] at q2;cases q2),q1⟩
  obtain⟨nNT,nNR,nNB,nN4⟩:=nN
  have blN:bl gN=none:=by
   by_cases e:gN=gC
   ·rw[e];exact cbl
   ·cases hv:bl gN with
    | none => rfl
    | some y => have := hsb gN y hv; rw [(hbN e).2] at this; cases this
  have jG: ∀X Y,Sub (rem b gC) (upd (rem (upd b g4 X) gC) gN Y):=fun X Y z y hz=>by
   rw[aF] at hz
   rw[aC,aF,aC]
   grind
  have mK: ∀X Y Z,Sub (upd (upd (rem b gC) gN Y) gT Z) (upd (upd (rem (upd b g4 X) gC) gN Y) gT Z):=fun X Y Z z y hz=>by
   simp only[aC,aF] at hz ⊢
   grind
  refine⟨jG _ _,Dq 8 false ?_⟩
  simp
  refine⟨jG _ _,Dq 9 false ?_⟩
  simp
  refine⟨jG _ _,Dq 10 true ?_⟩
  simp[Ne.symm nNT,Ne.symm cT,n4T,Ne.symm n4T,bT]
  refine Dd ?_
  simp
  refine aB ?_
  simp[wj,aA]
  obtain⟨b2,hb2⟩: ∃b2,b2=upd (upd (rem b gC) gN (some ⟨3,rqs (j+1) fun _=>0⟩)) gT (some ⟨4,[[.int .i64 N,.lsl gR 1 0 0,.lsl gB 1 0 0,.lsl gN 3 0 (j+1)]]⟩):=⟨_,rfl⟩
  refine⟨⟨j+1,gN,b2⟩,⟨by simp only;omega,by rw[hb2];simp,by rw[hb2];simp[hRT,Ne.symm nNR,Ne.symm cR,bR],by rw[hb2];simp[hBT,Ne.symm nNB,Ne.symm cB,bB],by rw[hb2];simp[nNT],⟨nNT,nNR,nNB,blN,.inl hgN⟩,fun x y hx=> ?_⟩,by simp only;omega,rfl,by simp,by rw[hb2];exact mK _ _ _⟩
  have x1:x≠gT:=fun e=>by rw[e,hbT] at hx;cases hx
  have x2:x≠gN:=fun e=>by rw[e,blN] at hx;cases hx
  have x3:x≠gC:=fun e=>by rw[e,cbl] at hx;cases hx
  simp only
  rw[hb2];simp[x1,x2,x3];exact hsb x y hx
 have hje:j=N+1:=by omega
 subst hje
 have cnn:0≤gC:=by rcases aDH with g | g;exact g;omega
 refine aO ?_
 refine aB ?_
 simp
 have nTR:=Ne.symm hRT
 have hS0:SS b ⟨gT,gR,gB,gC,[]⟩ ⟨0,N+1,N,eQ p n m,fL p n m 0,fun q=>n+q⟩:=by
  refine⟨rfl,bR,fun i x hx=>(by cases hx),fun x hx=>(by cases hx),bT,bB,?_,hgT,fun _=>rfl,fun _=>rfl,cnn,?_⟩
  ·simp only
   rw[bC,bN (g:=fL p n m 0) fun c _=>by unfold fL;rw[Lp.S];split<;>rfl]
  ·simp[SG.all];grind
 have aIB: ∀x,x∈SG.all ⟨gT,gR,gB,gC,[]⟩→bl x=none:=by simp[SG.all,hbT,hgR,hgB,cbl]
 refine aG (fun q:Sy=> [(1,.ptr p.v),(3,.loc gT 4 0 0),(5,.int .i64 q.i)]) (fun q=>q.b) (fun q=>q.i≤m∧SS q.b q.g ⟨q.i,N+1,N,eQ p n m,fL p n m q.i,fun q=>n+q⟩∧q.g.T=gT∧(∀x,x∈q.g.all→bl x=none)∧Sub bl q.b) (fun q=>m - q.i) _ ⟨0,⟨gT,gR,gB,gC,[]⟩,b⟩ ⟨Nat.zero_le _,hS0,rfl,aIB,hsb⟩ ⟨rfl,by simp,Sub.refl _⟩ ?_
 clear hS0 aIB hsb aDH cbl cB cR cT bC bB bR bT wj hj cnn nTR
 rintro⟨i,⟨gT',gR',gB',gC',ids⟩,b'⟩ ⟨hi,hS,e1,hal,hsb⟩
 simp only at hi hS e1 hsb
 subst e1
 have hal: ∀x,x∈SG.all ⟨gT',gR',gB',gC',ids⟩→bl x=none:=hal
 have wi:IntKind.i64.wrap ((i:Int)+1)=(i:Int)+1:=i64_in (by omega) (by omega)
 refine aO ?_
 refine aB ?_
 simp[Pg.v,h.rows]
 refine⟨fun him=> ?_,fun him=> ?_⟩
 ·refine aO (aX ?_)
  refine aE ?_
  simp
  refine iD (fun _:Unit=> [(1,.ptr p.v),(3,.loc gT' 4 0 0),(5,.int .i64 i),(6,.int .i64 (sgB p i))]) (fun _=>b') (fun _=>True) 152 ?_ ?_
  ·refine aB ?_
   simp[Pg.v,h.b,him]
   refine⟨fun bP=> ?_,fun bP=> ?_⟩
   ·simp[aI]
    exact⟨rfl,by simp[Pg.v,h.b,h.rows,sgB,bP],Sub.refl _⟩
   ·simp[aI]
    exact⟨rfl,by simp[Pg.v,h.b,h.rows,sgB,bP],Sub.refl _⟩
  rintro⟨⟩ -
  obtain⟨sg,hsg⟩: ∃x,sgB p i=x:=⟨_,rfl⟩
  have sg1:sg.natAbs=1:=by rw[←hsg];unfold sgB;split<;>rfl
  rw[hsg]
  have hpA: ∀c,(sg*pA p n i c).natAbs≤1000:=fun c=>by rw[Int.natAbs_mul,sg1,Nat.one_mul];exact jE h.am _
  have hpB:(sg*pB p i).natAbs≤1000:=by rw[Int.natAbs_mul,sg1,Nat.one_mul];exact jE h.bm _
  refine aE ?_
  simp
  intro g7 hg7 hb7
  have hW0:WOk b' (eQ p n m i) ⟨0,g7,upd b' g7 (some ⟨3,[]⟩)⟩:=⟨by simp[rqs],hb7,hg7,fun x y hx=>by simp only;rw[aK _ _ _ _ (fun e=>by rw[e,hb7] at hx;cases hx)];exact hx⟩
  have heq: ∀c,eQ p n m i c=((eZ p n m i c:Int):Rat):=fun _=>rfl
  refine iD (fun W:Bg=> [(1,.ptr p.v),(3,.loc gT' 4 0 0),(5,.int .i64 i),(6,.int .i64 sg),(7,.lsl W.gw 3 0 n)]) (fun W=>W.b) (fun W=>W.k=n∧WOk b' (eQ p n m i) W) 152 ?_ ?_
  ·refine aB ?_
   simp[Pg.v]
   refine aD (Jy p n m i h him) ?_
   simp
   refine aG (fun W:Bg=> [(1,.ptr p.v),(3,.loc gT' 4 0 0),(5,.int .i64 i),(6,.int .i64 sg),(7,.lsl W.gw 3 0 W.k),(53,.sl (iv (lz n (pA p n i)))),(54,.int .i64 n),(55,.int .i64 W.k)]) (fun W=>W.b) (fun W=>W.k≤n∧WOk b' (eQ p n m i) W) (fun W=>n - W.k) _ ⟨0,g7,upd b' g7 (some ⟨3,[]⟩)⟩ ⟨Nat.zero_le _,hW0⟩ ⟨rfl,by simp[Pg.v],Sub.refl _⟩ ?_
   rintro⟨k,gw,bw⟩ ⟨hk,hW⟩
   simp only at hk
   have wk:IntKind.i64.wrap ((k:Int)+1)=(k:Int)+1:=i64_in (by omega) (by omega)
   have wa: ∀c,IntKind.i64.wrap (sg*pA p n i c)=sg*pA p n i c:=fun c=>i64_in (by have:=hpA c;omega) (by have:=hpA c;omega)
   have hbw:=hW.blk
   simp only at hbw
   refine aB ?_
   simp
   refine⟨fun hkn=> ?_,fun hkn=> ?_⟩
   ·have hez:eZ p n m i k=sg*pA p n i k:=by unfold eZ;rw[if_pos hkn,hsg]
    have hR0:=dP (sg*pA p n i k) (by have:=hpA k;omega)
    rw[←hez,←heq] at hR0
    simp[hkn,wa]
    rw[←hez]
    refine aD hR0 ?_
    simp[RT.c]
    intro g4 hg4 hb4
    have n4w:g4≠gw:=fun e=>by rw[e,hbw] at hb4;cases hb4
    have tkw:(rqs k (eQ p n m i)).take k=rqs k (eQ p n m i):=List.take_of_length_le (by simp)
    simp[n4w,Ne.symm n4w,appV,elsV,Int.not_lt.2 hg4,hbw,tkw]
    have hsn:rqs k (eQ p n m i)++ [[V.bool (rq (eQ p n m i k)).neg,.sl (iv (rq (eQ p n m i k)).m),.sl (iv (rq (eQ p n m i k)).d)]]=rqs (k+1) (eQ p n m i):=by rw[kJ];rfl
    rw[hsn]
    refine⟨by omega,fun gN hgN hbN=> ?_⟩
    simp[wk,aA]
    refine⟨⟨k+1,gN,upd (rem bw gw) gN (some ⟨3,rqs (k+1) (eQ p n m i)⟩)⟩,⟨by simp only;omega,hW.snoc hb4 hgN hbN⟩,by simp only;omega,rfl,by simp[Pg.v],G1 hb4 (fun e=>(hbN e).1) n4w⟩
   ·have hke:k=n:=by omega
    subst hke
    simp[aI]
    exact⟨⟨k,gw,bw⟩,⟨rfl,hW⟩,rfl,by simp[Pg.v],Sub.refl _⟩
  rintro⟨k,gw,bw⟩ ⟨hk,hW⟩
  simp only at hk
  have hk:=hk.symm
  subst hk
  clear hW0
  have hfr: ∀ {w1:Nat} {gw1:Int} {bw1:Int→Option Blk},WOk b' (eQ p n m i) ⟨w1,gw1,bw1⟩→bw1 gw1=some ⟨3,rqs w1 (eQ p n m i)⟩:=fun h=>h.blk
  refine iD (fun W:Bg=> [(1,.ptr p.v),(3,.loc gT' 4 0 0),(5,.int .i64 i),(6,.int .i64 sg),(7,.lsl W.gw 3 0 N)]) (fun W=>W.b) (fun W=>W.k=N∧WOk b' (eQ p n m i) W) 152 ?_ ?_
  ·refine aB ?_
   simp
   refine aG (fun W:Bg=> [(1,.ptr p.v),(3,.loc gT' 4 0 0),(5,.int .i64 i),(6,.int .i64 sg),(7,.lsl W.gw 3 0 (n+W.k)),(10,.int .i64 W.k)]) (fun W=>W.b) (fun W=>W.k≤m∧WOk b' (eQ p n m i) ⟨n+W.k,W.gw,W.b⟩) (fun W=>m - W.k) _ ⟨0,gw,bw⟩ ⟨Nat.zero_le _,hW⟩ ⟨rfl,by simp[Pg.v],Sub.refl _⟩ ?_
   clear hW
   rintro⟨k,gw,bw⟩ ⟨hk,hW⟩
   simp only at hk hW
   have wk:IntKind.i64.wrap ((k:Int)+1)=(k:Int)+1:=i64_in (by omega) (by omega)
   have hbw:=hfr hW
   refine aO ?_
   refine aB ?_
   simp[Pg.v,h.rows]
   refine⟨fun hkm=> ?_,fun hkm=> ?_⟩
   ·refine aO (aX ?_)
    refine aE ?_
    simp
    have hez:eZ p n m i (n+k)=if k=i then 1 else 0:=by
     unfold eZ
     rw[if_neg (by omega),if_neg (by omega)]
     by_cases e:k=i
     ·rw[if_pos e,if_pos (by omega)]
     ·rw[if_neg e,if_neg (by omega)]
    have hR0:=dP (eZ p n m i (n+k)) (by rw[hez];split<;>decide)
    rw[←heq] at hR0
    refine iD (fun _:Unit=> [(1,.ptr p.v),(3,.loc gT' 4 0 0),(5,.int .i64 i),(6,.int .i64 sg),(7,.lsl gw 3 0 (n+k)),(10,.int .i64 k),(11,.int .i64 (eZ p n m i (n+k)))]) (fun _=>bw) (fun _=>True) 152 ?_ ?_
    ·refine aB ?_
     simp
     refine⟨fun e=> ?_,fun e=> ?_⟩
     ·have ez1:eZ p n m i (n+k)=1:=by rw[hez,if_pos (show k=i by omega)]
      simp[aI]
      exact⟨rfl,by simp[Pg.v,h.rows,ez1],Sub.refl _⟩
     ·have ez1:eZ p n m i (n+k)=0:=by rw[hez,if_neg (show ¬ k=i by omega)]
      simp[aI]
      exact⟨rfl,by simp[Pg.v,h.rows,ez1],Sub.refl _⟩
    rintro⟨⟩ -
    obtain⟨w1,hw1⟩: ∃w1,n+k=w1:=⟨_,rfl⟩
    rw[hw1] at hR0 hbw hW
    rw[hw1]
    have hw2:n+(k+1)=w1+1:=by omega
    refine aB ?_
    simp
    refine aD hR0 ?_
    simp[RT.c]
    intro g4 hg4 hb4
    have n4w:g4≠gw:=fun e=>by rw[e,hbw] at hb4;cases hb4
    have tkw:(rqs w1 (eQ p n m i)).take w1=rqs w1 (eQ p n m i):=List.take_of_length_le (by simp)
    simp[n4w,Ne.symm n4w,appV,elsV,Int.not_lt.2 hg4,hbw,tkw]
    have hsn:rqs w1 (eQ p n m i)++ [[V.bool (rq (eQ p n m i w1)).neg,.sl (iv (rq (eQ p n m i w1)).m),.sl (iv (rq (eQ p n m i w1)).d)]]=rqs (w1+1) (eQ p n m i):=by rw[kJ];rfl
    rw[hsn]
    refine⟨by omega,fun gN hgN hbN=> ?_⟩
    refine aB ?_
    simp[wk,aA]
    refine⟨⟨k+1,gN,upd (rem bw gw) gN (some ⟨3,rqs (w1+1) (eQ p n m i)⟩)⟩,⟨by simp only;omega,by simp only;rw[hw2];exact hW.snoc hb4 hgN hbN⟩,by simp only;omega,rfl,by simp[Pg.v,h.rows,hw2],G1 hb4 (fun e=>(hbN e).1) n4w⟩
   ·have hke:m=k:=by omega
    rw[hke] at hN
    simp[aI]
    exact⟨⟨N,gw,bw⟩,⟨rfl,by rw[←hN];exact hW⟩,rfl,by simp[Pg.v,h.rows,hN],Sub.refl _⟩
  clear hW
  rintro⟨k,gw,bw⟩ ⟨hk,hW⟩
  simp only at hk
  have hk:=hk.symm
  subst hk
  have wB:IntKind.i64.wrap (sg*pB p i)=sg*pB p i:=i64_in (by omega) (by omega)
  have hez:eZ p n m i N=sg*pB p i:=by unfold eZ;rw[if_neg (by omega),if_pos hN.symm,hsg]
  have hR0:=dP (sg*pB p i) (by omega)
  rw[←hez,←heq] at hR0
  have hbw:=hfr hW
  refine aE ?_
  simp[Pg.v,h.b,him,wB]
  rw[←hez]
  refine aD hR0 ?_
  simp[RT.c]
  intro g4 hg4 hb4
  have n4w:g4≠gw:=fun e=>by rw[e,hbw] at hb4;cases hb4
  have tkw:(rqs N (eQ p n m i)).take N=rqs N (eQ p n m i):=List.take_of_length_le (by simp)
  simp[n4w,Ne.symm n4w,appV,elsV,Int.not_lt.2 hg4,hbw,tkw]
  have hsn:rqs N (eQ p n m i)++ [[V.bool (rq (eQ p n m i N)).neg,.sl (iv (rq (eQ p n m i N)).m),.sl (iv (rq (eQ p n m i N)).d)]]=rqs (N+1) (eQ p n m i):=by rw[kJ];rfl
  rw[hsn]
  refine⟨by omega,fun gN hgN hbN=> ?_⟩
  obtain⟨N1,hN1⟩: ∃N1,N+1=N1:=⟨_,rfl⟩
  have hW2:=hW.snoc hb4 hgN hbN
  rw[hN1] at hW2
  obtain⟨bx,hbx⟩: ∃bx,bx=upd (rem bw gw) gN (some ⟨3,rqs N1 (eQ p n m i)⟩):=⟨_,rfl⟩
  rw[←hbx] at hW2
  refine fG [(1,.ptr p.v),(3,.loc gT' 4 0 0),(5,.int .i64 i),(7,.lsl gN 3 0 N1)] 152 bx ⟨rfl,by simp[Pg.v,h.b,hN1],by rw[hbx,hN1];exact G1 hb4 (fun e=>(hbN e).1) n4w⟩ ?_
  clear hbx hW hbN hgN hsn tkw n4w hb4 hg4 hbw
  clear g4
  have hSx:SS bx ⟨gT',gR',gB',gC',ids⟩ ⟨i,N+1,N,eQ p n m,fL p n m i,fun q=>n+q⟩:=hS.eG fun x y _ hx=>hW2.sub x y hx
  have xw:bx gN=some ⟨3,rqs N1 (eQ p n m i)⟩:=hW2.blk
  have xT:bx gT'=_:=hSx.hd
  have xR:bx gR'=_:=hSx.top
  have xB:bx gB'=_:=hSx.ba
  have xC:bx gC'=_:=hSx.cst
  simp only[hN1] at xT xR xB xC
  have nd:=hS.nd
  simp only[SG.all,List.nodup_cons,List.mem_cons,not_or] at nd
  obtain⟨⟨nTR,nTB,nTC,nTi⟩,⟨nRB,nRC,nRi⟩,⟨nBC,nBi⟩,nCi,nds⟩:=nd
  have hin: ∀x,x∈SG.all ⟨gT',gR',gB',gC',ids⟩→ ∃y,b' x=some y:=fun x hx=>by
   simp only[SG.all,List.mem_cons] at hx
   rcases hx with rfl | rfl | rfl | rfl | hx
   ·exact⟨_,hS.hd⟩
   ·exact⟨_,hS.top⟩
   ·exact⟨_,hS.ba⟩
   ·exact⟨_,hS.cst⟩
   ·obtain⟨q,hq⟩:=List.mem_iff_getElem?.1 hx
    exact⟨_,hS.row q x hq⟩
  have F3:gN∉SG.all ⟨gT',gR',gB',gC',ids⟩:=fun hm2=>by
   obtain⟨y,hy⟩:=hin gN hm2
   have:=hW2.new
   simp only at this
   rw[this] at hy;cases hy
  simp only[SG.all,List.mem_cons,not_or] at F3
  obtain⟨wT,wR,wB',wC,wI⟩:=F3
  refine iD (fun _:Unit=> [(1,.ptr p.v),(3,.loc gT' 4 0 0),(5,.int .i64 i),(7,.lsl gN 3 0 N1)]) (fun _=>upd bx gC' (some ⟨3,rqs N1 (fL p n m (i+1))⟩)) (fun _=>True) 152 ?_ ?_
  ·refine aB ?_
   simp
   refine aG (fun j:Nat=> [(1,.ptr p.v),(3,.loc gT' 4 0 0),(5,.int .i64 i),(7,.lsl gN 3 0 N1),(93,.int .i64 N1),(94,.int .i64 j)]) (fun j=>upd bx gC' (some ⟨3,rqs N1 fun c=>if c<j then fL p n m (i+1) c else fL p n m i c⟩)) (fun j=>j≤N1) (fun j=>N1 - j) _ 0 (Nat.zero_le _) ⟨rfl,by simp[Pg.v],sub_eq (by funext x;simp only[aC];split;rename_i e;rw[e,xC];simp;rfl)⟩ ?_
   intro j hj
   have wj:IntKind.i64.wrap ((j:Int)+1)=(j:Int)+1:=i64_in (by omega) (by omega)
   refine aE ?_
   simp
   refine aE ?_
   simp
   refine⟨fun hj1=> ?_,fun hj1=> ?_⟩
   ·have aDD:(j:Int)<N1:=by omega
    refine aO (aX ?_)
    refine aE ?_
    simp
    refine aO ?_
    refine bD [(1,.ptr p.v),(3,.loc gT' 4 0 0),(5,.int .i64 i),(7,.lsl gN 3 0 N1),(93,.int .i64 N1),(94,.int .i64 j),(12,.int .i64 j)] _ (upd bx gC' (some ⟨3,rqs N1 fun c=>if c<j then fL p n m (i+1) c else fL p n m i c⟩)) 108 (.bool (decide (j<n∨j=N))) ⟨rfl,by simp[Pg.v],Sub.refl _⟩ rfl ?_ ?_
    ·simp[Pg.v,h.aS,nTC,xT]
     by_cases e:j<n
     ·simp[e]
      intro h9;omega
     ·simp[e]
      intro _
      by_cases e2:j=N
      ·simp[e2]
      ·have e3: ¬ (j:Int)=N:=by omega
       simp[e2,e3]
    simp
    have aXU: ∀c,(if c<j then fL p n m (i+1) c else fL p n m i c)=if c<j then fL p n m (i+1) c else fL p n m i c:=fun _=>rfl
    refine aB ?_
    simp
    refine⟨fun Oy=> ?_,fun hno hno2=> ?_⟩
    ·have Xq:j<n∨j=n+m:=by omega
     have lA:=qY (some (fL p n m i j)) (some (eQ p n m i j)) (okS (M4 h hi j)) (okS (fits_int (by have:=Oq h i j;omega)))
     rw[R3 (by rw[←X3 Xq];exact M4 h (by omega) j),←X3 Xq] at lA
     have rI:(rqs N1 fun c=>if c<j then fL p n m (i+1) c else fL p n m i c).set j (ro (some (fL p n m (i+1) j))).c=rqs N1 fun c=>if c<j+1 then fL p n m (i+1) c else fL p n m i c:=by
      rw[yO _ _ hj1]
      exact bN fun c _=>by
       by_cases e:c=j
       ·subst e;rw[if_pos rfl,if_pos (by omega)]
       ·rw[if_neg e]
        by_cases e2:c<j
        ·rw[if_pos e2,if_pos (by omega)]
        ·rw[if_neg e2,if_neg (by omega)]
     have l3: ∀q:Rat,(rq q).c.length=3:=fun _=>rfl
     have t3: ∀q:Rat,(rq q).c.take 3=(rq q).c:=fun _=>rfl
     refine dC aM [0,1,2,3,4,5,6,7,8,9,10,11,12,13,14,15,16,17] 1 18 (by kernel_rfl) ?_
     simp[nTC,wC,xT,xw,hj1,aDD,l3,t3]
     refine aN lA ?_
     simp[hj1,aDD]
     refine cU (i:=18) (by kernel_rfl) rfl rfl rfl ?_
     generalize hy:fL p n m (i+1) j=y at rI
     simp[hj1,aDD,RT.c]
     refine Dy ?_
     simp
     refine aB ?_
     simp[wj,aA]
     refine⟨j+1,by omega,by omega,rfl,by simp[Pg.v],?_⟩
     rw[←rI]
     intro z b hz
     simp only[aC,RT.c,oC] at hz ⊢
     grind
    ·have aT9: ¬ (j<n∨j=n+m):=by omega
     refine aB ?_
     simp[wj,aA]
     refine⟨j+1,by omega,by omega,rfl,by simp[Pg.v],sub_eq ?_⟩
     rw[bN (f:=fun c=>if c<j+1 then fL p n m (i+1) c else fL p n m i c) (g:=fun c=>if c<j then fL p n m (i+1) c else fL p n m i c) fun c _=>by
      by_cases e:c=j
      ·subst e;rw[if_pos (by omega),if_neg (by omega)];exact Ua aT9
      ·by_cases e2:c<j
       ·rw[if_pos e2,if_pos (by omega)]
       ·rw[if_neg e2,if_neg (by omega)]]
   ·have hje:j=N1:=by omega
    subst hje
    simp[aI]
    refine⟨rfl,by simp[Pg.v],sub_eq ?_⟩
    rw[bN fun c hc=>by rw[if_pos hc]]
  rintro⟨⟩ -
  obtain⟨by',hby⟩: ∃by',by'=upd bx gC' (some ⟨3,rqs N1 (fL p n m (i+1))⟩):=⟨_,rfl⟩
  rw[←hby]
  have hSy:SS by' ⟨gT',gR',gB',gC',ids⟩ ⟨i,N+1,N,eQ p n m,fL p n m (i+1),fun q=>n+q⟩:=by
   have:=hSx.Zi (fL p n m (i+1))
   simp only[hN1] at this
   rw[hby,hN1];exact this
  have yT:by' gT'=_:=hSy.hd
  have yR:by' gR'=_:=hSy.top
  have yB:by' gB'=_:=hSy.ba
  have yC:by' gC'=_:=hSy.cst
  have yw:by' gN=some ⟨3,rqs N1 (eQ p n m i)⟩:=by rw[hby,aK _ _ _ _ wC];exact xw
  have yx: ∀x,x≠gC'→by' x=bx x:=fun x hx=>by rw[hby,aK _ _ _ _ hx]
  simp only[hN1] at yT yR yB yC
  have hil:=hS.len
  simp only at hil
  clear hby
  have Iz: ∀x,by' x=none→x≠gT'∧x≠gR'∧x≠gB'∧x≠gC'∧x≠gN∧x∉ids:=fun x hx=>by
   refine⟨fun e=> ?_,fun e=> ?_,fun e=> ?_,fun e=> ?_,fun e=> ?_,fun e=> ?_⟩
   ·rw[e,yT] at hx;cases hx
   ·rw[e,yR] at hx;cases hx
   ·rw[e,yB] at hx;cases hx
   ·rw[e,yC] at hx;cases hx
   ·rw[e,yw] at hx;cases hx
   ·obtain⟨q,hq⟩:=List.mem_iff_getElem?.1 e
    rw[hSy.row q x hq] at hx;cases hx
  refine aE ?_
  simp[yT,yR,appV,elsV,hil]
  intro g4 hg4 hb4
  obtain⟨n4T,n4R,n4B,n4C,n4w,n4i⟩:=Iz g4 hb4
  have tk:(ids.map fun x=> [V.lsl x 3 0 N1]).take i=ids.map fun x=> [V.lsl x 3 0 N1]:=List.take_of_length_le (by simp[hil])
  simp[Ne.symm n4T,Ne.symm n4R,n4T,n4R,Int.not_lt.2 hg4,yR,hil,tk]
  refine⟨by omega,fun gQ hgQ hbQ=> ?_⟩
  have nQ:gQ≠gT'∧gQ≠gB'∧gQ≠gC'∧gQ≠gN∧gQ∉ids∧gQ≠g4:=by
   by_cases e:gQ=gR'
   ·subst e
    exact⟨Ne.symm nTR,nRB,nRC,Ne.symm wR,nRi,Ne.symm n4R⟩
   ·obtain⟨q1,q2⟩:=hbQ e
    obtain⟨w1,w2,w3,w4,w5,w6⟩:=Iz gQ q2
    exact⟨w1,w3,w4,w5,w6,q1⟩
  obtain⟨nQT,nQB,nQC,nQw,nQi,nQ4⟩:=nQ
  simp[Ne.symm nQT,nQT,Ne.symm n4T,nTR,yT]
  obtain⟨b3,hb3⟩: ∃b3,b3=upd (upd (rem by' gR') gQ (some ⟨1,(ids++ [gN]).map fun x=> [.lsl x 3 0 N1]⟩)) gT' (some ⟨4,[[.int .i64 N,.lsl gQ 1 0 (i+1),.lsl gB' 1 0 i,.lsl gC' 3 0 N1]]⟩):=⟨_,rfl⟩
  refine fG [(1,.ptr p.v),(3,.loc gT' 4 0 0),(5,.int .i64 i)] 152 b3 ⟨rfl,by simp[Pg.v],?_⟩ ?_
  ·rw[hb3]
   intro z y hz
   simp only[aC,aF] at hz ⊢
   grind
  have b3N:b3 gQ=some ⟨1,(ids++ [gN]).map fun x=> [.lsl x 3 0 N1]⟩:=by rw[hb3];simp[nQT]
  have b3T:b3 gT'=some ⟨4,[[.int .i64 N,.lsl gQ 1 0 (i+1),.lsl gB' 1 0 i,.lsl gC' 3 0 N1]]⟩:=by rw[hb3];simp
  have b3x: ∀x,x≠gT'→x≠gQ→x≠gR'→b3 x=by' x:=fun x x1 x2 x3=>by rw[hb3,aK _ _ _ _ x1,aK _ _ _ _ x2,aF,if_neg x3]
  have b3B:=b3x gB' (Ne.symm nTB) (Ne.symm nQB) (Ne.symm nRB)
  rw[yB] at b3B
  clear hb3
  have wni:IntKind.i64.wrap ((n:Int)+(i:Int))=((n+i:Nat):Int):=by rw[i64_in (by omega) (by omega)];simp
  obtain⟨ni,hni⟩: ∃x,n+i=x:=⟨_,rfl⟩
  rw[hni] at wni
  refine eR aM (rem b3 gB') (eH b3 gB') [0,1,2,3,4,5,6,7,8] 5 13 (by kernel_rfl) ?_
  simp[nTB,b3T,Pg.v,h.aS,wni]
  refine Dq 9 false ?_
  simp
  intro g5 hg5 hb5
  have n5:g5≠gT'∧g5≠gQ∧g5≠gB':=⟨fun e=>(by rw[e,b3T] at hb5;cases hb5),fun e=>(by rw[e,b3N] at hb5;cases hb5),fun e=>(by rw[e,b3B] at hb5;cases hb5)⟩
  obtain⟨n5T,n5Q,n5B⟩:=n5
  have Bo: ∀X,Sub (rem b3 gB') (upd b3 g5 X):=fun X z y hz=>by
   rw[aF] at hz
   rw[aC]
   grind
  refine⟨Bo _,Dq 10 false ?_⟩
  have tkB:(iv (lb i fun q=>n+q)).take i=iv (lb i fun q=>n+q):=List.take_of_length_le (by simp)
  simp[n5B,Ne.symm n5B,appV,elsV,Int.not_lt.2 hg5,b3B,tkB]
  have hlb:iv (lb i fun q=>n+q)++ [[.int .i64 ni]]=iv (lb (i+1) fun q=>n+q):=by rw[S4,aV,hni];rfl
  rw[hlb]
  refine⟨by omega,fun gM hgM hbM=> ?_⟩
  have nM:gM≠gT'∧gM≠gQ∧gM≠gC'∧gM≠gN∧gM∉ids∧gM≠g5:=by
   by_cases e:gM=gB'
   ·subst e
    exact⟨Ne.symm nTB,Ne.symm nQB,nBC,Ne.symm wB',nBi,Ne.symm n5B⟩
   ·obtain⟨q1,q2⟩:=hbM e
    have q3:gM≠gT':=fun e2=>by rw[e2,b3T] at q2;cases q2
    have q4:gM≠gQ:=fun e2=>by rw[e2,b3N] at q2;cases q2
    by_cases e3:gM=gR'
    ·subst e3
     exact⟨q3,q4,nRC,Ne.symm wR,nRi,q1⟩
    ·rw[b3x gM q3 q4 e3] at q2
     obtain⟨w1,w2,w3,w4,w5,w6⟩:=Iz gM q2
     exact⟨q3,q4,w4,w5,w6,q1⟩
  obtain⟨nMT,nMQ,nMC,nMw,nMi,nM5⟩:=nM
  have mA: ∀X Y,Sub (rem b3 gB') (upd (rem (upd b3 g5 X) gB') gM Y):=fun X Y z y hz=>by
   rw[aF] at hz
   rw[aC,aF,aC]
   grind
  have mK: ∀X Y Z,Sub (upd (upd (rem b3 gB') gM Y) gT' Z) (upd (upd (rem (upd b3 g5 X) gB') gM Y) gT' Z):=fun X Y Z z y hz=>by
   simp only[aC,aF] at hz ⊢
   grind
  refine⟨mA _ _,Dq 11 false ?_⟩
  simp
  refine⟨mA _ _,Dq 12 false ?_⟩
  simp
  refine⟨mA _ _,Dq 13 true ?_⟩
  simp[Ne.symm nMT,nTB,n5T,Ne.symm n5T,b3T]
  refine Dd ?_
  simp
  refine aB ?_
  simp[wi,aA]
  obtain⟨b4,kQ⟩: ∃b4,b4=upd (upd (rem b3 gB') gM (some ⟨1,iv (lb (i+1) fun q=>n+q)⟩)) gT' (some ⟨4,[[.int .i64 N,.lsl gQ 1 0 (i+1),.lsl gM 1 0 (i+1),.lsl gC' 3 0 N1]]⟩):=⟨_,rfl⟩
  have b4T:b4 gT'=some ⟨4,[[.int .i64 N,.lsl gQ 1 0 (i+1),.lsl gM 1 0 (i+1),.lsl gC' 3 0 N1]]⟩:=by rw[kQ];simp
  have b4M:b4 gM=some ⟨1,iv (lb (i+1) fun q=>n+q)⟩:=by rw[kQ];simp[nMT]
  have b4x: ∀x,x≠gT'→x≠gM→x≠gB'→b4 x=b3 x:=fun x x1 x2 x3=>by rw[kQ,aK _ _ _ _ x1,aK _ _ _ _ x2,aF,if_neg x3]
  have b4o: ∀x,x≠gT'→x≠gM→x≠gB'→x≠gQ→x≠gR'→b4 x=by' x:=fun x x1 x2 x3 x4 x5=>by rw[b4x x x1 x2 x3,b3x x x1 x4 x5]
  have fr: ∀x,by' x=none→bl x=none:=fun x hx=>by
   cases hv:bl x with
   | none => rfl
   | some y =>
     have h5:=hsb x y hv
     have h6:=hW2.sub x y h5
     simp only at h6
     by_cases e:x=gC'
     ·rw[e,yC] at hx;cases hx
     ·rw[yx x e,h6] at hx;cases hx
  have blT:bl gT'=none:=hal gT' (by simp[SG.all])
  have blR:bl gR'=none:=hal gR' (by simp[SG.all])
  have blB:bl gB'=none:=hal gB' (by simp[SG.all])
  have blC:bl gC'=none:=hal gC' (by simp[SG.all])
  have blw:bl gN=none:=by
   cases hv:bl gN with
   | none => rfl
   | some y => have := hsb gN y hv; have h6 := hW2.new; simp only at h6; rw [h6] at this; cases this
  have blQ:bl gQ=none:=by
   by_cases e:gQ=gR'
   ·rw[e];exact blR
   ·exact fr gQ (hbQ e).2
  have blM:bl gM=none:=by
   by_cases e:gM=gB'
   ·rw[e];exact blB
   ·by_cases e3:gM=gR'
    ·rw[e3];exact blR
    ·have:=(hbM e).2
     rw[b3x gM nMT nMQ e3] at this;exact fr gM this
  have Om:=hSy.snoc (b':=b4) gQ gM gN (by simp only;rw[hN1,b4x gQ nQT (Ne.symm nMQ) nQB,b3N]) (by exact b4M) (by simp only;rw[hN1,b4T])
   (by simp only;exact b4o gC' (Ne.symm nTC) (Ne.symm nMC) (Ne.symm nBC) (Ne.symm nQC) (Ne.symm nRC))
   (fun x hx=>by simp only at hx;exact b4o x (fun e=>nTi (e▸hx)) (fun e=>nMi (e▸hx)) (fun e=>nBi (e▸hx)) (fun e=>nQi (e▸hx)) (fun e=>nRi (e▸hx)))
   (by rw[hN1,b4o gN wT (Ne.symm nMw) wB' (Ne.symm nQw) wR,yw]) hW2.nn hgQ hgM (by
     simp only[SG.all,List.nodup_cons,List.mem_cons,not_or,List.mem_append,List.mem_singleton,List.nodup_append,List.not_mem_nil,or_false]
     refine⟨⟨Ne.symm nQT,Ne.symm nMT,nTC,nTi,Ne.symm wT⟩,⟨Ne.symm nMQ,nQC,nQi,nQw⟩,⟨nMC,nMi,nMw⟩,⟨nCi,Ne.symm wC⟩,nds,by simp,fun a ha c hc=> ?_⟩
     rw[hc];exact fun e=>wI (e▸ha))
  refine⟨⟨i+1,⟨gT',gQ,gM,gC',ids++ [gN]⟩,b4⟩,⟨by simp only;omega,Om,rfl,fun x hx=> ?_,fun x y hx=> ?_⟩,by simp only;omega,rfl,by simp[Pg.v,h.aS,h.rows,h.b],by rw[kQ];exact mK _ _ _⟩
  ·simp only[SG.all,List.mem_cons,List.mem_append,List.not_mem_nil,or_false] at hx
   rcases hx with rfl | rfl | rfl | rfl | hx | rfl
   ·exact blT
   ·exact blQ
   ·exact blM
   ·exact blC
   ·exact hal x (by simp[SG.all,hx])
   ·exact blw
  ·have nx: ∀z,bl z=none→x≠z:=fun z hz e=>by rw[e,hz] at hx;cases hx
   simp only
   rw[b4o x (nx _ blT) (nx _ blM) (nx _ blB) (nx _ blQ) (nx _ blR),yx x (nx _ blC)]
   exact hW2.sub x y (hsb x y hx)
 ·have hie:m=i:=by omega
  refine aB ?_
  simp
  rw[bW]
  refine⟨[.loc gT' 4 0 0],by simp,hK b' ⟨gT',gR',gB',gC',ids⟩ ?_ hal hsb⟩
  unfold snV
  rw[←hie,←hN] at hS
  rw[show(List.range m).length=m by simp]
  refine hS.congr (fun q c hq hc=> ?_) (fun c hc=> ?_) fun q hq=> ?_
  ·rw[dE hq]
   show eQ p n m q c=eQ p n m q _
   by_cases e:c<n+m
   ·rw[if_pos e]
   ·rw[if_neg e,show c=n+m by omega]
  ·rw[Vi h (by omega)]
   by_cases e:c<n+m
   ·rw[if_pos e]
   ·rw[if_neg e,show c=n+m by omega]
  ·rw[dE hq];rfl
end Go.Proofs.YticmgmemnpcbbaaGreat.Vm

namespace Go.Proofs.YticmgmemnpcbbaaGreat.Lp
set_option linter.unusedSimpArgs false
set_option linter.unusedVariables false
noncomputable def opt (n m : Nat) (E : Nat → Nat → Rat) (b : Nat) (C : Nat → Rat) : Option (Option (Nat → Rat)) :=
 open Classical in
 if h: ∃x,sW n m E b C x then some (some fun c=>if c<n then h.choose c else 0)
 else if∃x,jR n m E b x then some none else none
theorem tS {n m b:Nat} {E:Nat→Nat→Rat} {C x:Nat→Rat} (h:sW n m E b C x):opt n m E b C=some (some fun c=>if c<n then x c else 0):=by
 have he: ∃x,sW n m E b C x:=⟨x,h⟩
 unfold opt
 rw[dif_pos he]
 congr 2
 funext c
 split
 ·exact Jk he.choose_spec h c (by assumption)
 ·rfl
theorem A9 {n m b:Nat} {E:Nat→Nat→Rat} {C:Nat→Rat} (h:Unb n m E b C) {x:Nat→Rat} (hx:jR n m E b x):opt n m E b C=some none:=by
 have he: ¬ ∃x,sW n m E b C x:=fun⟨x,hb⟩=>R7 h hb
 unfold opt
 rw[dif_neg he,if_pos ⟨x,hx⟩]
theorem C9 {n m b:Nat} {E:Nat→Nat→Rat} {C:Nat→Rat} (h: ∀x, ¬ jR n m E b x):opt n m E b C=none:=by
 have he: ¬ ∃x,sW n m E b C x:=fun⟨x,hb⟩=>h x hb.1
 unfold opt
 rw[dif_neg he,if_neg fun⟨x,hx⟩=>h x hx]
theorem Cm {n m b:Nat} {E:Nat→Nat→Rat} {x y:Nat→Rat} (h:jR n m E b x) (e: ∀c,c<n→x c=y c):jR n m E b y:=
 ⟨fun c hc=>by rw[←e c hc];exact h.nn c hc,fun i hi=>by
   have:=h.sol i hi
   rw[←this]
   exact bK fun c hc=>by rw[e c hc]⟩
theorem vR {n:Nat} {C x y:Nat→Rat} (e: ∀c,c<n→x c=y c):dot n C x=dot n C y:=bK fun c hc=>by rw[e c hc]
theorem My {n m b:Nat} {E:Nat→Nat→Rat} {C x:Nat→Rat} (h:opt n m E b C=some (some x)):sW n m E b C x:=by
 unfold opt at h
 split at h
 ·rename_i he
  cases h
  have hb:=he.choose_spec
  have e: ∀c,c<n→he.choose c=if c<n then he.choose c else 0:=fun c hc=>by rw[if_pos hc]
  refine⟨Cm hb.1 e,fun y hy hp=>hb.2 y hy ?_⟩
  refine dW hp fun q hq=> ?_
  rw[vR (C:=wl C q) e]
 ·split at h<;>cases h

def Den (L n:Nat) (x:Nat→Rat):Prop:= ∃v:Int,v≠0∧v.natAbs≤L∧ ∀c,c<n→ ∃a:Int,x c*v=a∧a.natAbs≤L
theorem Den.congr {L n:Nat} {x y:Nat→Rat} (h:Den L n x) (e: ∀c,c<n→x c=y c):Den L n y:=by
 obtain⟨v,h1,h2,h3⟩:=h
 exact⟨v,h1,h2,fun c hc=>by rw[←e c hc];exact h3 c hc⟩
theorem Den.sm {L n:Nat} {x:Nat→Rat} (h:Den L n x) {c:Nat} (hc:c<n):Lp.sm L (x c):=by
 obtain⟨v,h1,h2,h3⟩:=h
 obtain⟨a,ha,hal⟩:=h3 c hc
 exact⟨a,v,h1,ha,hal,h2⟩
theorem Np {n m N K b:Nat} {E:Nat→Nat→Rat} {t:Tab} (h:TZ m N K E t) (hb:b<N):Den (lid K m) n (xb m b t):=by
 obtain⟨⟨v,hv⟩,hvl⟩:=h.mR
 have hne:=h.vol
 refine⟨v,fun e=>hne (by rw[hv,e];rfl),mE hv hvl,fun c _=> ?_⟩
 by_cases e: ∃i,i<m∧t.bs i=c
 ·obtain⟨i,hi,rfl⟩:=e
  rw[aLS h.ti hi]
  obtain⟨⟨a,ha⟩,hal⟩:=h.entry hi hb
  exact⟨a,by rw[←hv,ha],mE ha hal⟩
 ·rw[aAG fun i hi e2=>e ⟨i,hi,e2⟩]
  exact⟨0,by grind,by simp⟩
theorem Den.sum {L n W:Nat} {x:Nat→Rat} (h:Den L n x) {C:Nat→Int} (hC: ∀c,c<n→(C c).natAbs≤W) (hW:1≤W): ∀k,k≤n→Lp.sm ((n+1)*(W*L)) (S k fun c=>(C c:Rat)*x c):=by
 obtain⟨v,h1,h2,h3⟩:=h
 have key: ∀k,k≤n→ ∃a:Int,(S k fun c=>(C c:Rat)*x c)*v=a∧a.natAbs≤k*(W*L):=by
  intro k
  induction k with
  | zero => intro _; exact ⟨0, by rw [S]; grind, by simp⟩
  | succ k ih =>
    intro hk
    obtain⟨a,ha,hal⟩:=ih (by omega)
    obtain⟨z,hz,hzl⟩:=h3 k (by omega)
    refine⟨a+C k*z,?_,?_⟩
    ·rw[S,Rat.intCast_add,Rat.intCast_mul,←ha,←hz];grind
    ·have e1:=Int.natAbs_add_le a (C k*z)
     have e2:(C k*z).natAbs≤W*L:=by rw[Int.natAbs_mul];exact Nat.mul_le_mul (hC k (by omega)) hzl
     rw[Nat.add_mul,Nat.one_mul];omega
 intro k hk
 obtain⟨a,ha,hal⟩:=key k hk
 refine⟨a,v,h1,ha,Nat.le_trans hal (Nat.mul_le_mul_right _ (by omega)),Nat.le_trans h2 ?_⟩
 have e1:1*L≤W*L:=Nat.mul_le_mul_right _ hW
 have e2:1*(W*L)≤(n+1)*(W*L):=Nat.mul_le_mul_right _ (by omega)
 omega
theorem runs {n m K:Nat} {E:Nat→Nat→Rat} (C:Nat→Rat) (h:Init n m K E):(∀x, ¬ jR n m E (n+m) x)∨
  ∃t rows,Inv n m (n+m) (n+m+1) K E rows t∧(∀i,i∈rows→t.bs i<n)∧nx n (n+m) rows (okL m n C) t=none:=by
 obtain⟨e,h1,h2,h3,h4⟩:=sU (N':=n+m) (F:=fun c=>c<n) h (fun c hc=>by omega) (Nat.le_refl _) (fun c hc=>⟨by omega,hc⟩)
 generalize orb (nx (n+m) (n+m) (List.range m) (okW m (aZ n m) fun c=>c<n)) (kR n E) e=t at *
 by_cases hp:rc m (aZ n m) t (n+m)=0
 ·right
  have hk:=(kC (h4.kY hp) (by omega) m (Nat.le_refl _)).inv
  have R:uU n m (n+m) (n+1) n (n+m+1) (wl C) (fun c=>c<n) (bE n (kicks n t m) m) (okL m n C):=Xh (by omega) (by omega)
  obtain⟨e2,g1,g2,g3⟩:=R.ends hk
  exact⟨_,_,g3 e2 (Nat.le_refl _),R.low (fun c hc=>hc) g3 (fun i hi=>(lX.1 hi).2) e2 (Nat.le_refl _),g1⟩
 ·exact .inl fun x=>h4.no hp x
theorem answers {n m K:Nat} {E:Nat→Nat→Rat} (C:Nat→Rat) (h:Init n m K E):(opt n m E (n+m) C=none∧ ∀x, ¬ jR n m E (n+m) x)∨(opt n m E (n+m) C=some none∧Unb n m E (n+m) C∧ ∃x,jR n m E (n+m) x)∨
  ∃x,opt n m E (n+m) C=some (some x)∧sW n m E (n+m) C x∧Den (lid K m) n x∧ ∀c,n≤c→x c=0:=by
 rcases runs C h with g | ⟨t,rows,h1,h2,h3⟩
 ·exact .inl ⟨C9 g,g⟩
 ·have hf:jR n m E (n+m) (xb m (n+m) t):=tX h1.z.ti h1.nn (h1.zero h2)
  rcases zB h1 h2 h3 with ⟨_,hb⟩| ⟨_,hu⟩
  ·refine .inr (.inr ⟨_,tS hb,My (tS hb),(Np (b:=n+m) h1.z (by omega)).congr fun c hc=>by rw[if_pos hc],fun c hc=>if_neg (by omega)⟩)
  ·exact .inr (.inl ⟨A9 hu hf,hu,_,hf⟩)
end Go.Proofs.YticmgmemnpcbbaaGreat.Lp

namespace Go.Proofs.YticmgmemnpcbbaaGreat.Vm
open Go Go.RowKit Go.Proofs
set_option linter.unusedSimpArgs false
set_option linter.unusedVariables false
structure aVU (p : Pg) (n m : Nat) : Prop where
 a: ∀x,x∈p.a→x.natAbs≤100
 b: ∀x,x∈p.b→x.natAbs≤100
 c: ∀x,x∈p.c→x.natAbs≤100
 m:m≤20
 n:n≤40
noncomputable def Ve (n m : Nat) (E : Nat → Nat → Rat) : Bool := open Classical in decide (∃ x, Lp.jR n m E (n + m) x)
theorem Mh {n m:Nat} {E:Nat→Nat→Rat} :Ve n m E=true ↔ ∃x,Lp.jR n m E (n+m) x:=by unfold Ve;simp
theorem uV (n m c:Nat):Lp.isInt (Lp.aZ n m c)∧ -((1000:Nat):Rat)≤Lp.aZ n m c∧Lp.aZ n m c≤((1000:Nat):Rat):=by
 unfold Lp.aZ
 split
 ·exact⟨⟨-1,rfl⟩,by decide,by decide⟩
 ·exact⟨⟨0,rfl⟩,by decide,by decide⟩
theorem Ln {bl:Int→Option Blk} {K:V→(Int→Option Blk)→Prop} (p:Pg) (n m:Nat) (h:PgN p n m) (g:SG) (hS:SS bl g (snV (List.range m) (n+m) (n+m) m (Lp.aZ n m) (Lp.kR n (eQ p n m))))
  (hK: ∀b' T r,Lp.qH n m (n+m+1) 1000 (eQ p n m) T→SS b' g (snV (List.range m) (n+m) (n+m) m (Lp.aZ n m) T)→(∀x y,bl x=some y→x∉g.all→b' x=some y)→K (.bool r) b'):
  bY Tryz.prog 190 [.loc g.T 4 0 0,.bool false] bl K:=by
 have hml:=h.ml
 have hnl:=h.nl
 obtain⟨e,h1,h2,h3,h4⟩:=Lp.sU (F:=fun c=>c<n+m) (N':=n+m) h.init (fun c hc=>hc) (Nat.le_refl _) (fun c hc=>⟨by omega,by omega⟩)
 have hR:Oa n m (n+m) (eQ p n m) (List.range m) false (Lp.aZ n m) (Lp.okW m (Lp.aZ n m) fun c=>c<n+m):=by
  refine⟨hml,hnl,Nat.le_refl _,lY m,fun T _ i hi hn=>absurd (by simpa using hi) hn,fun c _=>uV n m c,fun T hI j hj hb hok=> ?_⟩
  obtain⟨q,hq,e1⟩:=hb
  have hq':q<m:=by simpa using hq
  have e2:=Lp.lT hI.z.ti (Lp.aZ n m) hq'
  simp only at e1
  rw[dE hq'] at e1
  rw[e1] at e2
  have:=hok.2
  rw[e2] at this;exact absurd this (by decide)
 have hnx:Lp.nx (n+m) (n+m) (List.range m) (Lp.okW m (Lp.aZ n m) fun c=>c<n+m) (Lp.orb (Lp.nx (n+m) (n+m) (List.range m) (Lp.okW m (Lp.aZ n m) fun c=>c<n+m)) (Lp.kR n (eQ p n m)) e)=none:=by
  unfold Lp.nx at h1 ⊢
  rw[h1]
 refine l10Run_cp hR g (Lp.kR n (eQ p n m)) e (fun T hI j hj hnb=> ?_) hnx h2 h3 hS (fun b' _ hS' hx=>hK b' _ true h4 hS' hx) (fun b' k hk _ _=>absurd hk (by rw[h1];simp))
 have hV:=hR.view hI
 have hco:(snV (List.range m) (n+m) (n+m) m (Lp.aZ n m) T).co j=Lp.rc m (Lp.aZ n m) T j:=by
  show Lp.rc m (Lp.aZ n m) T (if j<n+m then j else n+m)=_
  rw[if_pos hj]
 have hfl:=T1 (snV (List.range m) (n+m) (n+m) m (Lp.aZ n m) T) j (show j<n+m+1 by omega) (cE (hV.tm.co j (show j<n+m+1 by omega)))
 refine⟨_,?_,hfl⟩
 rw[Lp.C3,hco]
 unfold Lp.okW
 exact⟨fun hp=>⟨hj,hp⟩,fun hp=>hp.2⟩
theorem qH.has {p:Pg} {n m:Nat} {T:Lp.Tab} (h:Lp.qH n m (n+m+1) 1000 (eQ p n m) T):(Lp.rc m (Lp.aZ n m) T (n+m)=0) ↔ Ve n m (eQ p n m)=true:=by
 rw[Mh]
 constructor
 ·intro h0;exact⟨_,h.Ou h0⟩
 ·rintro⟨x,hx⟩
  exact Classical.byContradiction fun h0=>h.no h0 x hx
end Go.Proofs.YticmgmemnpcbbaaGreat.Vm

namespace Go.Proofs.YticmgmemnpcbbaaGreat.Lp
set_option linter.unusedSimpArgs false
set_option linter.unusedVariables false
def part (w:Nat→Rat) (t:Tab) (rw_:Nat→Nat) (i c:Nat):Rat:=w c - S i fun p=>t.X (rw_ p) c*w (t.bs (rw_ p))
theorem TZ.part {m N K W:Nat} {E:Nat→Nat→Rat} {t:Tab} (h:TZ m N K E t) {w:Nat→Rat} (hw: ∀c,c<N→isInt (w c)∧ -(W:Rat)≤w c∧w c≤W) {c:Nat} (hc:c<N) (hW:1≤W) {rw_:Nat→Nat} {i:Nat} (hi:i≤m) (hr: ∀p,p<i→rw_ p<m):Lp.sm ((m+1)*(W*lid K m)) (Lp.part w t rw_ i c):=by
 obtain⟨hvi,hvl⟩:=h.mR
 obtain⟨v,hv⟩:=hvi
 have hne:=h.vol
 have e:Lp.part w t rw_ i c*Lp.vol m E t=w c*Lp.vol m E t - S i fun p=>w (t.bs (rw_ p))*(t.X (rw_ p) c*Lp.vol m E t):=by
  unfold Lp.part
  rw[show(S i fun p=>w (t.bs (rw_ p))*(t.X (rw_ p) c*Lp.vol m E t))=(S i fun p=>t.X (rw_ p) c*w (t.bs (rw_ p)))*Lp.vol m E t by rw[←nY];exact bK fun i _=>by grind]
  grind
 have hint:isInt (Lp.part w t rw_ i c*Lp.vol m E t):=by
  rw[e]
  exact M1 (lG (hw c hc).1 h.mR.1) (yK fun p hp=>lG (hw _ (h.bs _ (hr p hp))).1 (h.entry (hr p hp) hc).1)
 have b1:=uT (hw c hc).2 hvl
 have b2:=Gf (n:=i) (f:=fun p=>w (t.bs (rw_ p))*(t.X (rw_ p) c*Lp.vol m E t)) (B:=(W:Rat)*lid K m) fun p hp=>uT (hw _ (h.bs _ (hr p hp))).2 (h.entry (hr p hp) hc).2
 have hB:(((m+1)*(W*lid K m):Nat):Rat)=(m:Rat)*((W:Rat)*lid K m)+(W:Rat)*lid K m:=by
  rw[Rat.natCast_mul,Rat.natCast_mul,Rat.natCast_add]
  grind
 have hle:(i:Rat)*((W:Rat)*lid K m)≤(m:Rat)*((W:Rat)*lid K m):=by
  have:i*(W*lid K m)≤m*(W*lid K m):=Nat.mul_le_mul_right _ hi
  have:=Rat.natCast_le_natCast.2 this
  simp only[Rat.natCast_mul] at this
  exact this
 obtain⟨a,ha⟩:=hint
 refine⟨a,v,fun e0=>hne (by rw[hv,e0];rfl),by rw[←hv,ha],mE ha ?_,?_⟩
 ·rw[hB,e]
  grind
 ·have h1:=mE hv hvl
  have:lid K m≤(m+1)*(W*lid K m):=by
   calc lid K m=1*(1*lid K m):=by omega
    _≤(m+1)*(W*lid K m):=Nat.mul_le_mul (by omega) (Nat.mul_le_mul hW (Nat.le_refl _))
  omega
theorem Cz {m:Nat} {E:Nat→Nat→Rat} {t:Tab} (h:TI m E t) {w:Nat→Rat} {rw_:Nat→Nat} {i:Nat} (hi:rw_ i<m) (hr: ∀p,p<i→rw_ p<m) (hne: ∀p,p<i→rw_ p≠rw_ i):Lp.part w t rw_ i (t.bs (rw_ i))=w (t.bs (rw_ i)):=by
 unfold Lp.part
 rw[jQ]
 ·grind
 ·intro p hp
  rw[h.unit _ _ (hr p hp) hi,if_neg (hne p hp)];grind
theorem Ll (w:Nat→Rat) (t:Tab) (rw_:Nat→Nat) (i c:Nat):Lp.part w t rw_ (i+1) c=Lp.part w t rw_ i c - w (t.bs (rw_ i))*t.X (rw_ i) c:=by
 unfold Lp.part
 rw[S];grind
end Go.Proofs.YticmgmemnpcbbaaGreat.Lp

namespace Go.Proofs.YticmgmemnpcbbaaGreat.Vm
open Go Go.RowKit Go.Proofs
set_option linter.unusedSimpArgs false
set_option linter.unusedVariables false
theorem Z5 {n0 m n:Nat} {E:Nat→Nat→Rat} {rows:List Nat} {w0:Nat→Rat} {T:Lp.Tab} (hml:m≤17) (hnl:n0+m≤100) (hnn:n≤n0+m) (hr:Rows m rows) (hw: ∀c,c<n0+m+1→Lp.isInt (w0 c)∧ -((1000:Nat):Rat)≤w0 c∧w0 c≤((1000:Nat):Rat)) (z:Lp.TZ m (n0+m+1) 1000 E T):Vr (snV rows n (n0+m) m w0 T):=by
 have hl:=hr.len
 refine⟨fun i c hi hc=> ?_,fun c hc=> ?_,?_,?_⟩
 ·have hi':i<rows.length:=hi
  have hin:=hr.lt (cK hi')
  exact Lp.fP (z.sm (c:=if c<n then c else n0+m) hin (by split<;>omega)) (pN hml)
 ·exact Lp.fP (z.rc hw (c:=if c<n then c else n0+m) (by split<;>omega) (by decide)) (uO hml)
 ·show n+1≤200;omega
 ·show rows.length≤100;omega
theorem Ri {w j:Nat} {f g:Nat→Rat} (hj:j≤w) (h: ∀c,c<j→f c=g c):(rqs w f).take j=rqs j g:=by
 unfold rqs
 rw[←List.map_take,List.take_range,Nat.min_eq_left hj]
 exact List.map_congr_left fun c hc=>by rw[h c (by simpa using hc)]
theorem qA {L:List Nat} (r:Nat) {z:Nat} (h:z<L.length):atR (L++ [r]) z=atR L z:=by
 unfold atR
 rw[List.getD_eq_getElem?_getD,List.getD_eq_getElem?_getD,List.getElem?_append_left h]
theorem xE {L:List Nat} (r:Nat) {l:Nat} (h:L.length=l):atR (L++ [r]) l=r:=by
 unfold atR
 rw[List.getD_eq_getElem?_getD,List.getElem?_append_right (by omega),h,Nat.sub_self];rfl
theorem Qf {r:Nat} {f g:Nat→Nat} (h: ∀z,z<r→f z=g z):lb r f=lb r g:=List.map_congr_left fun c hc=>by rw[h c (by simpa using hc)]
structure aHX where
 i:Nat
 b:Int→Option Blk
structure aC3 where
 j:Nat
 d:Bool
 b:Int→Option Blk
set_option maxHeartbeats 2000000 in
theorem R0 {bl:Int→Option Blk} {K:V→(Int→Option Blk)→Prop} (p:Pg) (n m:Nat) (h:PgN p n m) (g:SG) (T:Lp.Tab) (h4:Lp.qH n m (n+m+1) 1000 (eQ p n m) T) (hp:Lp.rc m (Lp.aZ n m) T (n+m)=0) (hS:SS bl g (snV (List.range m) (n+m) (n+m) m (Lp.aZ n m) T))
  (hK: ∀b' g',SS b' g' (snV (Lp.bE n (Lp.kicks n T m) m) n (n+m) m (wO (pC p)) (Lp.kicks n T m))→(∀x,x∈g'.all→bl x=none)→(∀x y,bl x=some y→x∉g.all→b' x=some y)→K (.loc g'.T 4 0 0) b'):
  bY Tryz.prog 201 [.agg p.v,.loc g.T 4 0 0] bl K:=by
 have hml:=h.ml
 have hnl:=h.nl
 have hkk:=Lp.kC (h4.kY hp) (show n≤n+m+1 by omega)
 have hrl:(List.range m).length=m:=by simp
 obtain⟨N,hN⟩: ∃N,n+m=N:=⟨_,rfl⟩
 refine cJ Tryz.func201 rfl rfl (by rw[Tryz.ntmps201];simp) ?_
 rw[Tryz.ntmps201,Tryz.results201]
 refine aE ?_
 simp[Pg.v]
 intro g2 hg2 hb2
 refine cX 1 2 (.ptr p.v) bl (by intro z b hz;simp only[aC] at hz ⊢;grind) (by simp[frz,dropB,hb2,V.cl,Pg.v]) ?_
 have bT:bl g.T=some ⟨4,[[.int .i64 N,.lsl g.R 1 0 m,.lsl g.B 1 0 m,.lsl g.C 3 0 (N+1)]]⟩:=by
  have:=hS.hd
  simp only[snV,hrl] at this
  rw[←hN];exact this
 refine aO ?_
 refine aB ?_
 simp[bT]
 refine aG (fun q:aHX=> [(1,.loc g.T 4 0 0),(2,.ptr p.v),(18,.int .i64 m),(19,.int .i64 q.i)]) (fun q=>q.b) (fun q=>q.i≤m∧SS q.b g (snV (List.range m) (n+m) (n+m) m (Lp.aZ n m) (Lp.kicks n T q.i))∧ ∀x y,bl x=some y→x∉g.all→q.b x=some y) (fun q=>m - q.i) _ ⟨0,bl⟩ ⟨Nat.zero_le _,hS,fun _ _ hx _=>hx⟩ ⟨rfl,by simp[Pg.v],Sub.refl _⟩ ?_
 clear bT hS
 rintro⟨i,b⟩ ⟨hi,hSb,hfb⟩
 simp only at hi hSb hfb
 have wi:IntKind.i64.wrap ((i:Int)+1)=(i:Int)+1:=i64_in (by omega) (by omega)
 obtain⟨U,hU⟩: ∃U,Lp.kicks n T i=U:=⟨_,rfl⟩
 rw[hU] at hSb
 have hKi:=hkk i hi
 rw[hU] at hKi
 refine aE ?_
 simp
 refine aE ?_
 simp
 refine⟨fun him=> ?_,fun him=> ?_⟩
 ·have pJ:Lp.kicks n T (i+1)=Lp.kY n U i:=by rw[Lp.kicks,hU]
  have hKn:=hkk (i+1) (by omega)
  rw[pJ] at hKn
  refine aO (aX ?_)
  refine aE ?_
  simp
  refine aB ?_
  simp
  refine aG (fun q:aC3=> [(1,.loc g.T 4 0 0),(2,.ptr p.v),(18,.int .i64 m),(19,.int .i64 i),(5,.int .i64 i),(6,.int .i64 q.j)]) (fun q=>q.b) (fun q=>q.j≤n∧(∀x y,bl x=some y→x∉g.all→q.b x=some y)∧((q.d=false∧ ¬ U.bs i<n∧(∀c,c<q.j→ ¬ U.X i c≠0)∧SS q.b g (snV (List.range m) (n+m) (n+m) m (Lp.aZ n m) U))∨(q.d=true∧(Lp.kY n U i).bs i<n∧SS q.b g (snV (List.range m) (n+m) (n+m) m (Lp.aZ n m) (Lp.kY n U i))))) (fun q=>n - q.j) _ ⟨0,decide (U.bs i<n),b⟩ ⟨Nat.zero_le _,hfb,?_⟩ ⟨rfl,by simp[Pg.v],Sub.refl _⟩ ?_
  ·by_cases e:U.bs i<n
   ·have ek:Lp.kY n U i=U:=by unfold Lp.kY;rw[if_pos e]
    exact .inr ⟨by simp[e],by rw[ek];exact e,by rw[ek];exact hSb⟩
   ·exact .inl ⟨by simp[e],e,fun c hc=>by simp only at hc;omega,hSb⟩
  clear hSb hfb
  rintro⟨j,d,b⟩ ⟨hj,hfb,hst⟩
  simp only at hj hfb hst
  have wj:IntKind.i64.wrap ((j:Int)+1)=(j:Int)+1:=i64_in (by omega) (by omega)
  rcases hst with ⟨rfl,hnb,bH,hSb⟩| ⟨rfl,hkb,hSb⟩
  ·have bT:b g.T=some ⟨4,[[.int .i64 N,.lsl g.R 1 0 m,.lsl g.B 1 0 m,.lsl g.C 3 0 (N+1)]]⟩:=by
    have:=hSb.hd
    simp only[snV,hrl] at this
    rw[←hN];exact this
   have bB:b g.B=some ⟨1,iv (lb m fun q=>U.bs (atR (List.range m) q))⟩:=by
    have:=hSb.ba
    simp only[snV,hrl] at this
    exact this
   have Z7:(i:Int)<m:=by omega
   have hge:n≤U.bs i:=by omega
   refine aO (aO ?_)
   refine tT aM (by kernel_rfl) [(1,.loc g.T 4 0 0),(2,.ptr p.v),(18,.int .i64 m),(19,.int .i64 i),(5,.int .i64 i),(6,.int .i64 j)] _ b 37 (.bool (decide (j<n))) ⟨rfl,by simp[Pg.v],Sub.refl _⟩ rfl ?_ ?_
   ·simp[Pg.v,h.aS]
    by_cases e:j<n
    ·simp[e,bT,bB,him,Z7,dE him,hge]
    ·simp[e]
   simp
   refine aB ?_
   simp
   refine⟨fun hjn=> ?_,fun hjn=> ?_⟩
   ·have hRt:SG.mk g.T g.R g.B g.C g.ids=g:=rfl
    obtain⟨gi,hgi,yD,yH,mU⟩:=hSb.at i (show i<(List.range m).length by rw[hrl];exact him)
    obtain⟨zr,hzr⟩: ∃zr,(snV (List.range m) (n+m) (n+m) m (Lp.aZ n m) U).Z i=zr:=⟨_,rfl⟩
    have aI1:b gi=some ⟨3,rqs (N+1) zr⟩:=by rw[mU,←hzr,←hN];rfl
    have bR:b g.R=some ⟨1,g.ids.map fun x=> [.lsl x 3 0 (N+1)]⟩:=by
     have:=hSb.top
     simp only[snV] at this
     rw[←hN];exact this
    have hil:g.ids.length=m:=by have:=hSb.len;simp only[snV,hrl] at this;exact this
    have hgj: ∀h,g.ids[i]'h=gi:=fun h=>by rw[List.getElem?_eq_getElem h] at hgi;exact Option.some.inj hgi
    have hjN:j<N+1:=by omega
    have aUW:(j:Int)<(N:Int)+1:=by omega
    have hzj:zr j=U.X i j:=by
     rw[←hzr]
     show U.X (atR (List.range m) i) (if j<n+m then j else n+m)=_
     rw[dE him,if_pos (by omega)]
    have htm:=Z5 hml hnl (Nat.le_refl (n+m)) (lY m) (fun c _=>uV n m c) hKi.z
    have hfz:fits (U.X i j):=by
     have:=htm.z i j (show i<(List.range m).length by rw[hrl];exact him) (show j<n+m+1 by omega)
     rw[hzr,hzj] at this
     exact cE this
    have l3: ∀q:Rat,(rq q).c.length=3:=fun _=>rfl
    have t3: ∀q:Rat,(rq q).c.take 3=(rq q).c:=fun _=>rfl
    refine aO (aX ?_)
    refine aO ?_
    refine aB ?_
    simp[bT,bR,him,Z7,hil,hgj,aI1,hjN,aUW,hzj,l3,t3]
    refine aD (gK hfz) ?_
    simp
    by_cases hz:U.X i j=0
    ·refine aB ?_
     simp[hz]
     refine aB ?_
     simp[wj,aA]
     refine⟨⟨j+1,false,b⟩,⟨by simp only;omega,hfb,.inl ⟨rfl,hge,fun c hc=> ?_,hSb⟩⟩,by simp only;omega,rfl,by simp[Pg.v],Sub.refl _⟩
     by_cases e:c=j
     ·rw[e];exact hz
     ·exact Classical.not_not.1 (bH c (by simp only at hc;omega))
    ·have ek:Lp.kY n U i=Lp.piv U i j:=by unfold Lp.kY;rw[if_neg hnb,Lp.dD.2 ⟨hjn,hz,bH⟩]
     have hat:=dE him
     obtain⟨p1,p2,p3⟩:=Gv (n0:=n) (n:=n+m) (w0:=Lp.aZ n m) (T:=U) (lY m) (pr:=i) (k:=j) (by rw[hrl];exact him) (by omega) (by rw[hat];exact hz)
     rw[hat] at p1 p2 p3
     have aAH:=Z5 hml hnl (Nat.le_refl (n+m)) (lY m) (fun c _=>uV n m c) hKn.z
     rw[ek] at aAH
     refine aB ?_
     simp[hz]
     refine wW g (snV (List.range m) (n+m) (n+m) m (Lp.aZ n m) U) i j hSb (show i<(List.range m).length by rw[hrl];exact him) (show j<n+m+1 by omega) htm (by rw[hzr,hzj];exact hz) ⟨fun a c ha hc=> ?_,fun c hc=> ?_,htm.w,htm.r⟩ fun b' hS' hx'=> ?_
     ·show oO (zpv _ i j a c)
      rw[p1 a c ha];exact aAH.z a c ha hc
     ·show oO (cpv _ _ i j c)
      rw[p2 c];exact aAH.co c hc
     simp
     refine aB ?_
     simp[wj,aA]
     refine⟨⟨j+1,true,b'⟩,⟨by simp only;omega,fun x y g1 g2=>hx' x y (hfb x y g1 g2) g2,.inr ⟨rfl,by rw[ek,Lp.dK];exact hjn,?_⟩⟩,by simp only;omega,rfl,by simp[Pg.v],Sub.refl _⟩
     rw[ek]
     exact hS'.congr (fun q c hq _=>p1 q c hq) (fun c _=>p2 c) (fun q hq=>p3 q hq)
   ·have hje:j=n:=by omega
    have ek:Lp.kY n U i=U:=by
     unfold Lp.kY
     rw[if_neg hnb,Lp.eP.2 fun c hc=>bH c (by omega)]
    refine aB ?_
    simp[wi,aA]
    refine⟨⟨i+1,b⟩,⟨by simp only;omega,by simp only;rw[pJ,ek];exact hSb,hfb⟩,by simp only;omega,rfl,by simp[Pg.v],Sub.refl _⟩
  ·have bT:b g.T=some ⟨4,[[.int .i64 N,.lsl g.R 1 0 m,.lsl g.B 1 0 m,.lsl g.C 3 0 (N+1)]]⟩:=by
    have:=hSb.hd
    simp only[snV,hrl] at this
    rw[←hN];exact this
   have bB:b g.B=some ⟨1,iv (lb m fun q=>(Lp.kY n U i).bs (atR (List.range m) q))⟩:=by
    have:=hSb.ba
    simp only[snV,hrl] at this
    exact this
   have Z7:(i:Int)<m:=by omega
   have hlt: ¬ n≤(Lp.kY n U i).bs i:=by omega
   refine aO (aO ?_)
   refine tT aM (by kernel_rfl) [(1,.loc g.T 4 0 0),(2,.ptr p.v),(18,.int .i64 m),(19,.int .i64 i),(5,.int .i64 i),(6,.int .i64 j)] _ b 37 (.bool false) ⟨rfl,by simp[Pg.v],Sub.refl _⟩ rfl ?_ ?_
   ·simp[Pg.v,h.aS]
    by_cases e:j<n
    ·simp[e,bT,bB,him,Z7,dE him,hlt]
     try omega
    ·simp[e]
   simp
   refine aB ?_
   simp
   refine aB ?_
   simp[wi,aA]
   refine⟨⟨i+1,b⟩,⟨by simp only;omega,by simp only;rw[pJ];exact hSb,hfb⟩,by simp only;omega,rfl,by simp[Pg.v],Sub.refl _⟩
 ·have hie:i=m:=by omega
  subst hie
  clear him hi wi
  obtain⟨rows,rQ⟩: ∃rows,Lp.bE n (Lp.kicks n T i) i=rows:=⟨_,rfl⟩
  rw[rQ] at hK
  rw[hU] at hK rQ
  have mQ:=wH n i U
  have hRl:(List.range i).length=i:=hrl
  have hin: ∀x,x∈g.all→ ∃y,b x=some y:=fun x hx=>by
   simp only[SG.all,List.mem_cons] at hx
   rcases hx with rfl | rfl | rfl | rfl | hx
   ·exact⟨_,hSb.hd⟩
   ·exact⟨_,hSb.top⟩
   ·exact⟨_,hSb.ba⟩
   ·exact⟨_,hSb.cst⟩
   ·obtain⟨q,hq⟩:=List.mem_iff_getElem?.1 hx
    exact⟨_,hSb.row q x hq⟩
  have frB: ∀x,b x=none→bl x=none:=fun x hx=>by
   cases hv:bl x with
   | none => rfl
   | some y =>
     by_cases e:x∈g.all
     ·obtain⟨z,hz⟩:=hin x e
      rw[hx] at hz;cases hz
     ·have:=hfb x y hv e
      rw[hx] at this;cases this
  have bT0:b g.T=some ⟨4,[[.int .i64 N,.lsl g.R 1 0 i,.lsl g.B 1 0 i,.lsl g.C 3 0 (N+1)]]⟩:=by
   have:=hSb.hd
   simp only[snV,hrl] at this
   rw[←hN];exact this
  have bR0:b g.R=some ⟨1,g.ids.map fun x=> [.lsl x 3 0 (N+1)]⟩:=by
   have:=hSb.top
   simp only[snV] at this
   rw[←hN];exact this
  have bB0:b g.B=some ⟨1,iv (lb i fun q=>U.bs (atR (List.range i) q))⟩:=by
   have:=hSb.ba
   simp only[snV,hrl] at this
   exact this
  have hil:g.ids.length=i:=by have:=hSb.len;simp only[snV,hrl] at this;exact this
  have aUM: ∀q x,g.ids[q]? =some x→b x=some ⟨3,rqs (N+1) fun c=>U.X q (if c<N then c else N)⟩:=fun q x hq=>by
   have hqi:q<i:=by rw[←hil];exact(List.getElem?_eq_some_iff.1 hq).1
   rw[hSb.row q x hq]
   simp only[snV]
   rw[hN,dE hqi]
  obtain⟨w,hw⟩: ∃w,wO (pC p)=w:=⟨_,rfl⟩
  rw[hw] at hK
  have hwi: ∀c,w c=((pC p c:Int):Rat):=fun c=>by rw[←hw];rfl
  have hpc: ∀c,(pC p c).natAbs≤1000:=fun c=>jE h.cm c
  refine aE ?_
  simp[Pg.v,h.aS]
  intro gT hgT hbT
  refine fG [(1,.loc g.T 4 0 0),(2,.ptr p.v),(7,.loc gT 4 0 0)] 179 (upd b gT (some ⟨4,[[.int .i64 n,.nils,.nils,.nils]]⟩)) ⟨rfl,by simp[Pg.v,h.aS],sub_eq (by simp)⟩ ?_
  refine cQ (g:=gT) (s:=4) (els:= [[.int .i64 n,.nils,.nils,.nils]]) 0 1 1 (by simp) rfl rfl fun gR hgR hRT=> ?_
  simp[hRT] at hgR
  refine cQ (g:=gT) (s:=4) (els:= [[.int .i64 n,.lsl gR 1 0 0,.nils,.nils]]) 0 2 1 (by simp[Ne.symm hRT]) rfl rfl fun gB hgB hBT=> ?_
  simp[hBT] at hgB
  obtain⟨hBR,hgB⟩:=hgB
  refine cQ (g:=gT) (s:=4) (els:= [[.int .i64 n,.lsl gR 1 0 0,.lsl gB 1 0 0,.nils]]) 0 3 3 (by simp[Ne.symm hBT]) rfl rfl fun gC hgC hCT=> ?_
  simp[hCT] at hgC
  obtain⟨hCB,hCR,hgC⟩:=hgC
  obtain⟨b1,hb1⟩: ∃b1,b1=upd (upd (upd (upd (upd (upd (upd b gT (some ⟨4,[[.int .i64 n,.nils,.nils,.nils]]⟩)) gT (some ⟨4,[[.int .i64 n,.lsl gR 1 0 0,.nils,.nils]]⟩)) gR (some ⟨1,[]⟩)) gT (some ⟨4,[[.int .i64 n,.lsl gR 1 0 0,.lsl gB 1 0 0,.nils]]⟩)) gB (some ⟨1,[]⟩)) gT (some ⟨4,[[.int .i64 n,.lsl gR 1 0 0,.lsl gB 1 0 0,.lsl gC 3 0 0]]⟩)) gC (some ⟨3,[]⟩):=⟨_,rfl⟩
  have b1T:b1 gT=some ⟨4,[[.int .i64 n,.lsl gR 1 0 0,.lsl gB 1 0 0,.lsl gC 3 0 0]]⟩:=by rw[hb1];simp[Ne.symm hCT]
  have b1R:b1 gR=some ⟨1,[]⟩:=by rw[hb1];simp[Ne.symm hCR,hRT,Ne.symm hBR]
  have b1B:b1 gB=some ⟨1,[]⟩:=by rw[hb1];simp[Ne.symm hCB,hBT]
  have b1C:b1 gC=some ⟨3,rqs 0 w⟩:=by rw[hb1];simp[rqs]
  have s1:Sub b b1:=fun x y hx=>by
   have x1:x≠gT:=fun e=>by rw[e,hbT] at hx;cases hx
   have x2:x≠gR:=fun e=>by rw[e,hgR] at hx;cases hx
   have x3:x≠gB:=fun e=>by rw[e,hgB] at hx;cases hx
   have x4:x≠gC:=fun e=>by rw[e,hgC] at hx;cases hx
   rw[hb1];simp[x1,x2,x3,x4,hx]
  refine fG [(1,.loc g.T 4 0 0),(2,.ptr p.v),(7,.loc gT 4 0 0)] 179 b1 ⟨rfl,by simp,by rw[hb1];exact sub_eq (by simp)⟩ ?_
  clear hb1
  refine aO ?_
  refine aB ?_
  simp
  refine aG (fun q:Pc=> [(1,.loc g.T 4 0 0),(2,.ptr p.v),(7,.loc gT 4 0 0),(8,.int .i64 q.j)]) (fun q=>q.b) (fun q=>q.j≤n∧q.b gT=some ⟨4,[[.int .i64 n,.lsl gR 1 0 0,.lsl gB 1 0 0,.lsl q.gC 3 0 q.j]]⟩∧q.b gR=some ⟨1,[]⟩∧q.b gB=some ⟨1,[]⟩∧q.b q.gC=some ⟨3,rqs q.j w⟩∧(q.gC≠gT∧q.gC≠gR∧q.gC≠gB∧b q.gC=none)∧Sub b q.b) (fun q=>n - q.j) _ ⟨0,gC,b1⟩ ⟨Nat.zero_le _,b1T,b1R,b1B,b1C,⟨hCT,hCR,hCB,hgC⟩,s1⟩ ⟨rfl,by simp,Sub.refl _⟩ ?_
  clear s1 b1T b1R b1B b1C hgC hCB hCR hCT
  rintro⟨j,gC,c⟩ ⟨hj,cT,cR,cB,cC,⟨nCT,nCR,nCB,cbl⟩,hsb⟩
  simp only at hj cT cR cB cC nCT nCR nCB cbl hsb
  have wj:IntKind.i64.wrap ((j:Int)+1)=(j:Int)+1:=i64_in (by omega) (by omega)
  refine aO ?_
  refine aB ?_
  simp[Pg.v,h.aS]
  refine⟨fun hjn=> ?_,fun hjn=> ?_⟩
  ·refine aO (aX ?_)
   have hR0:=dP (pC p j) (by have:=hpc j;omega)
   rw[←hwi] at hR0
   refine eR aM (rem c gC) (eH c gC) [0,1,2,3,4,5,6,7,8,9,10] 5 15 (by kernel_rfl) ?_
   simp[Ne.symm nCT,cT,Pg.v,h.c,hjn]
   refine aN hR0 ?_
   simp
   refine Dq 11 false ?_
   simp[RT.c]
   intro g4 hg4 hb4
   have n4T:g4≠gT:=fun e=>by rw[e,cT] at hb4;cases hb4
   have n4R:g4≠gR:=fun e=>by rw[e,cR] at hb4;cases hb4
   have n4B:g4≠gB:=fun e=>by rw[e,cB] at hb4;cases hb4
   have n4C:g4≠gC:=fun e=>by rw[e,cC] at hb4;cases hb4
   have wY: ∀X,Sub (rem c gC) (upd c g4 X):=fun X z y hz=>by
    rw[aF] at hz
    rw[aC]
    grind
   refine⟨wY _,Dq 12 false ?_⟩
   have tkC:(rqs j w).take j=rqs j w:=List.take_of_length_le (by simp)
   simp[n4C,Ne.symm n4C,appV,elsV,Int.not_lt.2 hg4,cC,tkC]
   have hsn:rqs j w++ [[V.bool (rq (w j)).neg,.sl (iv (rq (w j)).m),.sl (iv (rq (w j)).d)]]=rqs (j+1) w:=by rw[kJ];rfl
   rw[hsn]
   refine⟨by omega,fun gN hgN hbN=> ?_⟩
   have nN:gN≠gT∧gN≠gR∧gN≠gB∧gN≠g4:=by
    by_cases e:gN=gC
    ·subst e
     exact⟨nCT,nCR,nCB,Ne.symm n4C⟩
    ·obtain⟨q1,q2⟩:=hbN e
     exact⟨fun e=>(by rw[e,cT] at q2;cases q2),fun e=>(by rw[e,cR] at q2;cases q2),fun e=>(by rw[e,cB] at q2;cases q2),q1⟩
   obtain⟨nNT,nNR,nNB,nN4⟩:=nN
   have blN:b gN=none:=by
    by_cases e:gN=gC
    ·rw[e];exact cbl
    ·cases hv:b gN with
     | none => rfl
     | some y => have := hsb gN y hv; rw [(hbN e).2] at this; cases this
   have jG: ∀X Y,Sub (rem c gC) (upd (rem (upd c g4 X) gC) gN Y):=fun X Y z y hz=>by
    rw[aF] at hz
    rw[aC,aF,aC]
    grind
   have mK: ∀X Y Z,Sub (upd (upd (rem c gC) gN Y) gT Z) (upd (upd (rem (upd c g4 X) gC) gN Y) gT Z):=fun X Y Z z y hz=>by
    simp only[aC,aF] at hz ⊢
    grind
   refine⟨jG _ _,Dq 13 false ?_⟩
   simp
   refine⟨jG _ _,Dq 14 false ?_⟩
   simp
   refine⟨jG _ _,Dq 15 true ?_⟩
   simp[Ne.symm nNT,Ne.symm nCT,n4T,Ne.symm n4T,cT]
   refine Dd ?_
   simp
   refine aB ?_
   simp[wj,aA]
   obtain⟨b2,hb2⟩: ∃b2,b2=upd (upd (rem c gC) gN (some ⟨3,rqs (j+1) w⟩)) gT (some ⟨4,[[.int .i64 n,.lsl gR 1 0 0,.lsl gB 1 0 0,.lsl gN 3 0 (j+1)]]⟩):=⟨_,rfl⟩
   refine⟨⟨j+1,gN,b2⟩,⟨by simp only;omega,by rw[hb2];simp,by rw[hb2];simp[hRT,Ne.symm nNR,Ne.symm nCR,cR],by rw[hb2];simp[hBT,Ne.symm nNB,Ne.symm nCB,cB],by rw[hb2];simp[nNT],⟨nNT,nNR,nNB,blN⟩,fun x y hx=> ?_⟩,by simp only;omega,rfl,by simp[Pg.v,h.aS,h.c],by rw[hb2];exact mK _ _ _⟩
   have x1:x≠gT:=fun e=>by rw[e,hbT] at hx;cases hx
   have x2:x≠gN:=fun e=>by rw[e,blN] at hx;cases hx
   have x3:x≠gC:=fun e=>by rw[e,cbl] at hx;cases hx
   simp only
   rw[hb2];simp[x1,x2,x3];exact hsb x y hx
  have Pj:j=n:=by omega
  subst Pj
  have hwN:w (j+i)=0:=by
   rw[hwi,show pC p (j+i)=0 by unfold pC;rw[List.getD_eq_getElem?_getD,List.getElem?_eq_none (by have:=h.cl;omega)];rfl];rfl
  obtain⟨ph,hph⟩: ∃ph:Nat→Nat,ph=fun c=>if c<j then c else j+i:=⟨_,rfl⟩
  have hpl: ∀c,c<j→ph c=c:=fun c hc=>by rw[hph];simp only;rw[if_pos hc]
  have hpn:ph j=j+i:=by rw[hph];simp only;rw[if_neg (by omega)]
  have hR0:=dP 0 (by decide)
  rw[show(((0:Int):Rat))=w (ph j) by rw[hpn,hwN];rfl] at hR0
  refine aO ?_
  refine eR aM (rem c gC) (eH c gC) [0,1,2,3,4,5] 5 10 (by kernel_rfl) ?_
  simp[Ne.symm nCT,cT]
  refine aN hR0 ?_
  simp
  refine Dq 6 false ?_
  simp[RT.c]
  intro g4 hg4 hb4
  have n4T:g4≠gT:=fun e=>by rw[e,cT] at hb4;cases hb4
  have n4R:g4≠gR:=fun e=>by rw[e,cR] at hb4;cases hb4
  have n4B:g4≠gB:=fun e=>by rw[e,cB] at hb4;cases hb4
  have n4C:g4≠gC:=fun e=>by rw[e,cC] at hb4;cases hb4
  have wY: ∀X,Sub (rem c gC) (upd c g4 X):=fun X z y hz=>by
   rw[aF] at hz
   rw[aC]
   grind
  refine⟨wY _,Dq 7 false ?_⟩
  have tkC:(rqs j w).take j=rqs j w:=List.take_of_length_le (by simp)
  simp[n4C,Ne.symm n4C,appV,elsV,Int.not_lt.2 hg4,cC,tkC]
  obtain⟨j1,hj1⟩: ∃j1,j+1=j1:=⟨_,rfl⟩
  have hsn:rqs j w++ [[V.bool (rq (w (ph j))).neg,.sl (iv (rq (w (ph j))).m),.sl (iv (rq (w (ph j))).d)]]=rqs j1 fun c=>w (ph c):=by
   rw[←hj1,kJ,bN (f:=fun c=>w (ph c)) (g:=w) fun c hc=>by rw[hpl c hc]];rfl
  rw[hsn,hj1]
  refine⟨by omega,fun gN hgN hbN=> ?_⟩
  have nN:gN≠gT∧gN≠gR∧gN≠gB∧gN≠g4:=by
   by_cases e:gN=gC
   ·subst e
    exact⟨nCT,nCR,nCB,Ne.symm n4C⟩
   ·obtain⟨q1,q2⟩:=hbN e
    exact⟨fun e=>(by rw[e,cT] at q2;cases q2),fun e=>(by rw[e,cR] at q2;cases q2),fun e=>(by rw[e,cB] at q2;cases q2),q1⟩
  obtain⟨nNT,nNR,nNB,nN4⟩:=nN
  have blN:b gN=none:=by
   by_cases e:gN=gC
   ·rw[e];exact cbl
   ·cases hv:b gN with
    | none => rfl
    | some y => have := hsb gN y hv; rw [(hbN e).2] at this; cases this
  have jG: ∀X Y,Sub (rem c gC) (upd (rem (upd c g4 X) gC) gN Y):=fun X Y z y hz=>by
   rw[aF] at hz
   rw[aC,aF,aC]
   grind
  have mK: ∀X Y Z,Sub (upd (upd (rem c gC) gN Y) gT Z) (upd (upd (rem (upd c g4 X) gC) gN Y) gT Z):=fun X Y Z z y hz=>by
   simp only[aC,aF] at hz ⊢
   grind
  refine⟨jG _ _,Dq 8 false ?_⟩
  simp
  refine⟨jG _ _,Dq 9 false ?_⟩
  simp
  refine⟨jG _ _,Dq 10 true ?_⟩
  simp[Ne.symm nNT,Ne.symm nCT,n4T,Ne.symm n4T,cT]
  refine Dd ?_
  simp
  obtain⟨b2,hb2⟩: ∃b2,b2=upd (upd (rem c gC) gN (some ⟨3,rqs j1 fun c=>w (ph c)⟩)) gT (some ⟨4,[[.int .i64 j,.lsl gR 1 0 0,.lsl gB 1 0 0,.lsl gN 3 0 j1]]⟩):=⟨_,rfl⟩
  have hS2:SS b2 ⟨gT,gR,gB,gN,[]⟩ ⟨0,j1,j,fun q c=>U.X (atR [] q) (ph c),fun c=>w (ph c),fun q=>U.bs (atR [] q)⟩:=by
   refine⟨rfl,by rw[hb2];simp[hRT,Ne.symm nNR,Ne.symm nCR,cR],fun q x hx=>(by cases hx),fun x hx=>(by cases hx),by rw[hb2];simp,by rw[hb2];simp[hBT,Ne.symm nNB,Ne.symm nCB,cB,lb,iv],by rw[hb2];simp[nNT],hgT,fun _=>rfl,fun _=>rfl,hgN,?_⟩
   simp[SG.all];grind
  have s2:Sub b b2:=fun x y hx=>by
   have x1:x≠gT:=fun e=>by rw[e,hbT] at hx;cases hx
   have x2:x≠gN:=fun e=>by rw[e,blN] at hx;cases hx
   have x3:x≠gC:=fun e=>by rw[e,cbl] at hx;cases hx
   rw[hb2];simp[x1,x2,x3];exact hsb x y hx
  have aKI: ∀x,x∈SG.all ⟨gT,gR,gB,gN,[]⟩→b x=none:=by simp[SG.all,hbT,hgR,hgB,blN]
  refine fG [(1,.loc g.T 4 0 0),(2,.ptr p.v),(7,.loc gT 4 0 0)] 179 b2 ⟨rfl,by simp[Pg.v,h.aS],by rw[hb2];exact mK _ _ _⟩ ?_
  clear hb2 mK jG hsn tkC wY hsb cbl nCB nCR nCT cC cB cR cT wj hj hbN blN
  have aLD:b2 g.T=_:=s2 _ _ bT0
  refine aO ?_
  refine aB ?_
  simp[aLD]
  refine aG (fun q:Sy=> [(1,.loc g.T 4 0 0),(2,.ptr p.v),(7,.loc gT 4 0 0),(95,.lsl g.R 1 0 i),(96,.int .i64 i),(97,.int .i64 q.i)]) (fun q=>q.b) (fun q=>q.i≤i∧SS q.b q.g ⟨(Lp.bE j U q.i).length,j1,j,fun z c=>U.X (atR (Lp.bE j U q.i) z) (ph c),fun c=>w (ph c),fun z=>U.bs (atR (Lp.bE j U q.i) z)⟩∧q.g.T=gT∧(∀x,x∈q.g.all→b x=none)∧Sub b q.b) (fun q=>i - q.i) _ ⟨0,⟨gT,gR,gB,gN,[]⟩,b2⟩ ⟨Nat.zero_le _,hS2,rfl,aKI,s2⟩ ⟨rfl,by simp[Pg.v,h.aS],Sub.refl _⟩ ?_
  clear hS2 aKI s2 aLD
  clear hg4 n4T n4R n4B n4C nNT nNR nNB nN4
  rintro⟨r,⟨gT',gR',gB',gC',ids⟩,b'⟩ ⟨hri,hS,e1,hal,hsb⟩
  simp only at hri hS e1 hsb
  subst e1
  have hal: ∀x,x∈SG.all ⟨gT',gR',gB',gC',ids⟩→b x=none:=hal
  have wr:IntKind.i64.wrap ((r:Int)+1)=(r:Int)+1:=i64_in (by omega) (by omega)
  have b'T:b' g.T=_:=hsb _ _ bT0
  have b'R:b' g.R=_:=hsb _ _ bR0
  have b'B:b' g.B=_:=hsb _ _ bB0
  refine aE ?_
  simp
  refine aE ?_
  simp
  refine⟨fun him=> ?_,fun him=> ?_⟩
  ·refine aO (aX ?_)
   have Z7:(r:Int)<i:=by omega
   obtain⟨gi,hgi⟩: ∃gi,g.ids[r]? =some gi:=⟨_,List.getElem?_eq_getElem (show r<g.ids.length by omega)⟩
   have hgj: ∀h,g.ids[r]'h=gi:=fun h=>by rw[List.getElem?_eq_getElem h] at hgi;exact Option.some.inj hgi
   have mU:=aUM r gi hgi
   have yH:0≤gi:=hSb.pos gi (List.mem_of_getElem? hgi)
   have b'i:b' gi=_:=hsb _ _ mU
   refine aE ?_
   simp[b'R,him,Z7,hil,hgj]
   refine aO ?_
   refine bU aM (by kernel_rfl) ?_
   simp[b'T,b'B,Pg.v,h.aS,him,Z7,dE him]
   obtain⟨L,hL⟩: ∃L,Lp.bE j U r=L:=⟨_,rfl⟩
   have hls:=vP j r U
   rw[hL] at hS hls
   refine aB ?_
   simp
   refine⟨fun J8=> ?_,fun Yl=> ?_⟩
   ·have aC7:U.bs r<j:=by omega
    rw[if_pos aC7] at hls
    have aWZ: ∀x,x∈SG.all ⟨gT',gR',gB',gC',ids⟩→ ∃y,b' x=some y:=fun x hx=>by
     simp only[SG.all,List.mem_cons] at hx
     rcases hx with rfl | rfl | rfl | rfl | hx
     ·exact⟨_,hS.hd⟩
     ·exact⟨_,hS.top⟩
     ·exact⟨_,hS.ba⟩
     ·exact⟨_,hS.cst⟩
     ·obtain⟨q,hq⟩:=List.mem_iff_getElem?.1 hx
      exact⟨_,hS.row q x hq⟩
    intro g5 hg5 hb5
    have n5i:g5≠gi:=fun e=>by rw[e,b'i] at hb5;cases hb5
    have hjN: ¬ (N:Int)+1<j:=by omega
    have aH6:j≤N+1:=by omega
    have aT3:(j:Int)≤(N:Int)+1:=by omega
    have tkw:(rqs (N+1) fun c=>U.X r (if c<N then c else N)).take j=rqs j fun c=>U.X r c:=Ri aH6 fun c hc=>by rw[if_pos (by omega)]
    simp[Pg.v,h.aS,sliV,appV,elsV,n5i,Ne.symm n5i,b'i,Int.not_lt.2 hg5,hjN,aH6,aT3,tkw,yH,Int.not_lt.2 yH]
    refine⟨by omega,fun gw hgw hbw=> ?_⟩
    have bw:b' gw=none:=by
     by_cases e:gw=g5
     ·rw[e];exact hb5
     ·exact(hbw e).2
    obtain⟨l,hl⟩: ∃l,L.length=l:=⟨_,rfl⟩
    rw[hl] at hS
    obtain⟨bx,hbx⟩: ∃bx,bx=upd b' gw (some ⟨3,rqs j fun c=>U.X r c⟩):=⟨_,rfl⟩
    refine fG [(1,.loc g.T 4 0 0),(2,.ptr p.v),(7,.loc gT' 4 0 0),(95,.lsl g.R 1 0 i),(96,.int .i64 i),(97,.int .i64 r),(9,.int .i64 r),(10,.lsl gi 3 0 (N+1)),(11,.lsl gw 3 0 j)] 179 bx ⟨rfl,by simp[Pg.v,h.aS],?_⟩ ?_
    ·rw[hbx]
     intro z y hz
     simp only[aC,aF] at hz ⊢
     grind
    clear hbw hgj hgi
    have W8: ∀x y,b' x=some y→x≠gw:=fun x y hx e=>by rw[e,bw] at hx;cases hx
    have old: ∀x y,b x=some y→x≠gT'∧x≠gR'∧x≠gB'∧x≠gC':=fun x y hx=>
     ⟨fun e=>(by rw[e,hal gT' (by simp[SG.all])] at hx;cases hx),fun e=>(by rw[e,hal gR' (by simp[SG.all])] at hx;cases hx),fun e=>(by rw[e,hal gB' (by simp[SG.all])] at hx;cases hx),fun e=>(by rw[e,hal gC' (by simp[SG.all])] at hx;cases hx)⟩
    obtain⟨oTT,oTR,oTB,oTC⟩:=old _ _ bT0
    obtain⟨oBT,oBR,oBB,oBC⟩:=old _ _ bB0
    obtain⟨iT,iR,iB,iC⟩:=old _ _ mU
    have nd:=hS.nd
    simp only[SG.all,List.nodup_cons,List.mem_cons,not_or] at nd
    obtain⟨⟨nTR,nTB,nTC,nTi⟩,⟨nRB,nRC,nRi⟩,⟨nBC,nBi⟩,nCi,nds⟩:=nd
    have La:=hS.len
    have D4:b' gT'=_:=hS.hd
    have T6:b' gR'=_:=hS.top
    have I6:b' gB'=_:=hS.ba
    simp only at La D4 T6 I6
    have wT:=W8 _ _ D4
    have wR:=W8 _ _ T6
    have wB:=W8 _ _ I6
    have wC:=W8 _ _ hS.cst
    simp only at wC
    have wT0:=W8 _ _ b'T
    have wi:=W8 _ _ b'i
    have wB0:=W8 _ _ b'B
    have wI:gw∉ids:=fun e=>by
     obtain⟨q,hq⟩:=List.mem_iff_getElem?.1 e
     exact W8 _ _ (hS.row q gw hq) rfl
    have xx: ∀x,x≠gw→bx x=b' x:=fun x hx=>by rw[hbx,aK _ _ _ _ hx]
    have xT:bx g.T=_:=(xx _ wT0).trans b'T
    have xi:bx gi=_:=(xx _ wi).trans b'i
    have xB:bx g.B=_:=(xx _ wB0).trans b'B
    have xT':bx gT'=_:=(xx _ wT).trans D4
    have xR':bx gR'=_:=(xx _ wR).trans T6
    have xB':bx gB'=_:=(xx _ wB).trans I6
    have xw:bx gw=some ⟨3,rqs j fun c=>U.X r c⟩:=by rw[hbx];simp
    clear hbx
    have aKB: ∀x,bx x=none→x≠gT'∧x≠gR'∧x≠gB'∧x≠gC'∧x≠gw∧x∉ids∧x≠g.T∧x≠g.B∧x≠gi∧b' x=none:=fun x hx=>by
     have q0:x≠gw:=fun e=>by rw[e,xw] at hx;cases hx
     have q1:b' x=none:=by rw[←xx x q0];exact hx
     have nx: ∀y,b' y≠none→x≠y:=fun y hy e=>hy (e▸q1)
     refine⟨nx _ (by rw[D4];simp),nx _ (by rw[T6];simp),nx _ (by rw[I6];simp),nx _ (by rw[show b' gC'=_ from hS.cst];simp),q0,fun e=> ?_,nx _ (by rw[b'T];simp),nx _ (by rw[b'B];simp),nx _ (by rw[b'i];simp),q1⟩
     obtain⟨q,hq⟩:=List.mem_iff_getElem?.1 e
     rw[hS.row q x hq] at q1;cases q1
    refine eR aM (rem (rem bx gw) gR') (fun x y hx=>eH bx gw x y (eH _ gR' x y hx)) [0,1,2,3,4,5,6,7,8,9,10,11,12] 7 19 (by kernel_rfl) ?_
    have l3: ∀q:Rat,(rq q).c.length=3:=fun _=>rfl
    have t3: ∀q:Rat,(rq q).c.take 3=(rq q).c:=fun _=>rfl
    have hN1:(N:Int)<(N:Int)+1:=by omega
    simp[nTR,wT,oTR,wT0,iR,wi,xT,xT',xi,l3,t3,hN1]
    refine Dq 13 false ?_
    simp[RT.c]
    intro g4 hg4 hb4
    obtain⟨n4T,n4R,n4B,n4C,n4w,n4i,aWV,aW7,aW1,n4b⟩:=aKB g4 hb4
    refine⟨(by intro z y hz;simp only[aC,aF] at hz ⊢;grind),Dq 14 false ?_⟩
    have tkC:(rqs j fun c=>U.X r c).take j=rqs j fun c=>U.X r c:=List.take_of_length_le (by simp)
    simp[n4w,Ne.symm n4w,appV,elsV,Int.not_lt.2 hg4,xw,tkC]
    have hsn:(rqs j fun c=>U.X r c)++ [[V.bool (rq (U.X r N)).neg,.sl (iv (rq (U.X r N)).m),.sl (iv (rq (U.X r N)).d)]]=rqs j1 fun c=>U.X r (ph c):=by
     rw[←hj1,kJ,bN (f:=fun c=>U.X r (ph c)) (g:=fun c=>U.X r c) fun c hc=>by rw[hpl c hc],hpn,hN];rfl
    rw[hsn,hj1]
    refine⟨by omega,fun gN hgN hbN=> ?_⟩
    have nN:gN≠gT'∧gN≠gR'∧gN≠gB'∧gN≠gC'∧gN∉ids∧gN≠g4∧b' gN=none:=by
     by_cases e:gN=gw
     ·subst e
      exact⟨Ne.symm wT,Ne.symm wR,Ne.symm wB,Ne.symm wC,wI,Ne.symm n4w,bw⟩
     ·obtain⟨q1,q2⟩:=hbN e
      obtain⟨m1,m2,m3,m4,_,m6,_,_,_,m9⟩:=aKB gN q2
      exact⟨m1,m2,m3,m4,m6,q1,m9⟩
    obtain⟨nNT,nNR,nNB,nNC,nNi,nN4,nNb⟩:=nN
    obtain⟨y,hy⟩: ∃y,y=upd (rem (upd bx g4 (some { sz:=3,els:= [[V.bool (rq (U.X r N)).neg,V.sl (iv (rq (U.X r N)).m),V.sl (iv (rq (U.X r N)).d)]] })) gw) gN (some { sz:=3,els:=rqs j1 fun c=>U.X r (ph c) }):=⟨_,rfl⟩
    have yN:y gN=some ⟨3,rqs j1 fun c=>U.X r (ph c)⟩:=by rw[hy];simp
    have yx: ∀x,b' x≠none→x≠gN→y x=b' x:=fun x hx hn=>by
     have q1:x≠gw:=fun e=>hx (e▸bw)
     have q2:x≠g4:=fun e=>hx (e▸n4b)
     rw[hy,aK _ _ _ _ hn,aF,if_neg q1,aK _ _ _ _ q2,xx x q1]
    have yT':y gT'=_:=(yx _ (by rw[D4];simp) (Ne.symm nNT)).trans D4
    have yR':y gR'=_:=(yx _ (by rw[T6];simp) (Ne.symm nNR)).trans T6
    have yB':y gB'=_:=(yx _ (by rw[I6];simp) (Ne.symm nNB)).trans I6
    have Qb:Sub (rem (rem bx gw) gR') y:=by
     intro z v hz
     rw[hy]
     simp only[aC,aF] at hz ⊢
     by_cases e:gN=gw
     ·grind
     ·have:=hbN e
      grind
    rw[←hy]
    refine⟨Qb,Dq 15 false ?_⟩
    simp
    intro g6 hg6 hb6
    have n6:g6≠gT'∧g6≠gR'∧g6≠gB'∧g6≠gN:=⟨fun e=>(by rw[e,yT'] at hb6;cases hb6),fun e=>(by rw[e,yR'] at hb6;cases hb6),fun e=>(by rw[e,yB'] at hb6;cases hb6),fun e=>(by rw[e,yN] at hb6;cases hb6)⟩
    obtain⟨n6T,n6R,n6B,n6N⟩:=n6
    refine⟨fun z v hz=>(by rw[aK _ _ _ _ (fun e=>by rw[e] at hz;have:=Qb _ _ hz;rw[hb6] at this;cases this)];exact Qb z v hz),Dq 16 false ?_⟩
    have tk:(ids.map fun x=> [V.lsl x 3 0 j1]).take l=ids.map fun x=> [V.lsl x 3 0 j1]:=List.take_of_length_le (by simp[La])
    simp[n6R,Ne.symm n6R,appV,elsV,Int.not_lt.2 hg6,yR',tk,La]
    have hlr:l≤r:=by rw[←hl,←hL];exact Nat.le_trans (List.length_filter_le _ _) (by simp)
    have Iz: ∀x,y x=none→b' x=none:=fun x hx=>by
     cases hv:b' x with
     | none => rfl
     | some v =>
       by_cases e:x=gN
       ·rw[e,yN] at hx;cases hx
       ·rw[yx x (by rw[hv];simp) e,hv] at hx;cases hx
    refine⟨by omega,fun gQ hgQ hbQ=> ?_⟩
    have nQ:gQ≠gT'∧gQ≠gB'∧gQ≠gC'∧gQ≠gN∧gQ∉ids∧gQ≠g6∧(gQ=gR'∨b' gQ=none):=by
     by_cases e:gQ=gR'
     ·subst e
      exact⟨Ne.symm nTR,nRB,nRC,Ne.symm nNR,nRi,Ne.symm n6R,.inl rfl⟩
     ·obtain⟨q1,q2⟩:=hbQ e
      have q3:=Iz gQ q2
      have nx: ∀y,b' y≠none→gQ≠y:=fun y hy e=>hy (e▸q3)
      refine⟨nx _ (by rw[D4];simp),nx _ (by rw[I6];simp),nx _ (by rw[show b' gC'=_ from hS.cst];simp),fun e2=>(by rw[e2,yN] at q2;cases q2),fun e2=> ?_,q1,.inr q3⟩
      obtain⟨q,hq⟩:=List.mem_iff_getElem?.1 e2
      rw[hS.row q gQ hq] at q3;cases q3
    obtain⟨nQT,nQB,nQC,nQN,nQi,nQ6,nQb⟩:=nQ
    have Hv: ∀X Y,Sub (rem (rem bx gw) gR') (upd (rem (upd y g6 X) gR') gQ Y):=fun X Y z v hz=>by
     have h1:z≠gR':=fun e=>by rw[e,aF,if_pos rfl] at hz;cases hz
     have h2:=Qb z v hz
     have h3:z≠g6:=fun e=>by rw[e,hb6] at h2;cases h2
     have h4:z≠gQ:=fun e=>by
      rw[e] at h1 h2
      rw[(hbQ h1).2] at h2;cases h2
     rw[aK _ _ _ _ h4,aF,if_neg h1,aK _ _ _ _ h3];exact h2
    have Xv: ∀X Y Z,Sub (upd (upd (rem y gR') gQ Y) gT' Z) (upd (upd (rem (upd y g6 X) gR') gQ Y) gT' Z):=fun X Y Z z v hz=>by
     simp only[aC,aF] at hz ⊢
     grind
    refine⟨Hv _ _,Dq 17 false ?_⟩
    simp
    refine⟨Hv _ _,Dq 18 false ?_⟩
    simp
    refine⟨Hv _ _,Dq 19 true ?_⟩
    simp[Ne.symm nQT,nQT,Ne.symm n6T,nTR,yT']
    refine Dd ?_
    simp
    obtain⟨b3,hb3⟩: ∃b3,b3=upd (upd (rem y gR') gQ (some ⟨1,(ids++ [gN]).map fun x=> [.lsl x 3 0 j1]⟩)) gT' (some ⟨4,[[.int .i64 j,.lsl gQ 1 0 (l+1),.lsl gB' 1 0 l,.lsl gC' 3 0 j1]]⟩):=⟨_,rfl⟩
    refine fG [(1,.loc g.T 4 0 0),(2,.ptr p.v),(7,.loc gT' 4 0 0),(95,.lsl g.R 1 0 i),(96,.int .i64 i),(97,.int .i64 r),(9,.int .i64 r)] 179 b3 ⟨rfl,by simp[Pg.v,h.aS],by rw[hb3,List.map_append];exact Xv _ _ _⟩ ?_
    have b3Q:b3 gQ=some ⟨1,(ids++ [gN]).map fun x=> [.lsl x 3 0 j1]⟩:=by rw[hb3];simp[nQT]
    have b3T:b3 gT'=some ⟨4,[[.int .i64 j,.lsl gQ 1 0 (l+1),.lsl gB' 1 0 l,.lsl gC' 3 0 j1]]⟩:=by rw[hb3];simp
    have b3x: ∀x,x≠gT'→x≠gQ→x≠gR'→b3 x=y x:=fun x x1 x2 x3=>by rw[hb3,aK _ _ _ _ x1,aK _ _ _ _ x2,aF,if_neg x3]
    clear hb3 Xv Hv hbQ hsn tkC tk hbN hy Qb
    have nQo: ∀x v,b x=some v→x≠gQ:=fun x v hx e=>by
     rcases nQb with e2 | e2
     ·exact(old x v hx).2.1 (e.trans e2)
     ·have:=hsb x v hx;rw[e,e2] at this;cases this
    have nNo: ∀x v,b x=some v→x≠gN:=fun x v hx e=>by
     have:=hsb x v hx;rw[e,nNb] at this;cases this
    have b3o: ∀x v,b x=some v→b3 x=some v:=fun x v hx=>by
     rw[b3x x (old x v hx).1 (nQo x v hx) (old x v hx).2.1,yx x (by rw[hsb x v hx];simp) (nNo x v hx)];exact hsb x v hx
    have aR6:b3 g.T=_:=b3o _ _ bT0
    have aUC:b3 g.B=_:=b3o _ _ bB0
    have b3B:b3 gB'=_:=(b3x gB' (Ne.symm nTB) (Ne.symm nQB) (Ne.symm nRB)).trans yB'
    refine eR aM (rem b3 gB') (eH b3 gB') [0,1,2,3,4,5,6,7,8,9,10,11] 5 16 (by kernel_rfl) ?_
    simp[nTB,b3T,oTB,oBB,aR6,aUC,him,Z7,dE him]
    refine Dq 12 false ?_
    simp
    intro g5 hg5 hb5
    have n5:g5≠gT'∧g5≠gQ∧g5≠gB':=⟨fun e=>(by rw[e,b3T] at hb5;cases hb5),fun e=>(by rw[e,b3Q] at hb5;cases hb5),fun e=>(by rw[e,b3B] at hb5;cases hb5)⟩
    obtain⟨n5T,n5Q,n5B⟩:=n5
    have Bo: ∀X,Sub (rem b3 gB') (upd b3 g5 X):=fun X z y hz=>by
     rw[aF] at hz
     rw[aC]
     grind
    refine⟨Bo _,Dq 13 false ?_⟩
    have tkB:(iv (lb l fun z=>U.bs (atR L z))).take l=iv (lb l fun z=>U.bs (atR L z)):=List.take_of_length_le (by simp)
    simp[n5B,Ne.symm n5B,appV,elsV,Int.not_lt.2 hg5,b3B,tkB]
    have hlb:iv (lb l fun z=>U.bs (atR L z))++ [[.int .i64 (U.bs r)]]=iv (lb (l+1) fun z=>U.bs (atR (L++ [r]) z)):=by
     rw[S4,aV,xE r hl,Qf (f:=fun z=>U.bs (atR (L++ [r]) z)) (g:=fun z=>U.bs (atR L z)) fun z hz=>by rw[qA r (by rw[hl];exact hz)]];rfl
    rw[hlb]
    refine⟨by omega,fun gM hgM hbM=> ?_⟩
    have nM:gM≠gT'∧gM≠gQ∧gM≠gC'∧gM≠gN∧gM∉ids∧gM≠g5∧(gM=gB'∨gM=gR'∨b' gM=none):=by
     by_cases e:gM=gB'
     ·subst e
      exact⟨Ne.symm nTB,Ne.symm nQB,nBC,Ne.symm nNB,nBi,Ne.symm n5B,.inl rfl⟩
     ·obtain⟨q1,q2⟩:=hbM e
      have q3:gM≠gT':=fun e2=>by rw[e2,b3T] at q2;cases q2
      have q4:gM≠gQ:=fun e2=>by rw[e2,b3Q] at q2;cases q2
      by_cases e3:gM=gR'
      ·subst e3
       exact⟨q3,q4,nRC,Ne.symm nNR,nRi,q1,.inr (.inl rfl)⟩
      ·rw[b3x gM q3 q4 e3] at q2
       have q5:=Iz gM q2
       have nx: ∀y,b' y≠none→gM≠y:=fun y hy e=>hy (e▸q5)
       refine⟨q3,q4,nx _ (by rw[show b' gC'=_ from hS.cst];simp),fun e2=>(by rw[e2,yN] at q2;cases q2),fun e2=> ?_,q1,.inr (.inr q5)⟩
       obtain⟨q,hq⟩:=List.mem_iff_getElem?.1 e2
       rw[hS.row q gM hq] at q5;cases q5
    obtain⟨nMT,nMQ,nMC,nMN,nMi,nM5,nMb⟩:=nM
    have mA: ∀X Y,Sub (rem b3 gB') (upd (rem (upd b3 g5 X) gB') gM Y):=fun X Y z y hz=>by
     rw[aF] at hz
     rw[aC,aF,aC]
     grind
    have mK: ∀X Y Z,Sub (upd (upd (rem b3 gB') gM Y) gT' Z) (upd (upd (rem (upd b3 g5 X) gB') gM Y) gT' Z):=fun X Y Z z y hz=>by
     simp only[aC,aF] at hz ⊢
     grind
    refine⟨mA _ _,Dq 14 false ?_⟩
    simp
    refine⟨mA _ _,Dq 15 false ?_⟩
    simp
    refine⟨mA _ _,Dq 16 true ?_⟩
    simp[Ne.symm nMT,nTB,n5T,Ne.symm n5T,b3T]
    refine Dd ?_
    simp
    refine aB ?_
    simp[wr,aA]
    obtain⟨b4,kQ⟩: ∃b4,b4=upd (upd (rem b3 gB') gM (some ⟨1,iv (lb (l+1) fun z=>U.bs (atR (L++ [r]) z))⟩)) gT' (some ⟨4,[[.int .i64 j,.lsl gQ 1 0 (l+1),.lsl gM 1 0 (l+1),.lsl gC' 3 0 j1]]⟩):=⟨_,rfl⟩
    have b4T:b4 gT'=some ⟨4,[[.int .i64 j,.lsl gQ 1 0 (l+1),.lsl gM 1 0 (l+1),.lsl gC' 3 0 j1]]⟩:=by rw[kQ];simp
    have b4M:b4 gM=some ⟨1,iv (lb (l+1) fun z=>U.bs (atR (L++ [r]) z))⟩:=by rw[kQ];simp[nMT]
    have b4x: ∀x,x≠gT'→x≠gM→x≠gB'→b4 x=b3 x:=fun x x1 x2 x3=>by rw[kQ,aK _ _ _ _ x1,aK _ _ _ _ x2,aF,if_neg x3]
    have b4o: ∀x,x≠gT'→x≠gM→x≠gB'→x≠gQ→x≠gR'→b4 x=y x:=fun x x1 x2 x3 x4 x5=>by rw[b4x x x1 x2 x3,b3x x x1 x4 x5]
    have fr: ∀x,b' x=none→b x=none:=fun x hx=>by
     cases hv:b x with
     | none => rfl
     | some v => have := hsb x v hv; rw [hx] at this; cases this
    have blT:b gT'=none:=hal gT' (by simp[SG.all])
    have blR:b gR'=none:=hal gR' (by simp[SG.all])
    have blB:b gB'=none:=hal gB' (by simp[SG.all])
    have blC:b gC'=none:=hal gC' (by simp[SG.all])
    have blN:b gN=none:=fr gN nNb
    have blQ:b gQ=none:=by
     rcases nQb with e | e
     ·rw[e];exact blR
     ·exact fr gQ e
    have blM:b gM=none:=by
     rcases nMb with e | e | e
     ·rw[e];exact blB
     ·rw[e];exact blR
     ·exact fr gM e
    have hyi: ∀x,x∈ids→y x=b' x:=fun x hx=>by
     obtain⟨q,hq⟩:=List.mem_iff_getElem?.1 hx
     exact yx x (by rw[hS.row q x hq];simp) (fun e=>nNi (e▸hx))
    have hS':SS b' ⟨gT',gR',gB',gC',ids⟩ ⟨l,j1,j,fun z c=>U.X (atR (L++ [r]) z) (ph c),fun c=>w (ph c),fun z=>U.bs (atR (L++ [r]) z)⟩:=
     hS.congr (fun z c hz _=>by rw[qA r (by rw[hl];exact hz)]) (fun _ _=>rfl) (fun z hz=>by rw[qA r (by rw[hl];exact hz)])
    have Om:=hS'.snoc (b':=b4) gQ gM gN (by rw[b4x gQ nQT (Ne.symm nMQ) nQB,b3Q]) b4M b4T
     (by simp only;rw[b4o gC' (Ne.symm nTC) (Ne.symm nMC) (Ne.symm nBC) (Ne.symm nQC) (Ne.symm nRC),yx gC' (by rw[show b' gC'=_ from hS.cst];simp) (Ne.symm nNC)])
     (fun x hx=>by simp only at hx;rw[b4o x (fun e=>nTi (e▸hx)) (fun e=>nMi (e▸hx)) (fun e=>nBi (e▸hx)) (fun e=>nQi (e▸hx)) (fun e=>nRi (e▸hx)),hyi x hx])
     (by rw[b4o gN nNT (Ne.symm nMN) nNB (Ne.symm nQN) nNR,yN];show _=some (Blk.mk 3 (rqs j1 fun c=>U.X (atR (L++ [r]) l) (ph c)));rw[xE r hl]) hgN hgQ hgM (by
       simp only[SG.all,List.nodup_cons,List.mem_cons,not_or,List.mem_append,List.mem_singleton,List.nodup_append,List.not_mem_nil,or_false]
       refine⟨⟨Ne.symm nQT,Ne.symm nMT,nTC,nTi,Ne.symm nNT⟩,⟨Ne.symm nMQ,nQC,nQi,nQN⟩,⟨nMC,nMi,nMN⟩,⟨nCi,Ne.symm nNC⟩,nds,by simp,fun a ha c hc=> ?_⟩
       rw[hc];exact fun e=>nNi (e▸ha))
    have hLl:(L++ [r]).length=l+1:=by simp[hl]
    refine⟨⟨r+1,⟨gT',gQ,gM,gC',ids++ [gN]⟩,b4⟩,⟨by simp only;omega,by rw[hls,hLl];exact Om,rfl,fun x hx=> ?_,fun x v hx=> ?_⟩,by simp only;omega,rfl,by simp[Pg.v,h.aS],by rw[kQ];exact mK _ _ _⟩
    ·simp only[SG.all,List.mem_cons,List.mem_append,List.not_mem_nil,or_false] at hx
     rcases hx with rfl | rfl | rfl | rfl | hx | rfl
     ·exact blT
     ·exact blQ
     ·exact blM
     ·exact blC
     ·exact hal x (by simp[SG.all,hx])
     ·exact blN
    ·have nx: ∀z,b z=none→x≠z:=fun z hz e=>by rw[e,hz] at hx;cases hx
     simp only
     rw[b4o x (nx _ blT) (nx _ blM) (nx _ blB) (nx _ blQ) (nx _ blR),yx x (by rw[hsb x v hx];simp) (nx _ blN)]
     exact hsb x v hx
   ·rw[if_neg (by omega)] at hls
    refine aB ?_
    simp[wr,aA]
    exact⟨⟨r+1,⟨gT',gR',gB',gC',ids⟩,b'⟩,⟨by show r+1≤i;omega,by rw[hls];exact hS,rfl,hal,hsb⟩,by simp only;omega,rfl,by simp[Pg.v,h.aS],Sub.refl _⟩
  have aTK:r=i:=by omega
  subst aTK
  rw[rQ] at hS
  rw[rQ] at mQ
  clear wr him
  obtain⟨l,hl⟩: ∃l,rows.length=l:=⟨_,rfl⟩
  rw[hl] at hS
  have La:=hS.len
  have D4:b' gT'=_:=hS.hd
  have T6:b' gR'=_:=hS.top
  have I6:b' gB'=_:=hS.ba
  have aO2:b' gC'=_:=hS.cst
  simp only at La D4 T6 I6 aO2
  have hlr:l≤r:=by rw[←hl];exact mQ.len
  have nd:=hS.nd
  simp only[SG.all,List.nodup_cons,List.mem_cons,not_or] at nd
  obtain⟨⟨nTR,nTB,nTC,nTi⟩,⟨nRB,nRC,nRi⟩,⟨nBC,nBi⟩,nCi,nds⟩:=nd
  have hwW: ∀c,c<j+r+1→Lp.isInt (w c)∧ -((1000:Nat):Rat)≤w c∧w c≤((1000:Nat):Rat):=fun c _=>by
   have:=hpc c
   rw[hwi]
   refine⟨⟨_,rfl⟩,?_,?_⟩
   ·rw[show -((1000:Nat):Rat)=((-1000:Int):Rat) by decide+kernel];exact Rat.intCast_le_intCast.2 (by omega)
   ·rw[show((1000:Nat):Rat)=((1000:Int):Rat) by decide+kernel];exact Rat.intCast_le_intCast.2 (by omega)
  have Vq: ∀q,q<l→atR rows q<r:=fun q hq=>mQ.lt (cK (by rw[hl];exact hq))
  have aMZ: ∀c,ph c<j+r+1:=fun c=>by rw[hph];simp only;split<;>omega
  have htp: ∀q c,q≤l→oO (Lp.part w U (atR rows) q (ph c)):=fun q c hq=>Lp.fP (hKi.z.part hwW (aMZ c) (by decide) (by omega) fun z hz=>Vq z (by omega)) (uO hml)
  have htX: ∀q c,q<l→oO (U.X (atR rows q) (ph c)):=fun q c hq=>Lp.fP (hKi.z.sm (Vq q hq) (aMZ c)) (pN hml)
  refine aO ?_
  refine aB ?_
  simp[D4]
  refine aG (fun q:Nat=> [(7,.loc gT' 4 0 0),(157,.lsl gR' 1 0 l),(158,.int .i64 l),(159,.int .i64 q)]) (fun q=>upd b' gC' (some ⟨3,rqs j1 fun c=>Lp.part w U (atR rows) q (ph c)⟩)) (fun q=>q≤l) (fun q=>l - q) _ 0 (Nat.zero_le _) ⟨rfl,by simp,sub_eq (by
   funext x;simp only[aC];split
   ·rename_i e
    rw[e,aO2,bN (g:=fun c=>Lp.part w U (atR rows) 0 (ph c)) fun c _=>by unfold Lp.part;rw[Lp.S];grind]
   ·rfl)⟩ ?_
  intro q hq
  have wq:IntKind.i64.wrap ((q:Int)+1)=(q:Int)+1:=i64_in (by omega) (by omega)
  refine aE ?_
  simp
  refine aE ?_
  simp
  refine⟨fun hql=> ?_,fun hql=> ?_⟩
  ·have Oc:(q:Int)<l:=by omega
   obtain⟨gi,hgi⟩: ∃gi,ids[q]? =some gi:=⟨_,List.getElem?_eq_getElem (show q<ids.length by omega)⟩
   have hgj: ∀h,ids[q]'h=gi:=fun h=>by rw[List.getElem?_eq_getElem h] at hgi;exact Option.some.inj hgi
   have hgm:=List.mem_of_getElem? hgi
   have yH:0≤gi:=hS.pos gi hgm
   have b'i:b' gi=_:=hS.row q gi hgi
   simp only at b'i
   have iC:gi≠gC':=fun e=>nCi (e▸hgm)
   obtain⟨bc,hbc⟩: ∃bc,bc=upd b' gC' (some ⟨3,rqs j1 fun c=>Lp.part w U (atR rows) q (ph c)⟩):=⟨_,rfl⟩
   have bcC:bc gC'=some ⟨3,rqs j1 fun c=>Lp.part w U (atR rows) q (ph c)⟩:=by rw[hbc];simp
   have bcx: ∀x,x≠gC'→bc x=b' x:=fun x hx=>by rw[hbc,aK _ _ _ _ hx]
   have bcT:=(bcx gT' nTC).trans D4
   have bcR:=(bcx gR' nRC).trans T6
   have bcB:=(bcx gB' nBC).trans I6
   have bci:=(bcx gi iC).trans b'i
   rw[←hbc]
   refine aO (aX ?_)
   refine aE ?_
   simp[bcR,hql,Oc,La,hgj]
   have hqm:=cK (rows:=rows) (show q<rows.length by rw[hl];exact hql)
   obtain⟨ri,hri⟩: ∃ri,atR rows q=ri:=⟨_,rfl⟩
   have hbl:U.bs ri<j:=by
    rw[hri,←rQ] at hqm
    exact(Lp.lX.1 hqm).2
   have aUQ:ri<r:=by rw[←hri];exact Vq q hql
   have hkf:Lp.part w U (atR rows) q (ph (U.bs ri))=w (U.bs ri):=by
    rw[hpl _ hbl,←hri]
    exact Lp.Cz hKi.z.ti (by rw[hri];exact aUQ) (fun z hz=>Vq z (by omega)) fun z hz e=>by
     have:=mQ.inj (by omega) (by omega) e
     omega
   have Z3: ∀c,Lp.part w U (atR rows) q (ph c) - Lp.part w U (atR rows) q (ph (U.bs ri))*U.X (atR rows q) (ph c)=Lp.part w U (atR rows) (q+1) (ph c):=fun c=>by
    rw[hkf,Lp.Ll,hri]
   have hbi:(U.bs ri:Int)<j:=by omega
   refine aW aM (rem bc gC') (eH bc gC') [0,1,2,3,4,5,6,7,8,9,10,11] 1 (by kernel_rfl) ?_
   simp[nTC,nBC,bcT,bcB,hql,Oc,hri]
   refine Dz 12 ?_
   simp
   refine qD gC' gi j1 (U.bs ri) (fun c=>Lp.part w U (atR rows) q (ph c)) (fun c=>U.X (atR rows q) (ph c)) (by omega) (by omega) bcC bci (Ne.symm iC) hS.pC yH (fun c _=>cE (htp q c hq)) (fun c _=>cE (htX q c hql)) (fun c _=>D3 (htp q _ hq) (htX q c hql)) (fun c _=>by simp only[Z3];exact cE (htp (q+1) c hql)) fun b2' hx hb'=> ?_
   simp
   refine⟨fun z y hz=> ?_,Dy ?_⟩
   ·rw[aF] at hz
    split at hz
    ·cases hz
    ·exact hx z y hz (by assumption)
   simp
   refine aB ?_
   simp[wq,aA]
   refine⟨q+1,by omega,by omega,rfl,by simp,fun z y hz=> ?_⟩
   show b2' z=some y
   by_cases e:z=gC'
   ·rw[e,bA] at hz
    rw[e,hb',←hz,bN fun c _=>Z3 c]
   ·rw[aK _ _ _ _ e] at hz
    exact hx z y (by rw[bcx z e];exact hz) e
  ·have hqe:q=l:=by omega
   subst hqe
   refine aB ?_
   simp
   rw[bW]
   have hS9:=hS.Zi fun c=>Lp.part w U (atR rows) q (ph c)
   refine⟨[.loc gT' 4 0 0],by simp,hK _ ⟨gT',gR',gB',gC',ids⟩ ?_ (fun x hx=>frB x (hal x hx)) fun x y hx hng=> ?_⟩
   ·unfold snV
    simp only[hl]
    subst hj1
    have hz0: ∀c,c<r→c∉rows→w (U.bs c)=0:=fun c hc hn=>by
     rw[←rQ] at hn
     have hge: ¬ U.bs c<j:=fun e=>hn (Lp.lX.2 ⟨hc,e⟩)
     rw[hwi,show pC p (U.bs c)=0 by unfold pC;rw[List.getD_eq_getElem?_getD,List.getElem?_eq_none (by have:=h.cl;omega)];rfl];rfl
    refine hS9.congr (fun z c _ _=>by rw[hph]) (fun c _=> ?_) fun z _=>rfl
    rw[hph]
    unfold Lp.part Lp.rc
    simp only
    have:=mQ.sum (fun z=>U.X z (if c<j then c else j+r)*w (U.bs z)) fun z hz hn=>by rw[hz0 z hz hn];grind
    rw[hl] at this
    rw[this]
   ·have h1:=hfb x y hx hng
    have h2:=hsb x y h1
    show upd b' gC' _ x=some y
    rw[aK _ _ _ _ (fun e=>by have:=hal gC' (by simp[SG.all]);rw[←e,h1] at this;cases this)]
    exact h2
end Go.Proofs.YticmgmemnpcbbaaGreat.Vm
