import Derived.Test.YticmgmemnpcbbaaGreatQCFnExactRangeOf4

namespace Go.Proofs.YticmgmemnpcbbaaGreat.Vm
open Go Go.Proofs
set_option linter.unusedSimpArgs false
set_option linter.unusedVariables false
theorem kV (a b:Nat) (ha:(lim a).length≤1048576) (hb:(lim b).length≤1048576):RO Tryz.prog 288 [.sl (iv (lim a)),.sl (iv (lim b))] (.int .i64 (iS a b)):=by
 refine aI Tryz.func288 rfl rfl (by rw[Tryz.ntmps288];simp) fun bl=> ?_
 rw[Tryz.ntmps288,Tryz.results288]
 refine aC ?_
 simp
 refine⟨fun h=>⟨fun h1=> ?_,fun h1=> ?_⟩,fun h=> ?_⟩
 ·exact aR (by simp[D5 h1]) rfl rfl
 ·exact aR (by simp[C5 (show(lim b).length<(lim a).length by omega)]) rfl rfl
 have h:(lim a).length=(lim b).length:=by omega
 have w0:IntKind.i64.wrap (((lim a).length:Int) - 1)=((lim a).length:Int) - 1:=i64_in (by omega) (by omega)
 simp[w0]
 refine aJ (fun k:Nat=> [(0,.sl (iv (lim a))),(1,.sl (iv (lim b))),(5,.int .i64 ((k:Int) - 1))]) (fun _=>bl) (fun k=>k≤(lim a).length∧ ∀j,k≤j→dg a j=dg b j) (fun k=>k) _ (lim a).length ⟨Nat.le_refl _,fun j hj=>by rw[jQ hj,jQ (by omega)]⟩ ⟨rfl,by simp,Sub.refl _⟩ ?_
 intro k ⟨hk,hc⟩
 refine aC ?_
 simp
 refine⟨fun h1=> ?_,fun h1=> ?_⟩
 ·obtain⟨m,rfl⟩: ∃m,k=m+1:=⟨k - 1,by omega⟩
  have hm:m<(lim a).length:=by omega
  have hm2:m<(lim b).length:=by omega
  have e1:((m+1:Nat):Int) - 1=m:=by omega
  refine cQ aM (by kernel_rfl) ?_
  simp[e1,aZ _ _ hm,aZ _ _ hm2]
  refine⟨fun h2=> ?_,fun h2=> ?_⟩
  ·exact aR (by simp[Sg h hm (fun j hj=>hc j (by omega)) h2]) rfl rfl
  refine cQ aM (by kernel_rfl) ?_
  simp[e1,aZ _ _ hm,aZ _ _ hm2]
  refine⟨fun h3=> ?_,fun h3=> ?_⟩
  ·exact aR (by simp[Ok h hm (fun j hj=>hc j (by omega)) h3]) rfl rfl
  have w1:IntKind.i64.wrap ((m:Int) - 1)=(m:Int) - 1:=i64_in (by omega) (by omega)
  simp[w1,aB]
  refine⟨m,⟨by omega,fun j hj=> ?_⟩,by omega,rfl,by simp,Sub.refl _⟩
  rcases Nat.lt_or_ge m j with hlt | hge
  ·exact hc j (by omega)
  ·obtain rfl:j=m:=by omega
   omega
 ·have:k=0:=by omega
  subst this
  exact aR (by simp[Mv h fun j=>hc j (Nat.zero_le _)]) rfl rfl
theorem gL (ns:List Int) (hd:Dig ns) (hn:ns.length≤1048576):RO Tryz.prog 290 [.sl (iv ns)] (.sl (iv (lim (val ns)))):=by
 refine aI Tryz.func290 rfl rfl (by rw[Tryz.ntmps290];simp) fun bl=> ?_
 rw[Tryz.ntmps290,Tryz.results290]
 refine aC ?_
 simp
 refine aJ (fun n:Nat=> [(0,.sl (iv ns)),(3,.int .i64 n)]) (fun _=>bl) (fun n=>n≤ns.length∧ ∀i (hi:i<ns.length),n≤i→ns[i]=0) (fun n=>n) _ ns.length ⟨Nat.le_refl _,fun i hi h=>by omega⟩ ⟨rfl,by simp,Sub.refl _⟩ ?_
 intro n ⟨hl,hz⟩
 refine aC ?_
 simp
 refine bQ [(0,.sl (iv ns)),(3,.int .i64 n)] _ bl 15 (.bool (decide (0<n)&& decide (ns.getD (n - 1) 1=0))) ⟨rfl,by simp,Sub.refl _⟩ rfl ?_ ?_
 ·simp
  refine⟨fun h=> ?_,fun h=>by simp[h]⟩
  have w1:IntKind.i64.wrap ((n:Int) - 1)=((n - 1:Nat):Int):=by rw[i64_in (by omega) (by omega)];omega
  have h2:n - 1<ns.length:=by omega
  simp[w1,h2,h,vC]
 simp
 refine⟨fun h1 h2=> ?_,fun h1=> ?_⟩
 ·have w1:IntKind.i64.wrap ((n:Int) - 1)=((n - 1:Nat):Int):=by rw[i64_in (by omega) (by omega)];omega
  simp[w1,aB]
  refine⟨n - 1,⟨by omega,fun i hi h3=> ?_⟩,by omega,rfl,by simp,Sub.refl _⟩
  rcases Nat.lt_or_ge i n with h4 | h4
  ·obtain rfl:i=n - 1:=by omega
   simpa [hi] using h2
  ·exact hz i hi h4
 ·have hz2: ∀i (hi:i<ns.length),n=i+1→ns[i]≠0:=by
   intro i hi e
   subst e
   have:=h1 (by omega)
   simpa [hi] using this
  have:=zE hd hl hz hz2
  rw[←this]
  simp[sliV,Hk,hl]
  exact aR (by simp[yG]) rfl rfl
theorem Lq (ns:List Int) (hd:Dig ns) (hn:ns.length≤1048576):RO Tryz.prog 280 [.sl (iv ns)] (.sl (iv (if(lim (val ns)).length≤60 then lim (val ns) else []))):=by
 refine aI Tryz.func280 rfl rfl (by rw[Tryz.ntmps280];simp) fun bl=> ?_
 rw[Tryz.ntmps280,Tryz.results280]
 refine aC ?_
 simp
 refine aD (gL ns hd hn) ?_
 simp
 refine⟨fun h=> ?_,fun h=> ?_⟩
 ·rw[if_neg (by omega)]
  exact aK [.nils] 0 (by simp) rfl (Sub.refl _)
 ·rw[if_pos (by omega)]
  exact aR (by simp) rfl rfl
theorem Io (a b:Nat) (ha:(lim a).length≤1000000) (hb:(lim b).length≤1000000):RO Tryz.prog 287 [.sl (iv (lim a)),.sl (iv (lim b))] (.sl (iv (lim (a+b)))):=by
 refine aI Tryz.func287 rfl rfl (by rw[Tryz.ntmps287];simp) fun bl=> ?_
 rw[Tryz.ntmps287,Tryz.results287]
 refine aC ?_
 simp
 intro g0 hg0 hb0
 refine aJ (fun p:Int×PL=> [(0,.sl (iv (lim a))),(1,.sl (iv (lim b))),(5,.lsl p.1 1 0 p.2.i),(6,.int .i64 p.2.c),(7,.int .i64 p.2.i)]) (fun p=>upd bl p.1 (some ⟨1,iv p.2.o⟩))
  (fun p=>0≤p.1∧bl p.1=none∧kC a b p.2.i p.2.o p.2.c∧p.2.i≤1000002∧(p.2.i=0∨LB^(p.2.i - 1)≤a+b)) (fun p=>1000003 - p.2.i) _ (g0,⟨0,[],0⟩) ⟨hg0,hb0,kC.start a b,by simp,.inl rfl⟩ ⟨rfl,by simp,sub_eq (by simp[iv])⟩ ?_
 rintro⟨g,i,o,c⟩ ⟨hg,hbg,hI,hi,hm⟩
 simp only at hg hbg hI hi hm
 have hb1:=hI.x
 have hd1:=eN a i
 have hd2:=eN b i
 have hc0:=hI.c0
 have hc1:=hI.c1
 have hol:=hI.len
 refine aC ?_
 simp
 refine bQ [(0,.sl (iv (lim a))),(1,.sl (iv (lim b))),(5,.lsl g 1 0 i),(6,.int .i64 c),(7,.int .i64 i)] _ _ 23 (.bool ((decide (i<(lim a).length)|| decide (i<(lim b).length))|| decide (0<c))) ⟨rfl,by simp,Sub.refl _⟩ rfl ?_ ?_
 ·simp
  exact⟨fun h=> .inl (.inl h),fun h=>⟨fun h2=> .inl (.inr h2),fun h2 h3=>by omega⟩⟩
 simp
 refine⟨fun h=> ?_,fun h1 h2 h3=> ?_⟩
 ·have Hs:=hI.more (by omega)
  have hlen:i<(lim (a+b)).length:=by
   rcases Nat.lt_or_ge i (lim (a+b)).length with hh | hh
   ·exact hh
   ·have:=aL.1 hh;omega
  have aWH:=tT (k:=1000000) ha hb
  have w3:IntKind.i64.wrap ((i:Int)+1)=i+1:=i64_in (by omega) (by omega)
  refine⟨fun h1=> ?_,fun h1=> ?_⟩
  ·simp[aZ _ _ h1]
   have wa0:IntKind.i64.wrap (c+(dg a i:Nat))=c+(dg a i:Nat):=i64_in (by omega) (by omega)
   simp[wa0]
   refine⟨fun h2=> ?_,fun h2=> ?_⟩
   ·have wa:IntKind.i64.wrap (c+(dg a i:Nat))=c+(dg a i:Nat):=i64_in (by omega) (by omega)
    have wb:IntKind.i64.wrap (c+(dg a i:Nat)+(dg b i:Nat))=c+(dg a i:Nat)+(dg b i:Nat):=i64_in (by omega) (by omega)
    have wq1:=wq (x:=c+(dg a i:Nat)+(dg b i:Nat)) (n:=1000000000) (by omega) (by omega) (by omega)
    try simp[wq1,w3,wa,wb,aZ _ _ h1,aZ _ _ h2]
    intro g2 hg2 h2g hb2
    try simp[wq1,w3,wa,wb,aZ _ _ h1,aZ _ _ h2,h2g,Ne.symm h2g,appV,elsV,Int.not_lt.2 hg2,hol]
    refine⟨by omega,fun g3 hg3 hb3=> ?_⟩
    have gG:bl g3=none:=by grind
    try simp[wq1,w3,wa,wb,aZ _ _ h1,aZ _ _ h2]
    rw[aB]
    refine⟨(g3,⟨i+1,o++ [(c+(dg a i:Nat)+(dg b i:Nat)).tmod 1000000000],(c+(dg a i:Nat)+(dg b i:Nat)).tdiv 1000000000⟩),⟨hg3,gG,hI.next (by omega),by simp only;omega,.inr (by simpa using Hs)⟩,by simp only;omega,rfl,by simp,?_⟩
    rw[aV]
    exact dK (by rw[←hol,dN];simp[iv]) (by simp[hbg,hb2,h2g])
   ·have wa:IntKind.i64.wrap (c+(dg a i:Nat))=c+(dg a i:Nat):=i64_in (by omega) (by omega)
    have zb:dg b i=0:=jQ (by omega)
    have wq1:=wq (x:=c+(dg a i:Nat)) (n:=1000000000) (by omega) (by omega) (by omega)
    try simp[wq1,w3,wa,aZ _ _ h1]
    intro g2 hg2 h2g hb2
    try simp[wq1,w3,wa,aZ _ _ h1,h2g,Ne.symm h2g,appV,elsV,Int.not_lt.2 hg2,hol]
    refine⟨by omega,fun g3 hg3 hb3=> ?_⟩
    have gG:bl g3=none:=by grind
    try simp[wq1,w3,wa,aZ _ _ h1]
    rw[aB]
    refine⟨(g3,⟨i+1,o++ [(c+(dg a i:Nat)).tmod 1000000000],(c+(dg a i:Nat)).tdiv 1000000000⟩),⟨hg3,gG,hI.next (by omega),by simp only;omega,.inr (by simpa using Hs)⟩,by simp only;omega,rfl,by simp,?_⟩
    rw[aV]
    exact dK (by rw[←hol,dN];simp[iv]) (by simp[hbg,hb2,h2g])
  ·refine⟨fun h2=> ?_,fun h2=> ?_⟩
   ·have wb:IntKind.i64.wrap (c+(dg b i:Nat))=c+(dg b i:Nat):=i64_in (by omega) (by omega)
    have za:dg a i=0:=jQ (by omega)
    have wq1:=wq (x:=c+(dg b i:Nat)) (n:=1000000000) (by omega) (by omega) (by omega)
    try simp[wq1,w3,wb,aZ _ _ h2]
    intro g2 hg2 h2g hb2
    try simp[wq1,w3,wb,aZ _ _ h2,h2g,Ne.symm h2g,appV,elsV,Int.not_lt.2 hg2,hol]
    refine⟨by omega,fun g3 hg3 hb3=> ?_⟩
    have gG:bl g3=none:=by grind
    try simp[wq1,w3,wb,aZ _ _ h2]
    rw[aB]
    refine⟨(g3,⟨i+1,o++ [(c+(dg b i:Nat)).tmod 1000000000],(c+(dg b i:Nat)).tdiv 1000000000⟩),⟨hg3,gG,hI.next (by omega),by simp only;omega,.inr (by simpa using Hs)⟩,by simp only;omega,rfl,by simp,?_⟩
    rw[aV]
    exact dK (by rw[←hol,dN];simp[iv]) (by simp[hbg,hb2,h2g])
   ·have za:dg a i=0:=jQ (by omega)
    have zb:dg b i=0:=jQ (by omega)
    have wq1:=wq (x:=c) (n:=1000000000) (by omega) (by omega) (by omega)
    try simp[wq1,w3]
    intro g2 hg2 h2g hb2
    try simp[wq1,w3,h2g,Ne.symm h2g,appV,elsV,Int.not_lt.2 hg2,hol]
    refine⟨by omega,fun g3 hg3 hb3=> ?_⟩
    have gG:bl g3=none:=by grind
    try simp[wq1,w3]
    rw[aB]
    refine⟨(g3,⟨i+1,o++ [(c).tmod 1000000000],(c).tdiv 1000000000⟩),⟨hg3,gG,hI.next (by omega),by simp only;omega,.inr (by simpa using Hs)⟩,by simp only;omega,rfl,by simp,?_⟩
    rw[aV]
    exact dK (by rw[←hol,dN];simp[iv]) (by simp[hbg,hb2,h2g])
 ·have hc:c=0:=by omega
  subst hc
  rw[←hI.spec (by omega) (by omega) hm]
  exact aK [.lsl g 1 0 i] 1 (by simp) (dW hg hbg (by simp) (by simp[hol]) (mZ o)) (by simp[hbg])

theorem fI (a b:Nat) (ha:(lim a).length≤400000) (hb:(lim b).length≤400000):RO Tryz.prog 266 [.sl (iv (lim a)),.sl (iv (lim b))] (.sl (iv (lim (a*b)))):=by
 by_cases h0:a=0∨b=0
 ·have hz:a*b=0:=Nat.mul_eq_zero.2 h0
  rw[hz,aX]
  refine aI Tryz.func266 rfl rfl (by rw[Tryz.ntmps266];simp) fun bl=> ?_
  rw[Tryz.ntmps266,Tryz.results266]
  refine aC ?_
  simp
  refine bQ [(0,.sl (iv (lim a))),(1,.sl (iv (lim b)))] _ bl 19 (.bool true) ⟨rfl,by simp,Sub.refl _⟩ rfl ?_ ?_
  ·simp
   rcases h0 with h0 | h0
   ·simp[h0,aX]
   ·simp[h0,aX]
  simp
  exact aK [.nils] 0 (by simp) rfl (Sub.refl _)
 have ha0:a≠0:=by omega
 have hb0:b≠0:=by omega
 have la:(lim a).length≠0:=fun h=>ha0 (eJ.1 (List.length_eq_zero_iff.1 h))
 have lb:(lim b).length≠0:=fun h=>hb0 (eJ.1 (List.length_eq_zero_iff.1 h))
 refine aI Tryz.func266 rfl rfl (by rw[Tryz.ntmps266];simp) fun bl=> ?_
 rw[Tryz.ntmps266,Tryz.results266]
 refine aC ?_
 simp
 refine bQ [(0,.sl (iv (lim a))),(1,.sl (iv (lim b)))] _ bl 19 (.bool false) ⟨rfl,by simp,Sub.refl _⟩ rfl ?_ ?_
 ·have na:lim a≠ []:=fun h=>la (by rw[h];rfl)
  have nb:lim b≠ []:=fun h=>lb (by rw[h];rfl)
  simp[na,nb]
 have w0:IntKind.i64.wrap (((lim a).length:Int)+(lim b).length)=(lim a).length+(lim b).length:=i64_in (by omega) (by omega)
 simp[w0]
 refine⟨(lim a).length+(lim b).length,by simp,by simp,by omega,by unfold maxLen;omega,fun g hg0 hg=> ?_⟩
 have er:List.replicate ((lim a).length+(lim b).length) [V.int IntKind.i64 0]=iv (List.replicate ((lim a).length+(lim b).length) 0):=by simp[iv]
 simp[er]
 refine aJ (fun p:TL=> [(0,.sl (iv (lim a))),(1,.sl (iv (lim b))),(5,.lsl g 1 0 ((lim a).length+(lim b).length)),(26,.sl (iv (lim a))),(27,.int .i64 (lim a).length),(28,.int .i64 p.i)]) (fun p=>upd bl g (some ⟨1,iv p.O⟩))
  (fun p=>p.i≤(lim a).length∧iA a b p.i 0 p.O 0) (fun p=>(lim a).length - p.i) _ ⟨0,0,_,0⟩ ⟨Nat.zero_le _,iA.start a b⟩ ⟨rfl,by simp,sub_eq (by simp)⟩ ?_
 rintro⟨i,j0,O,c0⟩ ⟨hi,hI⟩
 simp only at hi hI
 refine aC ?_
 simp
 refine⟨fun h1=> ?_,fun h1=> ?_⟩
 ·simp[aZ _ _ h1]
  refine aJ (fun p:TL=> [(0,.sl (iv (lim a))),(1,.sl (iv (lim b))),(5,.lsl g 1 0 ((lim a).length+(lim b).length)),(6,.int .i64 i),(7,.int .i64 (dg a i:Nat)),(8,.int .i64 p.c),(26,.sl (iv (lim a))),(27,.int .i64 (lim a).length),(28,.int .i64 i),(33,.sl (iv (lim b))),(34,.int .i64 (lim b).length),(35,.int .i64 p.j)]) (fun p=>upd bl g (some ⟨1,iv p.O⟩))
   (fun p=>p.j≤(lim b).length∧iA a b i p.j p.O p.c) (fun p=>(lim b).length - p.j) _ ⟨i,0,O,0⟩ ⟨Nat.zero_le _,hI⟩ ⟨rfl,by simp,sub_eq (by simp)⟩ ?_
  rintro⟨i',j,O,c⟩ ⟨hj,hJ⟩
  simp only at hj hJ
  have hlen:=hJ.len
  refine aC ?_
  simp
  refine⟨fun h2=> ?_,fun h2=> ?_⟩
  ·have hk:i+j<O.length:=by omega
   obtain⟨n1,n2,n3,hN⟩:=hJ.next h1 h2 hk
   have w1:IntKind.i64.wrap ((i:Int)+j)=(i:Int)+j:=i64_in (by omega) (by omega)
   have p1:0≤(i:Int)+j:=by omega
   have p2:(i:Int)+j<(lim a).length+(lim b).length:=by omega
   have p3:((i:Int)+j).toNat=i+j:=by omega
   have w3:IntKind.i64.wrap ((j:Int)+1)=j+1:=i64_in (by omega) (by omega)
   have hm:0≤(dg a i:Int)*dg b j∧(dg a i:Int)*dg b j<1000000000000000000:=by
    have hO:=hJ.dig.at hk
    have e:0≤(dg a i:Int)*dg b j:=by rw[←Int.natCast_mul];omega
    exact⟨e,by omega⟩
   have hO:=hJ.dig.at hk
   have w4:IntKind.i64.wrap ((dg a i:Int)*dg b j)=(dg a i:Int)*dg b j:=i64_in (by omega) (by omega)
   have w5:IntKind.i64.wrap (O[i+j]+(dg a i:Int)*dg b j)=O[i+j]+(dg a i:Int)*dg b j:=i64_in (by omega) (by omega)
   have w6:IntKind.i64.wrap (O[i+j]+(dg a i:Int)*dg b j+c)=O[i+j]+(dg a i:Int)*dg b j+c:=i64_in (by omega) (by omega)
   have w7:=wq (x:=O[i+j]+(dg a i:Int)*dg b j+c) (n:=1000000000) n3 (by omega) (by omega)
   simp[aZ _ _ h2,w1,w3,w4,w5,w6,w7,p1,p2,p3,hk]
   rw[aB]
   obtain⟨c',hc'⟩: ∃c':Nat,(O[i+j]+(dg a i:Int)*dg b j+c).tdiv 1000000000=c':=⟨((O[i+j]+(dg a i:Int)*dg b j+c).tdiv 1000000000).toNat,by omega⟩
   refine⟨⟨i,j+1,O.set (i+j) ((O[i+j]+(dg a i:Int)*dg b j+c).tmod 1000000000),c'⟩,⟨by simp only;omega,?_⟩,by simp only;omega,rfl,by simp[hc'],sub_eq ?_⟩
   ·rw[hc'] at hN;exact hN
   ·rw[eX]
  ·have e:j=(lim b).length:=by omega
   have hk:i+(lim b).length<O.length:=by omega
   have hR:=hJ.row h1 (by omega) hj hk
   have w1:IntKind.i64.wrap ((i:Int)+(lim b).length)=(i:Int)+(lim b).length:=i64_in (by omega) (by omega)
   have p1:0≤(i:Int)+(lim b).length:=by omega
   have p2:(i:Int)+(lim b).length<(lim a).length+(lim b).length:=by omega
   have p3:((i:Int)+(lim b).length).toNat=i+(lim b).length:=by omega
   have w3:IntKind.i64.wrap ((i:Int)+1)=i+1:=i64_in (by omega) (by omega)
   simp[w1,w3,p1,p2,p3,hk]
   rw[aB]
   refine⟨⟨i+1,0,O.set (i+(lim b).length) c,0⟩,⟨by simp only;omega,hR⟩,by simp only;omega,rfl,by simp,sub_eq ?_⟩
   rw[eX]
 ·have hv:=hI.done (c:=0) (by omega)
  have hlen:=hI.len
  have hg':bl g=none:=by simpa using hg
  try simp
  refine gP 1 bl _ (by simp[hg']) (lW hg0 hg' (by simp) hlen) (gL _ hI.dig (by omega)) ?_
  rw[hv]
  simp
  exact aR (by simp) rfl rfl
theorem V9 (a b:Nat) (ha:(lim a).length≤1048576) (hb0:0<b) (hb:b<1000000000):RO Tryz.prog 295 [.sl (iv (lim a)),.int .i64 b] (.tup [.sl (iv (lim (a / b))),.int .i64 (a % b:Nat)]):=by
 refine aI Tryz.func295 rfl rfl (by rw[Tryz.ntmps295];simp) fun bl=> ?_
 rw[Tryz.ntmps295,Tryz.results295]
 refine aC ?_
 simp
 refine⟨by omega,by unfold maxLen;omega,fun g hg0 hg=> ?_⟩
 have er:List.replicate ((lim a).length) [V.int IntKind.i64 0]=iv (List.replicate ((lim a).length) 0):=by simp[iv]
 have w0:IntKind.i64.wrap (((lim a).length:Int) - 1)=((lim a).length:Int) - 1:=i64_in (by omega) (by omega)
 simp[er,w0]
 refine aJ (fun p:SL=> [(0,.sl (iv (lim a))),(1,.int .i64 b),(6,.lsl g 1 0 (lim a).length),(7,.int .i64 p.r),(8,.int .i64 ((p.i:Int) - 1))]) (fun p=>upd bl g (some ⟨1,iv (List.replicate p.i 0++p.Q)⟩))
  (fun p=>0≤p.r∧qI a b p.i p.Q p.r.toNat) (fun p=>p.i) _ ⟨(lim a).length,[],0⟩ ⟨Int.le_refl _,qI.start a b hb0⟩ ⟨rfl,by simp,sub_eq (by simp)⟩ ?_
 rintro⟨i,Q,r⟩ ⟨hr0,hI⟩
 simp only at hr0 hI
 have hr:=hI.rlt
 have hle:=hI.le
 have hql:=hI.len
 refine aC ?_
 simp[-binV, -intV]
 refine⟨fun h1=> ?_,fun h1=> ?_⟩
 ·obtain⟨m,rfl⟩: ∃m,i=m+1:=⟨i - 1,by omega⟩
  have hm:m<(lim a).length:=by omega
  have hd:=eN a m
  obtain⟨z,hz⟩: ∃z,z=r.toNat*1000000000+dg a m:=⟨_,rfl⟩
  have hN:=hI.next (q:=z / b) (r':=z % b) (by rw[hz]) (by rw[hz])
  have e1:((m+1:Nat):Int) - 1=m:=by omega
  have w1:IntKind.i64.wrap (r*1000000000)=r*1000000000:=i64_in (by omega) (by omega)
  have w2:IntKind.i64.wrap (r*1000000000+dg a m)=z:=by rw[i64_in (by omega) (by omega)];omega
  have hz2:z≤9223372036854775807:=by omega
  simp[-binV, -intV,e1,aZ _ _ hm,w1,w2]
  clear w1 w2 hz
  have b0: ¬ b=0:=by omega
  have hg':bl g=none:=by simpa using hg
  have w3:=wq (x:=(z:Int)) (n:=b) (by omega) (by omega) (by omega)
  have w4:(z:Int).tdiv b=(z / b:Nat):=by rw[Int.tdiv_eq_ediv_of_nonneg (by omega)];simp
  have w5:(z:Int).tmod b=(z % b:Nat):=by rw[Int.tmod_eq_emod_of_nonneg (by omega)];simp
  rw[w4] at w3
  have w3':IntKind.i64.wrap ((z:Int) / b)=(z:Int) / b:=by simpa using w3
  have q:(iv (List.replicate (m+1) 0++Q))[m]? =some [.int .i64 0]:=by rw[eG _ _ (by simp;omega)];simp
  have w6:IntKind.i64.wrap ((m:Int) - 1)=(m:Int) - 1:=i64_in (by omega) (by omega)
  refine⟨by omega,?_⟩
  simp[-binV, -intV,w3',w4,w5,hm,b0,q,w6]
  rw[aB]
  refine⟨⟨m,((z / b:Nat):Int)::Q,(z % b:Nat)⟩,⟨by simp only;omega,by show qI a b m _ (((z % b:Nat):Int)).toNat;rw[Int.toNat_natCast];exact hN⟩,by simp only;omega,rfl,by simp,sub_eq ?_⟩
  rw[←pD m _ 0 Q,←eX]
  simp
 ·have e:i=0:=by omega
  subst e
  obtain⟨h2,h3⟩:=hI.done
  have h4:r=(a % b:Nat):=by omega
  have hg':bl g=none:=by simpa using hg
  try simp
  refine gP 1 bl _ (by simp[hg']) (lW (ns:=Q) hg0 hg' (by simp) (by simp[hql])) (gL _ hI.dig (by omega)) ?_
  simp[h2,h4]
  exact aK [.sl (iv (lim (a / b))),.int .i64 (a % b:Nat)] 1 (by simp) rfl (by simp)
theorem vQ (a b:Nat) (hab:b≤a) (ha:(lim a).length≤1000000):RO Tryz.prog 289 [.sl (iv (lim a)),.sl (iv (lim b))] (.sl (iv (lim (a - b)))):=by
 refine aI Tryz.func289 rfl rfl (by rw[Tryz.ntmps289];simp) fun bl=> ?_
 rw[Tryz.ntmps289,Tryz.results289]
 refine aC ?_
 simp
 intro g0 hg0 hb0
 refine aJ (fun p:Int×ML=> [(0,.sl (iv (lim a))),(1,.sl (iv (lim b))),(5,.lsl p.1 1 0 p.2.i),(6,.int .i64 p.2.br),(10,.sl (iv (lim a))),(11,.int .i64 (lim a).length),(12,.int .i64 p.2.i)]) (fun p=>upd bl p.1 (some ⟨1,iv p.2.o⟩))
  (fun p=>0≤p.1∧bl p.1=none∧hH a b p.2.i p.2.o p.2.br∧p.2.i≤(lim a).length) (fun p=>(lim a).length - p.2.i) _ (g0,⟨0,[],0⟩) ⟨hg0,hb0,hH.start a b,by simp⟩ ⟨rfl,by simp,sub_eq (by simp[iv])⟩ ?_
 rintro⟨g,i,o,br⟩ ⟨hg,hbg,hI,hi⟩
 simp only at hg hbg hI hi
 have hb1:=hI.x
 have hd1:=eN a i
 have hd2:=eN b i
 have hc1:=hI.c1
 have hol:=hI.len
 refine aC ?_
 simp
 refine⟨fun h1=> ?_,fun h1=> ?_⟩
 ·have w1:IntKind.i64.wrap ((dg a i:Int) - br)=dg a i - br:=i64_in (by omega) (by omega)
  have w2:IntKind.i64.wrap ((dg a i:Int) - br - dg b i)=dg a i - br - dg b i:=i64_in (by omega) (by omega)
  have w3:IntKind.i64.wrap ((i:Int)+1)=i+1:=i64_in (by omega) (by omega)
  simp[aZ _ _ h1,w1]
  refine⟨fun h2=> ?_,fun h2=> ?_⟩
  ·simp[aZ _ _ h2,w2]
   refine⟨fun h3=> ?_,fun h3=> ?_⟩
   ·have w4:IntKind.i64.wrap ((dg a i:Int) - br - dg b i+1000000000)=dg a i - br - dg b i+1000000000:=i64_in (by omega) (by omega)
    try simp[w4,w3]
    intro g2 hg2 h2g hb2
    simp[w4,w3,h2g,Ne.symm h2g,appV,elsV,Int.not_lt.2 hg2,hol]
    refine⟨by omega,fun g3 hg3 hb3=> ?_⟩
    have gG:bl g3=none:=by grind
    try simp[w4,w3]
    rw[aB]
    refine⟨(g3,⟨i+1,o++ [((dg a i:Int) - br - dg b i+1000000000:Int)],1⟩),⟨hg3,gG,hI.N3 (x:=(dg a i:Int) - br - dg b i) rfl (by omega),by simp only;omega⟩,by simp only;omega,rfl,by simp,?_⟩
    rw[aV]
    exact dK (by rw[←hol,dN];simp[iv]) (by simp[hbg,hb2,h2g])
   ·try simp[w3]
    intro g2 hg2 h2g hb2
    simp[w3,h2g,Ne.symm h2g,appV,elsV,Int.not_lt.2 hg2,hol]
    refine⟨by omega,fun g3 hg3 hb3=> ?_⟩
    have gG:bl g3=none:=by grind
    try simp[w3]
    rw[aB]
    refine⟨(g3,⟨i+1,o++ [((dg a i:Int) - br - dg b i:Int)],0⟩),⟨hg3,gG,hI.M4 (x:=(dg a i:Int) - br - dg b i) rfl (by omega),by simp only;omega⟩,by simp only;omega,rfl,by simp,?_⟩
    rw[aV]
    exact dK (by rw[←hol,dN];simp[iv]) (by simp[hbg,hb2,h2g])
  ·have d0:dg b i=0:=jQ (by omega)
   refine⟨fun h3=> ?_,fun h3=> ?_⟩
   ·have w4:IntKind.i64.wrap ((dg a i:Int) - br+1000000000)=dg a i - br+1000000000:=i64_in (by omega) (by omega)
    try simp[w4,w3]
    intro g2 hg2 h2g hb2
    simp[w4,w3,h2g,Ne.symm h2g,appV,elsV,Int.not_lt.2 hg2,hol]
    refine⟨by omega,fun g3 hg3 hb3=> ?_⟩
    have gG:bl g3=none:=by grind
    try simp[w4,w3]
    rw[aB]
    refine⟨(g3,⟨i+1,o++ [((dg a i:Int) - br+1000000000:Int)],1⟩),⟨hg3,gG,hI.N3 (x:=(dg a i:Int) - br) (by omega) (by omega),by simp only;omega⟩,by simp only;omega,rfl,by simp,?_⟩
    rw[aV]
    exact dK (by rw[←hol,dN];simp[iv]) (by simp[hbg,hb2,h2g])
   ·try simp[w3]
    intro g2 hg2 h2g hb2
    simp[w3,h2g,Ne.symm h2g,appV,elsV,Int.not_lt.2 hg2,hol]
    refine⟨by omega,fun g3 hg3 hb3=> ?_⟩
    have gG:bl g3=none:=by grind
    try simp[w3]
    rw[aB]
    refine⟨(g3,⟨i+1,o++ [((dg a i:Int) - br:Int)],0⟩),⟨hg3,gG,hI.M4 (x:=(dg a i:Int) - br) (by omega) (by omega),by simp only;omega⟩,by simp only;omega,rfl,by simp,?_⟩
    rw[aV]
    exact dK (by rw[←hol,dN];simp[iv]) (by simp[hbg,hb2,h2g])
 ·have e:i=(lim a).length:=by omega
  subst e
  have hv:=hI.done hab (Nat.le_refl _)
  refine gP 1 bl _ (by simp[hbg]) (lW (ns:=o) hg hbg (by simp) hol) (gL _ hI.dig (by omega)) ?_
  simp[hv]
  exact aR (by simp) rfl rfl
theorem fS (N:Nat) (hN:N≤9223372036854775807):RO Tryz.prog 267 [.int .i64 N] (.sl (iv (lim N))):=by
 have hL:=tF (show N≤18446744073709551615 by omega)
 refine aI Tryz.func267 rfl rfl (by rw[Tryz.ntmps267];simp) fun bl=> ?_
 rw[Tryz.ntmps267,Tryz.results267]
 refine aC ?_
 simp
 intro g0 hg0 hb0
 refine aJ (fun p:Int×List Int×Nat=> [(0,.int .i64 p.2.2),(3,.lsl p.1 1 0 p.2.1.length)]) (fun p=>upd bl p.1 (some ⟨1,iv p.2.1⟩)) (fun p=>lim N=p.2.1++lim p.2.2∧p.2.2≤9223372036854775807∧bl p.1=none∧0≤p.1) (fun p=>p.2.2) _ (g0,[],N) ⟨by simp,hN,hb0,hg0⟩ ⟨rfl,by simp,sub_eq (by simp[iv])⟩ ?_
 rintro⟨g,o,n⟩ ⟨hl,hn,hg,h0⟩
 simp only at hl hn hg h0
 have hlo:o.length≤3:=by have:=congrArg List.length hl;simp at this;omega
 refine aC ?_
 simp
 refine⟨fun h=> ?_,fun h=> ?_⟩
 ·have m0:(n:Int).tmod 1000000000=((n % 1000000000:Nat):Int):=by rw[Int.tmod_eq_emod_of_nonneg (by omega)];omega
  have q0:(n:Int).tdiv 1000000000=((n / 1000000000:Nat):Int):=by rw[Int.tdiv_eq_ediv_of_nonneg (by omega)];omega
  have w2:IntKind.i64.wrap ((n:Int) / 1000000000)=(n:Int) / 1000000000:=i64_in (by omega) (by omega)
  intro g2 hg2 h2g hb2
  simp[h2g,Ne.symm h2g,appV,elsV,Int.not_lt.2 hg2,m0,q0,w2]
  refine⟨by omega,fun g3 hg3 hb3=> ?_⟩
  have gG:bl g3=none:=by grind
  try simp[m0,q0,w2]
  rw[aB]
  refine⟨(g3,o++ [((n % 1000000000:Nat):Int)],n / 1000000000),⟨by rw[hl,Ca h];simp,by simp only;omega,gG,hg3⟩,by simp only;omega,rfl,by simp,?_⟩
  rw[aV]
  exact dK (by rw[dN];simp[iv,m0]) (by simp[hg,hb2,h2g])
 ·have e:n=0:=by omega
  subst e
  rw[aX,List.append_nil] at hl
  rw[hl]
  exact aK [.lsl g 1 0 o.length] 1 (by simp) (dW h0 hg (by simp) (by simp) (mZ o)) (by simp[hg])
theorem Y5 (a b:Nat) (ha:a≤9223372036854775807) (hb:b≤9223372036854775807):RO Tryz.prog 285 [.int .i64 a,.int .i64 b] (.sl (iv (lim (Nat.gcd a b)))):=by
 refine aI Tryz.func285 rfl rfl (by rw[Tryz.ntmps285];simp) fun bl=> ?_
 rw[Tryz.ntmps285,Tryz.results285]
 refine aC ?_
 simp
 refine aJ (fun p:Nat×Nat=> [(0,.int .i64 p.1),(1,.int .i64 p.2)]) (fun _=>bl) (fun p=>Nat.gcd p.1 p.2=Nat.gcd a b∧p.1≤9223372036854775807∧p.2≤9223372036854775807) (fun p=>p.2) _ (a,b) ⟨rfl,ha,hb⟩ ⟨rfl,by simp,Sub.refl _⟩ ?_
 rintro⟨x,y⟩ ⟨hg,hx,hy⟩
 simp only at hg hx hy
 refine aC ?_
 simp
 refine⟨fun h=> ?_,fun h=> ?_⟩
 ·have hy0: ¬ y=0:=by omega
  have hlt:=Nat.mod_lt x h
  have m0:(x:Int).tmod y=((x % y:Nat):Int):=by rw[Int.tmod_eq_emod_of_nonneg (by omega)];simp
  simp[hy0,m0,aB]
  refine⟨y,x % y,⟨?_,hy,by omega⟩,hlt,rfl,by simp,Sub.refl _⟩
  rw[←hg,Nat.gcd_comm x y,Nat.gcd_rec y x,Nat.gcd_comm]
 ·have h0:y=0:=by omega
  subst h0
  rw[Nat.gcd_zero_right] at hg
  refine aD (fS x hx) ?_
  rw[←hg]
  simp
  exact aR (by simp) rfl rfl

theorem Lb {n:Nat} (h:(lim n).length≤60):nD (lim n)=true:=by unfold nD;simp[h]
theorem Gr :lim 9223372036854775807= [854775807,223372036,9]:=by
 refine Ox ?_ (by decide+kernel) (.inr (by decide+kernel))
 intro d hd
 simp at hd
 omega
theorem Gd {a b:Nat} :iS a b≤0 ↔ a≤b:=by unfold iS;split<;>(try split)<;>omega
theorem V3 (n k:Nat):val ((lim n).drop k)≤n:=by
 rcases Nat.lt_or_ge (lim n).length k with h | h
 ·rw[List.drop_of_length_le (by omega)];exact Nat.zero_le _
 ·have:=jV (lim n) h
  rw[eS] at this
  have hp:1≤LB^k:=Nat.pow_pos iO
  have:=Nat.mul_le_mul_right (val ((lim n).drop k)) hp
  omega
theorem wV (n:Nat) (hn:n≤9223372036854775807):RO Tryz.prog 284 [.sl (iv (lim n))] (.tup [.int .i64 n,.bool true]):=by
 have hL:=tF (show n≤18446744073709551615 by omega)
 refine aI Tryz.func284 rfl rfl (by rw[Tryz.ntmps284];simp) fun bl=> ?_
 rw[Tryz.ntmps284,Tryz.results284]
 refine aC ?_
 simp
 refine Ut [(0,.sl (iv (lim n)))] _ bl 14 (.bool false) ⟨rfl,by simp,Sub.refl _⟩ rfl ?_ ?_
 ·simp
  refine aD (mN _ (by omega)) ?_
  simp[Lb (show(lim n).length≤60 by omega)]
  intro g hg0 hg
  refine aU 1 (ys:= [.sl (iv (lim n)),.sl (iv (lim 9223372036854775807))]) ?_ (kV n 9223372036854775807 (by omega) (by rw[Gr];simp)) rfl ?_
  ·have er3:List.range 3= [0,1,2]:=rfl
   simp[frzL,frz,Gr,iv,V.cl,Int.not_lt.2 hg0,er3]
  simp[hg]
  have:=Gd.2 hn
  omega
 have w0:IntKind.i64.wrap (((lim n).length:Int) - 1)=((lim n).length:Int) - 1:=i64_in (by omega) (by omega)
 simp[w0]
 refine aJ (fun p:Nat×Int=> [(0,.sl (iv (lim n))),(4,.int .i64 p.2),(5,.int .i64 ((p.1:Int) - 1))]) (fun _=>bl) (fun p=>p.1≤(lim n).length∧p.2=(val ((lim n).drop p.1):Nat)) (fun p=>p.1) _ ((lim n).length,0) ⟨Nat.le_refl _,by simp[val]⟩ ⟨rfl,by simp,Sub.refl _⟩ ?_
 rintro⟨k,x⟩ ⟨hk,hx⟩
 simp only at hk hx
 refine aC ?_
 simp[-binV, -intV]
 refine⟨fun h1=> ?_,fun h1=> ?_⟩
 ·obtain⟨m,rfl⟩: ∃m,k=m+1:=⟨k - 1,by omega⟩
  have hm:m<(lim n).length:=by omega
  have e1:((m+1:Nat):Int) - 1=m:=by omega
  have hv:val ((lim n).drop m)=dg n m+LB*val ((lim n).drop (m+1)):=by
   rw[List.drop_eq_getElem_cons hm,val,gI hm,Int.toNat_natCast]
  have hle:=V3 n m
  have hLB:LB=1000000000:=rfl
  rw[hLB] at hv
  have w1:IntKind.i64.wrap (x*1000000000)=x*1000000000:=i64_in (by omega) (by omega)
  have w2:IntKind.i64.wrap (x*1000000000+dg n m)=x*1000000000+dg n m:=i64_in (by omega) (by omega)
  have w3:IntKind.i64.wrap ((m:Int) - 1)=(m:Int) - 1:=i64_in (by omega) (by omega)
  simp[-binV, -intV,e1,aZ _ _ hm,w1,w2,w3]
  refine⟨by omega,?_⟩
  rw[aB]
  refine⟨(m,x*1000000000+dg n m),⟨by simp only;omega,by simp only;omega⟩,by simp only;omega,rfl,by simp,Sub.refl _⟩
 ·have e:k=0:=by omega
  subst e
  have hx2:x=n:=by rw[hx];simp
  rw[hx2]
  exact aK [.int .i64 n,.bool true] 1 (by simp) rfl (Sub.refl _)
structure DL2 where
 lo:Int
 hi:Int
theorem Bn (r b n:Nat) (hn:(lim b).length=n+1) (hbr:b≤r) (hrb:r<LB*b) (hl:n≤300000):RO Tryz.prog 296 [.sl (iv (lim r)),.sl (iv (lim b))] (.int .i64 (r / b:Nat)):=by
 have ht:0<dg b n:=R5 hn
 have htl:=eN b n
 have hb0:0<b:=by
  rcases Nat.eq_zero_or_pos b with h | h
  ·rw[h,aX] at hn;simp at hn
  ·exact h
 have hlr:n+1≤(lim r).length:=by have:=cI hbr;omega
 have hbl:b<LB^(n+1):=aL.1 (by omega)
 have aXA:(lim r).length≤n+2:=by
  refine aL.2 (Nat.lt_of_lt_of_le hrb ?_)
  rw[Nat.pow_succ,Nat.mul_comm]
  exact Nat.mul_le_mul_right _ (Nat.le_of_lt hbl)
 have hLB:LB=1000000000:=rfl
 have er:r=(dg r (n+1)*LB+dg r n)*LB^n+pv r n:=by
  have h1:=eK r n
  have h2:=eK r (n+1)
  rw[fM (by omega)] at h2
  have e1:dg r (n+1)*LB*LB^n=LB^n*LB*dg r (n+1):=by ac_rfl
  have e2:dg r n*LB^n=LB^n*dg r n:=Nat.mul_comm _ _
  rw[Nat.pow_succ] at h2
  rw[Nat.add_mul]
  omega
 have eb:b=dg b n*LB^n+pv b n:=by
  have h1:=eK b n
  rw[fM (by omega)] at h1
  have e2:dg b n*LB^n=LB^n*dg b n:=Nat.mul_comm _ _
  omega
 obtain⟨x,hx⟩: ∃x,x=dg r (n+1)*LB+dg r n:=⟨_,rfl⟩
 have hlo:x / (dg b n+1)≤r / b:=by
  have:=Ri (x:=x) (rl:=pv r n) (W1 b n) ht
  rw[hx,←er,←eb,←hx] at this;exact this
 have hhi:r / b≤x / dg b n:=by
  have:=Bh (x:=x) (bl:=pv b n) (W1 r n) ht
  rw[hx,←er,←eb,←hx] at this;exact this
 have hq:r / b≤999999999:=by
  have:r / b<LB:=by rw[Nat.div_lt_iff_lt_mul hb0];exact hrb
  omega
 have hr1:=eN r (n+1)
 have hr0:=eN r n
 have hxl:x≤1000000000000000000:=by rw[hx,hLB];omega
 refine aI Tryz.func296 rfl rfl (by rw[Tryz.ntmps296];simp) fun bl=> ?_
 rw[Tryz.ntmps296,Tryz.results296]
 obtain⟨d1,hd1⟩: ∃d1:Int,d1=dg r (n+1):=⟨_,rfl⟩
 have w0:IntKind.i64.wrap (((lim b).length:Int) - 1)=(n:Int):=by rw[i64_in (by omega) (by omega)];omega
 have w1:IntKind.i64.wrap (d1*1000000000)=d1*1000000000:=i64_in (by omega) (by omega)
 have w2:IntKind.i64.wrap ((dg r n:Int)+d1*1000000000)=x:=by rw[i64_in (by omega) (by omega),hx,hLB];omega
 have w3:IntKind.i64.wrap ((dg b n:Int)+1)=(dg b n:Int)+1:=i64_in (by omega) (by omega)
 have lr:=aZ r n (by omega)
 have lb:=aZ b n (by omega)
 have q1:(iv (lim r))[(lim b).length]? =if(lim b).length<(lim r).length then some [.int .i64 d1] else none:=by
  split
  ·rename_i h;rw[aZ _ _ h,hn,hd1]
  ·rename_i h;rw[List.getElem?_eq_none (by simp;omega)]
 have y1:(x:Int).tdiv ((dg b n:Int)+1)=(x / (dg b n+1):Nat):=by rw[Int.tdiv_eq_ediv_of_nonneg (by omega)];simp
 have y2:(x:Int).tdiv (dg b n:Int)=(x / dg b n:Nat):=by rw[Int.tdiv_eq_ediv_of_nonneg (by omega)];simp
 have y3:=wq (x:=(x:Int)) (n:=(dg b n:Int)+1) (by omega) (by omega) (by omega)
 have y4:=wq (x:=(x:Int)) (n:=(dg b n:Int)) (by omega) (by omega) (by omega)
 rw[y1] at y3
 rw[y2] at y4
 obtain⟨lo0,aCX⟩: ∃l:Int,l=(x / (dg b n+1):Nat):=⟨_,rfl⟩
 obtain⟨hi0,aJ7⟩: ∃l:Int,l=(x / dg b n:Nat):=⟨_,rfl⟩
 rw[←aCX] at y1 y3
 rw[←aJ7] at y2 y4
 have z1: ¬ (dg b n:Int)+1=0:=by omega
 have z2: ¬ dg b n=0:=by omega
 obtain⟨D,hD⟩: ∃D:Int,D=(r / b:Nat):=⟨_,rfl⟩
 rw[←hD]
 have hD0:0≤D:=by rw[hD];exact Int.natCast_nonneg _
 have hDq:D≤999999999:=by rw[hD];generalize r / b=z at hq ⊢;omega
 have aTA:lo0≤D:=by rw[aCX,hD];generalize r / b=z at hlo ⊢;generalize x / (dg b n+1)=z2 at hlo ⊢;omega
 have aX9:D≤hi0:=by rw[aJ7,hD];generalize r / b=z at hhi ⊢;generalize x / dg b n=z2 at hhi ⊢;omega
 have aHK:0≤lo0:=by rw[aCX];exact Int.natCast_nonneg _
 refine aE ?_
 simp
 refine aE ?_
 simp
 refine aE ?_
 simp[w0,lr]
 refine fZ (fun _:Unit=> [(0,.sl (iv (lim r))),(1,.sl (iv (lim b))),(5,.int .i64 (lim b).length),(6,.int .i64 x)]) (fun _=>bl) (fun _=>True) 63 ?_ ?_
 ·refine aC ?_
  simp[-binV, -intV]
  refine⟨fun h=> ?_,fun h=> ?_⟩
  ·have q2:(lim r)[(lim b).length]'h=d1:=by rw[gI h,hn,hd1]
   simp[-binV, -intV,q1,h,q2,w1,w2]
   rw[aH]
   exact⟨(),trivial,rfl,by simp,Sub.refl _⟩
  ·have e0:dg r (n+1)=0:=jQ (by omega)
   have ex:dg r n=x:=by rw[hx,e0];simp
   rw[aH]
   exact⟨(),trivial,rfl,by simp[ex],Sub.refl _⟩
 rintro _ _
 refine aC ?_
 simp[w0,lb,w3,y1,y2,y3,y4,z1,z2,minV]
 refine aJ (fun p:DL2=> [(0,.sl (iv (lim r))),(1,.sl (iv (lim b))),(7,.int .i64 p.lo),(8,.int .i64 p.hi)]) (fun _=>bl) (fun p=>0≤p.lo∧p.lo≤D∧D≤p.hi∧p.hi≤999999999) (fun p=>(p.hi - p.lo).toNat) _ ⟨lo0,if hi0<999999999 then hi0 else 999999999⟩ ⟨aHK,aTA,by simp only;split<;>omega,by simp only;split<;>omega⟩ ⟨rfl,by simp[minV],Sub.refl _⟩ ?_
 rintro⟨lo,hi⟩ ⟨a1,a2,a3,a4⟩
 simp only at a1 a2 a3 a4
 refine aC ?_
 simp
 refine⟨fun h=> ?_,fun h=> ?_⟩
 ·have v1:IntKind.i64.wrap (lo+hi)=lo+hi:=i64_in (by omega) (by omega)
  have v2:IntKind.i64.wrap (lo+hi+1)=lo+hi+1:=i64_in (by omega) (by omega)
  have v3:=wq (x:=lo+hi+1) (n:=2) (by omega) (by omega) (by omega)
  have v4:(lo+hi+1).tdiv 2=(((lo+hi+1) / 2).toNat:Nat):=by rw[Int.tdiv_eq_ediv_of_nonneg (by omega)];omega
  rw[v4] at v3
  obtain⟨q,hqq⟩: ∃q:Nat,q=((lo+hi+1) / 2).toNat:=⟨_,rfl⟩
  rw[←hqq] at v3 v4
  have hq2:(q:Int)=(lo+hi+1) / 2:=by omega
  have aX1:q≤999999999:=by omega
  simp[v1,v2,v3,v4]
  refine aD (fS q (by omega)) ?_
  simp
  have lq:(lim q).length≤3:=tF (by omega)
  refine aD (fI b q (by omega) (by omega)) ?_
  simp
  have lbq:=fP (k:=300002) (l:=3) (show(lim b).length≤300002 by omega) lq
  refine aD (kV _ _ (by omega) (by omega)) ?_
  simp[Gd]
  have hdh:=Ff (r:=r) (q:=q) hb0
  refine⟨fun h2=> ?_,fun h2=> ?_⟩
  ·rw[aB]
   have h3:=hdh.1 h2
   refine⟨⟨q,hi⟩,⟨by simp only;omega,?_,a3,a4⟩,by simp only;omega,rfl,by simp,Sub.refl _⟩
   simp only
   rw[hD]
   generalize r / b=z at h3 ⊢
   omega
  ·have v5:IntKind.i64.wrap ((q:Int) - 1)=(q:Int) - 1:=i64_in (by omega) (by omega)
   simp[v5]
   rw[aB]
   have h3: ¬ q≤r / b:=fun hh=>by have:=hdh.2 hh;omega
   refine⟨⟨lo,(q:Int) - 1⟩,⟨a1,a2,?_,by simp only;omega⟩,by simp only;omega,rfl,by simp,Sub.refl _⟩
   simp only
   rw[hD]
   generalize r / b=z at h3 ⊢
   omega
 ·have:lo=D:=by omega
  rw[this]
  exact aR (by simp) rfl rfl
theorem Jk {r d k:Nat} (hr:(lim r).length≤k) (hd:d<1000000000):(lim (r*1000000000+d)).length≤k+1:=by
 refine aL.2 ?_
 have h5:=aL.1 hr
 have e:LB^(k+1)=LB^k*1000000000:=Nat.pow_succ ..
 rw[e]
 generalize LB^k=P at h5 ⊢
 omega
structure SD where
 g:Int
 i:Nat
 Q:List Int
 r:Nat
theorem uZ (a b:Nat) (hb0:0<b) (ha:(lim a).length≤200000) (hbl:(lim b).length≤200000):RO Tryz.prog 286 [.sl (iv (lim a)),.sl (iv (lim b))] (.tup [.sl (iv (lim (a / b))),.sl (iv (lim (a % b)))]):=by
 refine aI Tryz.func286 rfl rfl (by rw[Tryz.ntmps286];simp) fun bl=> ?_
 rw[Tryz.ntmps286,Tryz.results286]
 refine aE ?_
 simp
 refine aE ?_
 simp
 refine⟨fun h1=> ?_,fun h1=> ?_⟩
 ·have h1':(lim b).length=1:=by omega
  obtain⟨b1,b2,b3⟩:=Vb h1'
  simp[aZ b 0 (by omega),b1]
  refine aD (V9 a b (by omega) b3 b2) ?_
  have hr:a % b<b:=Nat.mod_lt _ b3
  obtain⟨r,hr2⟩: ∃r,r=a % b:=⟨_,rfl⟩
  rw[←hr2] at hr ⊢
  simp
  refine aD (fS r (by omega)) ?_
  simp
  exact aK [.sl (iv (lim (a / b))),.sl (iv (lim r))] 1 (by simp) rfl (Sub.refl _)
 have hbz:(lim b).length≠0:=fun h0=>by have:=eJ.1 (List.length_eq_zero_iff.1 h0);omega
 obtain⟨n,hn⟩: ∃n,(lim b).length=n+1:=⟨(lim b).length - 1,by omega⟩
 have w0:IntKind.i64.wrap (((lim a).length:Int) - 1)=((lim a).length:Int) - 1:=i64_in (by omega) (by omega)
 refine aC ?_
 simp
 refine⟨by omega,by unfold maxLen;omega,fun g8 hg8 hb8 g9 hg9 h98 hb9=> ?_⟩
 have er:List.replicate ((lim a).length) [V.int IntKind.i64 0]=iv (List.replicate ((lim a).length) 0):=by simp[iv]
 simp[er,w0]
 have aMO:bl g8=none:=by simpa using hb8
 refine cP 1 9 (.sl (iv (lim 0))) (upd bl g8 (some ⟨1,iv (List.replicate (lim a).length 0)⟩)) (by simp[h98,hb9]) ?_ ?_
 ·rw[aX]
  exact dW hg9 (by simp[h98,hb9]) (by simp;rfl) rfl rfl
 refine aJ (fun p:SL=> [(0,.sl (iv (lim a))),(1,.sl (iv (lim b))),(8,.lsl g8 1 0 (lim a).length),(9,.sl (iv (lim p.r.toNat))),(10,.int .i64 ((p.i:Int) - 1))]) (fun p=>upd bl g8 (some ⟨1,iv (List.replicate p.i 0++p.Q)⟩))
  (fun p=>qI a b p.i p.Q p.r.toNat) (fun p=>p.i) _ ⟨(lim a).length,[],0⟩ (qI.start a b hb0) ⟨rfl,by simp,sub_eq (by simp)⟩ ?_
 rintro⟨i,Q,r⟩ hI
 simp only at hI
 have hr:=hI.rlt
 have hle:=hI.le
 have hql:=hI.len
 generalize r.toNat=r at *
 refine aC ?_
 simp
 refine⟨fun h1=> ?_,fun h1=> ?_⟩
 ·obtain⟨m,rfl⟩: ∃m,i=m+1:=⟨i - 1,by omega⟩
  have hm:m<(lim a).length:=by omega
  have hd:=eN a m
  obtain⟨z,hz⟩: ∃z,z=r*1000000000+dg a m:=⟨_,rfl⟩
  have hN:=hI.next (q:=z / b) (r':=z % b) (by rw[hz]) (by rw[hz])
  have e1:((m+1:Nat):Int) - 1=m:=by omega
  have er1:List.range 1= [0]:=rfl
  have hrl:(lim r).length≤200000:=kA (Nat.le_of_lt hr) hbl
  simp[e1,aZ _ _ hm]
  refine⟨by omega,?_⟩
  intro g2 hg2 h28 hb2
  have cD:((iv (lim r)).all fun c=>c.length==1 && c.all V.one)=true:=by simp[iv]
  simp[h28,Ne.symm h28,appV,elsV,Int.not_lt.2 hg2,cD,er1]
  refine⟨by omega,fun g3 hg3 hb3=> ?_⟩
  have gG:g3≠g8∧bl g3=none:=by grind
  have hv:val ((dg a m:Int)::lim r)=z:=by
   have hLB:LB=1000000000:=rfl
   rw[val,eS,hLB,hz];simp;omega
  have hD:Dig ((dg a m:Int)::lim r):=fun d hd2=>by
   rcases List.mem_cons.1 hd2 with rfl | hd2
   ·omega
   ·exact gE r d hd2
  refine gP 1 (upd bl g8 (some ⟨1,iv (List.replicate (m+1) 0++Q)⟩)) _ ?_ (lW (ns:=(dg a m:Int)::lim r) hg3 (by simp[gG.1,gG.2]) (by simp[iv]) (by simp)) (gL _ hD (by simp;omega)) ?_
  ·intro u y hu
   simp only[aA,aF] at hu ⊢
   grind
  rw[hv]
  have hzr:(lim z).length≤200001:=by rw[hz];exact Jk hrl hd
  simp
  refine aD (kV z b (by omega) (by omega)) ?_
  have w3:IntKind.i64.wrap ((m:Int) - 1)=(m:Int) - 1:=i64_in (by omega) (by omega)
  simp[Fz]
  refine⟨fun h5=> ?_,fun h5=> ?_⟩
  ·rw[Nat.div_eq_of_lt h5,Nat.mod_eq_of_lt h5] at hN
   simp[w3]
   rw[aB]
   refine⟨⟨m,0::Q,z⟩,by simpa using hN,by simp only;omega,rfl,by simp,sub_eq ?_⟩
   rw[←Kv]
  ·have hzb:z<LB*b:=by
    have hLB:LB=1000000000:=rfl
    rw[hLB,hz];omega
   refine aD (Bn z b n hn h5 hzb (by omega)) ?_
   have q5:(iv (List.replicate (m+1) 0++Q))[m]? =some [.int .i64 0]:=by rw[eG _ _ (by simp;omega)];simp
   have hqq:z / b≤999999999:=by
    have:z / b<LB:=by rw[Nat.div_lt_iff_lt_mul hb0];exact hzb
    have hLB:LB=1000000000:=rfl
    omega
   obtain⟨q,hq⟩: ∃q,q=z / b:=⟨_,rfl⟩
   have aR5:z - b*q=z % b:=by rw[hq];have:=Nat.div_add_mod z b;omega
   have aSS:b*q≤z:=by rw[hq];exact Nat.mul_div_le z b
   rw[←hq] at hqq hN ⊢
   simp[q5,hm]
   refine aD (fS q (by omega)) ?_
   simp
   have lq:(lim q).length≤3:=tF (by omega)
   refine aD (fI b q (by omega) (by omega)) ?_
   simp
   refine aD (vQ z (b*q) aSS (by omega)) ?_
   rw[aR5]
   simp[w3]
   rw[aB]
   refine⟨⟨m,(q:Int)::Q,(z % b:Nat)⟩,by simp only[Int.toNat_natCast];exact hN,by simp only;omega,rfl,by simp only[Int.toNat_natCast];simp,sub_eq ?_⟩
   rw[←pD m _ 0 Q,←eX]
 ·have e:i=0:=by omega
  subst e
  obtain⟨h2,h3⟩:=hI.done
  refine gP 1 bl _ (by simp[aMO]) (lW (ns:=Q) hg8 aMO (by simp) (by simp[hql])) (gL _ hI.dig (by omega)) ?_
  rw[h2,h3]
  simp
  exact aK [.sl (iv (lim (a / b))),.sl (iv (lim (a % b)))] 1 (by simp) rfl (by simp)
theorem qV {bl bl0:Int→Option Blk} {g:Int} {ns:List Int} (h0:0≤g∨ns= []) (hg:bl0 g=none) (hb:bl g=some ⟨1,iv ns⟩):frz (dropB bl bl0) 1 (.lsl g 1 0 ns.length)=some (.sl (iv ns)):=by
 rcases Int.lt_or_le g 0 with h | h
 ·have:ns= []:=by rcases h0 with h0 | h0;omega;exact h0
  subst this
  unfold frz
  rw[if_pos h];rfl
 ·exact dW h hg hb (by simp) (mZ ns)
theorem M6 (a b:Nat) (ha:(lim a).length≤200000) (hb:(lim b).length≤200000):RO Tryz.prog 263 [.sl (iv (lim a)),.sl (iv (lim b))] (.sl (iv (lim (Nat.gcd a b)))):=by
 have cD: ∀n:Nat,((iv (lim n)).all fun c=>c.length==1 && c.all V.one)=true:=fun n=>by simp[iv]
 have aG5: ∀n:Nat,iv (lim n)= []→lim n= []:=fun n h=>by simpa [iv] using h
 refine aI Tryz.func263 rfl rfl (by rw[Tryz.ntmps263];simp) fun bl=> ?_
 rw[Tryz.ntmps263,Tryz.results263]
 refine aC ?_
 simp
 intro g0 hg0 hb0
 simp[appV,elsV,cD,Int.not_lt.2 hg0]
 refine⟨by omega,fun g1 hg1 hb1 g2 hg2 n21 hb2=> ?_⟩
 have Bc:bl g2=none:=by grind
 have aTG:bl g1=none:=by grind
 try simp[appV,elsV,cD,Int.not_lt.2 hg2]
 refine⟨by omega,fun g3 hg3 hb3=> ?_⟩
 have n31:g3≠g1:=by grind
 have gG:bl g3=none:=by grind
 refine cP 1 5 (.sl (iv (lim a))) (upd bl g3 (some ⟨1,iv (lim b)⟩)) ?_ ?_ ?_
 ·intro u y hu
  simp only[aA,aF] at hu ⊢
  grind
 ·exact qV (hg1.imp id (aG5 a)) (by simp[Ne.symm n31,aTG]) (by simp[n21,Ne.symm n21,n31,Ne.symm n31])
 refine cP 1 6 (.sl (iv (lim b))) bl (by simp[gG]) ?_ ?_
 ·exact qV (hg3.imp id (aG5 b)) gG (by simp)
 refine aJ (fun p:Nat×Nat=> [(5,.sl (iv (lim p.1))),(6,.sl (iv (lim p.2)))]) (fun _=>bl) (fun p=>Nat.gcd p.1 p.2=Nat.gcd a b∧(lim p.1).length≤200000∧(lim p.2).length≤200000) (fun p=>p.2) _ (a,b) ⟨rfl,ha,hb⟩ ⟨rfl,by simp,Sub.refl _⟩ ?_
 rintro⟨x,y⟩ ⟨hg,hx,hy⟩
 simp only at hg hx hy
 refine aC ?_
 simp
 refine⟨fun h=> ?_,fun h=> ?_⟩
 ·have hy0:0<y:=(pZ y).1 (by simpa using h)
  refine bQ [(5,.sl (iv (lim x))),(6,.sl (iv (lim y)))] _ bl 29 (.bool (decide ((lim x).length<3)&& decide ((lim y).length<3))) ⟨rfl,by simp,Sub.refl _⟩ rfl ?_ ?_
  ·simp
   refine⟨fun h3=> ?_,fun h3 h4=>by omega⟩
   rw[Bool.eq_iff_iff];simp;omega
  simp
  refine⟨fun h1 h2=> ?_,fun h1=> ?_⟩
  ·have bx:x≤9223372036854775807:=by
    have:=aL.1 (show(lim x).length≤2 by omega)
    have e:LB^2=1000000000000000000:=by decide+kernel
    omega
   have by':y≤9223372036854775807:=by
    have:=aL.1 (show(lim y).length≤2 by omega)
    have e:LB^2=1000000000000000000:=by decide+kernel
    omega
   refine aD (wV x bx) ?_
   simp
   refine aD (wV y by') ?_
   simp
   refine aD (Y5 x y bx by') ?_
   rw[hg]
   simp
   exact aR (by simp) rfl rfl
  ·refine aD (uZ x y hy0 hx hy) ?_
   simp
   rw[aB]
   have hlt:=Nat.mod_lt x hy0
   refine⟨(y,x % y),⟨?_,hy,?_⟩,hlt,rfl,by simp,Sub.refl _⟩
   ·rw[←hg,Nat.gcd_comm x y,Nat.gcd_rec y x,Nat.gcd_comm]
   ·exact Nat.le_trans (cI (Nat.le_of_lt hlt)) hy
 ·have h0:y=0:=eJ.1 (by simpa using h)
  subst h0
  rw[Nat.gcd_zero_right] at hg
  rw[←hg]
  exact aR (by simp) rfl rfl

theorem Aa {bl bl0:Int→Option Blk} {g:Int} {ns:List Int} {b:Bool} (h0:0≤g∨ns= []) (hg:bl0 g=none) (hb:bl g=some ⟨1,iv ns⟩):frz (dropB bl bl0) 2 (.agg [.bool b,.lsl g 1 0 ns.length])=some (.agg [.bool b,.sl (iv ns)]):=by
 have h1:=qV h0 hg hb
 have h2:frz (dropB bl bl0) 1 (.bool b)=some (.bool b):=by simp[frz]
 rw[qU]
 simp only[List.mapM_cons,List.mapM_nil,h1,h2]
 rfl
theorem eI (neg:Bool) (m:Nat) (hm:(lim m).length≤60):RO Tryz.prog 254 [.bool neg,.sl (iv (lim m))] (.agg (biC (sg neg m))):=by
 have cD:((iv (lim m)).all fun c=>c.length==1 && c.all V.one)=true:=by simp[iv]
 refine aI Tryz.func254 rfl rfl (by rw[Tryz.ntmps254];simp) fun bl=> ?_
 rw[Tryz.ntmps254,Tryz.results254]
 refine aC ?_
 simp
 intro g hg0 hg
 refine aD (Lq (lim m) (gE m) (by omega)) ?_
 rw[eS,if_pos hm]
 simp
 cases neg
 all_goals
  refine vF (vU ?_)
  simp
  intro g1 hg1 h1g hb1
  simp[h1g,Ne.symm h1g,appV,elsV,Int.not_lt.2 hg1,cD]
  refine⟨by omega,fun g2 hg2 hb2=> ?_⟩
  have h2g:g2≠g:=by grind
  have Bc:bl g2=none:=by grind
  have hnn:0≤g2∨lim m= []:=hg2.imp id (fun h=>by simpa [iv] using h)
  simp[h1g,Ne.symm h1g,h2g,Ne.symm h2g]
 ·refine aK [.agg [.bool false,.lsl g2 1 0 (lim m).length]] 2 (by simp[h1g,Ne.symm h1g,h2g,Ne.symm h2g]) ?_ (by simp[hg,hb1,Bc,h1g,h2g])
  rw[R9]
  exact Aa hnn Bc (by simp[h2g])
 ·refine aK [.agg [.bool (decide (0<(lim m).length)),.lsl g2 1 0 (lim m).length]] 2 (by simp[h1g,Ne.symm h1g,h2g,Ne.symm h2g]) ?_ (by simp[hg,hb1,Bc,h1g,h2g])
  rw[R9]
  exact Aa hnn Bc (by simp[h2g])
theorem Kh (x y:Int) (hx:(lim x.natAbs).length≤1048576) (hy:(lim y.natAbs).length≤1048576):RO Tryz.prog 294 [.agg (biC x),.agg (biC y)] (.int .i64 (gZ x y)):=by
 refine aI Tryz.func294 rfl rfl (by rw[Tryz.ntmps294];simp) fun bl=> ?_
 rw[Tryz.ntmps294,Tryz.results294]
 refine aE ?_
 rw[show biC x= [.bool (decide (x<0)),.sl (iv (lim x.natAbs))] from rfl,show biC y= [.bool (decide (y<0)),.sl (iv (lim y.natAbs))] from rfl]
 simp
 intro g hg0 hg g2 hg2 h2g hb2
 refine aC ?_
 simp[h2g,Ne.symm h2g]
 by_cases h1:x<0<;>by_cases h2:y<0
 ·refine cH [(2,.loc g 2 0 0),(3,.loc g2 2 0 0)] _ (upd (upd bl g (some ⟨2,[[.bool (decide (x<0)),.sl (iv (lim x.natAbs))]]⟩)) g2 (some ⟨2,[[.bool (decide (y<0)),.sl (iv (lim y.natAbs))]]⟩)) 5 (.bool false) (upd (upd bl g (some ⟨2,[[.bool (decide (x<0)),.sl (iv (lim x.natAbs))]]⟩)) g2 (some ⟨2,[[.bool (decide (y<0)),.sl (iv (lim y.natAbs))]]⟩)) ⟨rfl,by simp,Sub.refl _⟩ rfl (by simp[h1,h2,h2g,Ne.symm h2g]) ?_
  simp[h1,h2,h2g,Ne.symm h2g]
  refine cH [(2,.loc g 2 0 0),(3,.loc g2 2 0 0)] _ (upd (upd bl g (some ⟨2,[[.bool (decide (x<0)),.sl (iv (lim x.natAbs))]]⟩)) g2 (some ⟨2,[[.bool (decide (y<0)),.sl (iv (lim y.natAbs))]]⟩)) 13 (.bool false) (upd (upd bl g (some ⟨2,[[.bool (decide (x<0)),.sl (iv (lim x.natAbs))]]⟩)) g2 (some ⟨2,[[.bool (decide (y<0)),.sl (iv (lim y.natAbs))]]⟩)) ⟨rfl,by simp,sub_eq (by simp[h1,h2])⟩ rfl (by simp[h1,h2,h2g,Ne.symm h2g]) ?_
  simp[h1,h2,h2g,Ne.symm h2g]
  refine aD (kV _ _ hy hx) ?_
  simp
  refine aK [.int .i64 (gZ x y)] 0 ?_ (by simp[frz]) (by simp[hg,hb2])
  have:iS y.natAbs x.natAbs=gZ x y:=by unfold iS gZ;split<;>split<;>(try split)<;>(try split)<;>omega
  simp[this]
 ·refine cH [(2,.loc g 2 0 0),(3,.loc g2 2 0 0)] _ (upd (upd bl g (some ⟨2,[[.bool (decide (x<0)),.sl (iv (lim x.natAbs))]]⟩)) g2 (some ⟨2,[[.bool (decide (y<0)),.sl (iv (lim y.natAbs))]]⟩)) 5 (.bool true) (upd (upd bl g (some ⟨2,[[.bool (decide (x<0)),.sl (iv (lim x.natAbs))]]⟩)) g2 (some ⟨2,[[.bool (decide (y<0)),.sl (iv (lim y.natAbs))]]⟩)) ⟨rfl,by simp,Sub.refl _⟩ rfl (by simp[h1,h2,h2g,Ne.symm h2g]) ?_
  simp[h1,h2,h2g,Ne.symm h2g]
  have:gZ x y= -1:=by unfold gZ;rw[if_pos (by omega)]
  exact aK [.int .i64 (-1)] 0 (by simp) (by simp[frz,this]) (by simp[hg,hb2])
 ·refine cH [(2,.loc g 2 0 0),(3,.loc g2 2 0 0)] _ (upd (upd bl g (some ⟨2,[[.bool (decide (x<0)),.sl (iv (lim x.natAbs))]]⟩)) g2 (some ⟨2,[[.bool (decide (y<0)),.sl (iv (lim y.natAbs))]]⟩)) 5 (.bool false) (upd (upd bl g (some ⟨2,[[.bool (decide (x<0)),.sl (iv (lim x.natAbs))]]⟩)) g2 (some ⟨2,[[.bool (decide (y<0)),.sl (iv (lim y.natAbs))]]⟩)) ⟨rfl,by simp,Sub.refl _⟩ rfl (by simp[h1,h2,h2g,Ne.symm h2g]) ?_
  simp[h1,h2,h2g,Ne.symm h2g]
  refine cH [(2,.loc g 2 0 0),(3,.loc g2 2 0 0)] _ (upd (upd bl g (some ⟨2,[[.bool (decide (x<0)),.sl (iv (lim x.natAbs))]]⟩)) g2 (some ⟨2,[[.bool (decide (y<0)),.sl (iv (lim y.natAbs))]]⟩)) 13 (.bool true) (upd (upd bl g (some ⟨2,[[.bool (decide (x<0)),.sl (iv (lim x.natAbs))]]⟩)) g2 (some ⟨2,[[.bool (decide (y<0)),.sl (iv (lim y.natAbs))]]⟩)) ⟨rfl,by simp,sub_eq (by simp[h1,h2])⟩ rfl (by simp[h1,h2,h2g,Ne.symm h2g]) ?_
  simp[h1,h2,h2g,Ne.symm h2g]
  have:gZ x y=1:=by unfold gZ;rw[if_neg (by omega),if_neg (by omega)]
  exact aK [.int .i64 1] 0 (by simp) (by simp[frz,this]) (by simp[hg,hb2])
 ·refine cH [(2,.loc g 2 0 0),(3,.loc g2 2 0 0)] _ (upd (upd bl g (some ⟨2,[[.bool (decide (x<0)),.sl (iv (lim x.natAbs))]]⟩)) g2 (some ⟨2,[[.bool (decide (y<0)),.sl (iv (lim y.natAbs))]]⟩)) 5 (.bool false) (upd (upd bl g (some ⟨2,[[.bool (decide (x<0)),.sl (iv (lim x.natAbs))]]⟩)) g2 (some ⟨2,[[.bool (decide (y<0)),.sl (iv (lim y.natAbs))]]⟩)) ⟨rfl,by simp,Sub.refl _⟩ rfl (by simp[h1,h2,h2g,Ne.symm h2g]) ?_
  simp[h1,h2,h2g,Ne.symm h2g]
  refine cH [(2,.loc g 2 0 0),(3,.loc g2 2 0 0)] _ (upd (upd bl g (some ⟨2,[[.bool (decide (x<0)),.sl (iv (lim x.natAbs))]]⟩)) g2 (some ⟨2,[[.bool (decide (y<0)),.sl (iv (lim y.natAbs))]]⟩)) 13 (.bool false) (upd (upd bl g (some ⟨2,[[.bool (decide (x<0)),.sl (iv (lim x.natAbs))]]⟩)) g2 (some ⟨2,[[.bool (decide (y<0)),.sl (iv (lim y.natAbs))]]⟩)) ⟨rfl,by simp,sub_eq (by simp[h1,h2])⟩ rfl (by simp[h1,h2,h2g,Ne.symm h2g]) ?_
  simp[h1,h2,h2g,Ne.symm h2g]
  refine aD (kV _ _ hx hy) ?_
  simp
  refine aK [.int .i64 (gZ x y)] 0 ?_ (by simp[frz]) (by simp[hg,hb2])
  have:iS x.natAbs y.natAbs=gZ x y:=by unfold iS gZ;split<;>split<;>(try split)<;>(try split)<;>omega
  simp[this]
theorem mT (n:Nat):RO Tryz.prog 262 [.sl (iv (lim n))] (.bool (decide (n=1))):=by
 refine aI Tryz.func262 rfl rfl (by rw[Tryz.ntmps262];simp) fun bl=> ?_
 rw[Tryz.ntmps262,Tryz.results262]
 refine aC ?_
 simp
 refine bQ [(0,.sl (iv (lim n)))] _ bl 2 (.bool (decide (n=1))) ⟨rfl,by simp,Sub.refl _⟩ rfl ?_ ?_
 ·simp
  by_cases h:(lim n).length=1
  ·obtain⟨k1,k2,k3⟩:=Vb h
   simp[h,aZ n 0 (by omega),k1,vC]
   rw[gI (by omega),k1]
   omega
  ·have hn:n≠1:=fun e=>h (by rw[e,Fi];rfl)
   have h2: ¬ ((lim n).length:Int)=1:=by omega
   simp[h,h2,hn]
 simp
 exact aR (by simp) rfl rfl
theorem Ir (a b:Rat) (ha:fits a) (hb:fits b):RO Tryz.prog 278 [.agg (rq a).c,.agg (rq b).c] (.int .i64 (G1 a b)):=by
 obtain⟨a1,a2⟩:=ha
 obtain⟨b1,b2⟩:=hb
 have n1:=fP a1 b2
 have n2:=fP b1 a2
 have e1:sg (decide (a.num<0)) (a.num.natAbs*b.den)=a.num*b.den:=by
  have:=sH a.num b.den
  have h0:decide (((b.den:Nat):Int)<0)=false:=decide_eq_false (by omega)
  rw[h0,Bool.bne_false,Int.natAbs_natCast] at this
  exact this
 have e2:sg (decide (b.num<0)) (b.num.natAbs*a.den)=b.num*a.den:=by
  have:=sH b.num a.den
  have h0:decide (((a.den:Nat):Int)<0)=false:=decide_eq_false (by omega)
  rw[h0,Bool.bne_false,Int.natAbs_natCast] at this
  exact this
 refine aI Tryz.func278 rfl rfl (by rw[Tryz.ntmps278];simp) fun bl=> ?_
 rw[Tryz.ntmps278,Tryz.results278]
 refine aE ?_
 rw[gV,gV]
 simp
 intro g hg0 hg g2 hg2 h2g hb2
 refine aC ?_
 simp
 refine cQ aM (by kernel_rfl) ?_
 simp[h2g,Ne.symm h2g]
 refine aO (fI _ _ (by omega) (by omega)) ?_
 simp
 refine aO (eI _ _ (by omega)) ?_
 rw[e1]
 simp[h2g,Ne.symm h2g]
 refine aO (fI _ _ (by omega) (by omega)) ?_
 simp
 refine aO (eI _ _ (by omega)) ?_
 rw[e2]
 simp
 refine aO (Kh _ _ (by rw[←e1,qD];omega) (by rw[←e2,qD];omega)) ?_
 simp
 exact aK [.int .i64 (G1 a b)] 0 (by simp[G1]) (by simp[frz]) (by simp[hg,hb2])
theorem mJ (r:RT) (hm:r.m.length≤140737488351232) (hd:r.d.length≤140737488351232):RO Tryz.prog 213 [.agg r.c] (.bool (decide r.ok)):=by
 refine aI Tryz.func213 rfl rfl (by rw[Tryz.ntmps213];simp) fun bl=> ?_
 rw[Tryz.ntmps213,Tryz.results213]
 refine aC ?_
 simp[RT.c]
 intro g hg0 hg
 refine cH [(1,.loc g 3 0 0)] _ (upd bl g (some ⟨3,[[.bool r.neg,.sl (iv r.m),.sl (iv r.d)]]⟩)) 31 (.bool r.bad) (upd bl g (some ⟨3,[[.bool r.neg,.sl (iv r.m),.sl (iv r.d)]]⟩)) ⟨rfl,by simp,Sub.refl _⟩ rfl ?_ ?_
 ·simp
  refine aD (vJ r.neg r.m hm) ?_
  simp[RT.bad]
  refine⟨fun h=>by simp[h],fun h=> ?_⟩
  refine aD (mN r.d hd) ?_
  simp[h]
  refine⟨fun a=>by simp[a],fun a=>⟨fun b=>by simp[b],fun b=>⟨fun c=> .inr (by omega),fun c=> ?_⟩⟩⟩
  have c2: ¬ 24<r.d.length:=by omega
  simp[a,b,c2]
  omega
 simp
 refine⟨fun h=> ?_,fun h=> ?_⟩
 ·refine aK [.bool false] 0 (by simp) ?_ (by simp[hg])
  have: ¬ r.ok:=fun hk=>by have:=(RT.Mz.1 hk).1;rw[h] at this;cases this
  simp[frz,this]
 ·obtain⟨l1,l2,l3,l4⟩:=RT.aSG h
  rw[l1,l2]
  refine aD (M6 (val r.m) (val r.d) (by rw[←l1];omega) (by rw[←l2];omega)) ?_
  simp
  refine aD (mT _) ?_
  simp
  refine aK [.bool (decide (Nat.gcd (val r.m) (val r.d)=1))] 0 (by simp) ?_ (by simp[hg])
  simp[frz,RT.Mz,h]
def sgq (x:Option Rat):Int:=match x with | some q=>q.num.sign | none=>0
theorem Ep (r:RT) (hm:r.m.length≤140737488351232) (hd:r.d.length≤140737488351232):RO Tryz.prog 191 [.agg r.c] (.int .i64 (sgq (rd r))):=by
 have key:(decide r.ok=false∨r.m= []→sgq (rd r)=0)∧(r.ok→r.m≠ []→sgq (rd r)=if r.neg then -1 else 1):=by
  have Vd: ¬ r.ok→rd r=none:=fun h=>by unfold rd;rw[if_neg h]
  constructor
  ·rintro(h | h)
   ·rw[Vd (by simpa using h)];rfl
   ·cases hq:rd r with
    | none => rfl
    | some q =>
      obtain⟨hr,_⟩:=rd_some hq
      have:q.num=0:=by
       have:lim q.num.natAbs= []:=by rw[←h,hr];rfl
       have:=eJ.1 this;omega
      simp[sgq,this]
  ·intro h hm
   obtain⟨q,hq⟩: ∃q,rd r=some q:=⟨_,by unfold rd;rw[if_pos h]⟩
   obtain⟨hr,_⟩:=rd_some hq
   rw[hq]
   have h1:q.num≠0:=fun h0=>hm (by rw[hr];show lim q.num.natAbs= [];rw[h0];exact aX)
   have h2:r.neg=decide (q.num<0):=by rw[hr];rfl
   rw[h2]
   by_cases h3:q.num<0
   ·simp[sgq,h3,Int.sign_eq_neg_one_of_neg h3]
   ·simp[sgq,h3,Int.sign_eq_one_of_pos (show 0<q.num by omega)]
 refine aI Tryz.func191 rfl rfl (by rw[Tryz.ntmps191];simp) fun bl=> ?_
 rw[Tryz.ntmps191,Tryz.results191]
 refine aC ?_
 simp[RT.c]
 intro g hg0 hg
 refine cH [(1,.loc g 3 0 0)] _ (upd bl g (some ⟨3,[[.bool r.neg,.sl (iv r.m),.sl (iv r.d)]]⟩)) 3 (.bool (!decide r.ok || decide (r.m= []))) (upd bl g (some ⟨3,[[.bool r.neg,.sl (iv r.m),.sl (iv r.d)]]⟩)) ⟨rfl,by simp,Sub.refl _⟩ rfl ?_ ?_
 ·simp
  refine aD (mJ r hm hd) ?_
  simp[Vk]
  by_cases h:r.ok<;>simp[h]
 simp
 refine⟨fun h=> ?_,fun h1 h2=>⟨fun h3=> ?_,fun h3=> ?_⟩⟩
 ·exact aK [.int .i64 0] 0 (by simp) (by rw[key.1 (by simpa using h)];simp[frz]) (by simp[hg])
 ·exact aK [.int .i64 (-1)] 0 (by simp) (by rw[key.2 h1 h2,h3];simp[frz]) (by simp[hg])
 ·exact aK [.int .i64 1] 0 (by simp) (by rw[key.2 h1 h2,h3];simp[frz]) (by simp[hg])

structure SP where
 lo:RT
 hi:RT
 nl:Bool
 nh:Bool
def SP.c (s:SP):List V:= [.bool s.lo.neg,.sl (iv s.lo.m),.sl (iv s.lo.d),.bool s.hi.neg,.sl (iv s.hi.m),.sl (iv s.hi.d),.bool s.nl,.bool s.nh]
def RT.le (r:RT) (k:Nat):Prop:=r.m.length≤k∧r.d.length≤k
def SP.le (s:SP) (k:Nat):Prop:=s.lo.le k∧s.hi.le k
def aMD (s:SP):Bool:=match rd s.lo,rd s.hi with
 | some a, some b => (s.nl && decide (a.num.sign ≠ 0)) || (s.nh && decide (b.num.sign ≠ 0))
 | _, _ => true
def aA0 (s:SP):Bool:=match rd s.lo,rd s.hi with
 | some a, some b => (s.nl || s.nh) || decide (G1 a b ≤ 0)
 | _, _ => false
def aUY (s:SP):Bool:= !aMD s && aA0 s

theorem M3 (x y:Int) (hx:(lim x.natAbs).length≤59) (hy:(lim y.natAbs).length≤59):RO Tryz.prog 264 [.agg (biC x),.agg (biC y)] (.agg (biC (x+y))):=by
 have hb:=tT hx hy
 refine aI Tryz.func264 rfl rfl (by rw[Tryz.ntmps264];simp) fun bl=> ?_
 rw[Tryz.ntmps264,Tryz.results264]
 refine aE ?_
 rw[bV x,bV y]
 simp
 intro g hg0 hg g2 hg2 h2g hb2 g3 hg3 h32 h3g hb3
 refine aC ?_
 simp[h2g,Ne.symm h2g,h32,Ne.symm h32,h3g,Ne.symm h3g]
 refine⟨fun hs=> ?_,fun hs=> ?_⟩
 ·refine aW aM (upd (upd bl g (some ⟨2,[[.bool (decide (x<0)),.sl (iv (lim x.natAbs))]]⟩)) g2 (some ⟨2,[[.bool (decide (y<0)),.sl (iv (lim y.natAbs))]]⟩)) (by simp[h32,h3g,hb3]) [0,1,2,3,4,5,6,7] 1 (by kernel_rfl) ?_
  simp[h2g,Ne.symm h2g,h32,Ne.symm h32,h3g,Ne.symm h3g]
  refine aO (Io _ _ (by omega) (by omega)) ?_
  simp[h2g,Ne.symm h2g,h32,Ne.symm h32,h3g,Ne.symm h3g]
  refine aO (eI _ _ (by omega)) ?_
  simp[h2g,Ne.symm h2g,h32,Ne.symm h32,h3g,Ne.symm h3g]
  refine Dz 8 ?_
  simp[h2g,Ne.symm h2g,h32,Ne.symm h32,h3g,Ne.symm h3g]
  refine⟨by simp[h32,h3g,hb3],Dy ?_⟩
  rw[wF hs]
  simp[h2g,Ne.symm h2g,h32,Ne.symm h32,h3g,Ne.symm h3g]
  exact aK [.agg (biC (x+y))] 1 (by simp[biC,h2g,Ne.symm h2g,h32,Ne.symm h32,h3g,Ne.symm h3g]) kI (by simp[hg,hb2,hb3])
 refine aD (kV _ _ (by omega) (by omega)) ?_
 simp[h2g,Ne.symm h2g,h32,Ne.symm h32,h3g,Ne.symm h3g,Fy]
 refine⟨fun hle=> ?_,fun hle=> ?_⟩
 ·refine aW aM (upd (upd bl g (some ⟨2,[[.bool (decide (x<0)),.sl (iv (lim x.natAbs))]]⟩)) g2 (some ⟨2,[[.bool (decide (y<0)),.sl (iv (lim y.natAbs))]]⟩)) (by simp[h32,h3g,hb3]) [0,1,2,3,4,5,6,7] 1 (by kernel_rfl) ?_
  simp[h2g,Ne.symm h2g,h32,Ne.symm h32,h3g,Ne.symm h3g]
  refine aO (vQ _ _ hle (by omega)) ?_
  simp[h2g,Ne.symm h2g,h32,Ne.symm h32,h3g,Ne.symm h3g]
  refine aO (eI _ _ (kA (Nat.sub_le _ _) (by omega))) ?_
  simp[h2g,Ne.symm h2g,h32,Ne.symm h32,h3g,Ne.symm h3g]
  refine Dz 8 ?_
  simp[h2g,Ne.symm h2g,h32,Ne.symm h32,h3g,Ne.symm h3g]
  refine⟨by simp[h32,h3g,hb3],Dy ?_⟩
  rw[lV hs hle]
  simp[h2g,Ne.symm h2g,h32,Ne.symm h32,h3g,Ne.symm h3g]
  exact aK [.agg (biC (x+y))] 1 (by simp[biC,h2g,Ne.symm h2g,h32,Ne.symm h32,h3g,Ne.symm h3g]) kI (by simp[hg,hb2,hb3])
 ·refine aW aM (upd (upd bl g (some ⟨2,[[.bool (decide (x<0)),.sl (iv (lim x.natAbs))]]⟩)) g2 (some ⟨2,[[.bool (decide (y<0)),.sl (iv (lim y.natAbs))]]⟩)) (by simp[h32,h3g,hb3]) [0,1,2,3,4,5,6,7] 1 (by kernel_rfl) ?_
  simp[h2g,Ne.symm h2g,h32,Ne.symm h32,h3g,Ne.symm h3g]
  refine aO (vQ _ _ (by omega) (by omega)) ?_
  simp[h2g,Ne.symm h2g,h32,Ne.symm h32,h3g,Ne.symm h3g]
  refine aO (eI _ _ (kA (Nat.sub_le _ _) (by omega))) ?_
  simp[h2g,Ne.symm h2g,h32,Ne.symm h32,h3g,Ne.symm h3g]
  refine Dz 8 ?_
  simp[h2g,Ne.symm h2g,h32,Ne.symm h32,h3g,Ne.symm h3g]
  refine⟨by simp[h32,h3g,hb3],Dy ?_⟩
  rw[lV (x:=y) (y:=x) (fun hh=>hs ⟨hh.2,hh.1⟩) (by omega),Int.add_comm y x]
  simp[h2g,Ne.symm h2g,h32,Ne.symm h32,h3g,Ne.symm h3g]
  exact aK [.agg (biC (x+y))] 1 (by simp[biC,h2g,Ne.symm h2g,h32,Ne.symm h32,h3g,Ne.symm h3g]) kI (by simp[hg,hb2,hb3])
def zI (neg:Bool) (a b:Nat):Option Rat:=if b=0 then none else fit (mkRat (sg neg a) b)
theorem yD {bl bl0:Int→Option Blk} {g:Int} {ns ms:List Int} {b:Bool} (h0:0≤g∨ns= []) (hg:bl0 g=none) (hb:bl g=some ⟨1,iv ns⟩):frz (dropB bl bl0) 2 (.agg [.bool b,.sl (iv ms),.lsl g 1 0 ns.length])=some (.agg [.bool b,.sl (iv ms),.sl (iv ns)]):=by
 have h1:=qV h0 hg hb
 have h2:frz (dropB bl bl0) 1 (.bool b)=some (.bool b):=by simp[frz]
 have h3:frz (dropB bl bl0) 1 (.sl (iv ms))=some (.sl (iv ms)):=by simp[frz]
 rw[qU]
 simp only[List.mapM_cons,List.mapM_nil,h1,h2,h3]
 rfl
theorem Zv (neg:Bool) (a b:Nat) (hb:b≠0):(rq (mkRat (sg neg a) b)).c=biC (sg neg (a / Nat.gcd a b))++ [.sl (iv (lim (b / Nat.gcd a b)))]:=by
 have hg:0<Nat.gcd a b:=Nat.gcd_pos_of_pos_right _ (by omega)
 rw[Fx _ hb,RT.c,qD,bV,qD]
 simp only[List.cons_append,List.nil_append]
 rw[Fk,Fk]
 have:(0<a / Nat.gcd a b) ↔ 0<a:=by
  constructor
  ·intro h;rcases Nat.eq_zero_or_pos a with h0 | h0
   ·rw[h0] at h;simp at h
   ·exact h0
  ·intro h;exact Nat.div_pos (Nat.gcd_le_left _ h) hg
 rw[decide_eq_decide.2 this]
theorem qP (neg:Bool) (a b:Nat) (ha:(lim a).length≤60) (hb:(lim b).length≤60):RO Tryz.prog 265 [.bool neg,.sl (iv (lim a)),.sl (iv (lim b))] (.agg (ro (zI neg a b)).c):=by
 have cD: ∀m,((iv (lim m)).all fun c=>c.length==1 && c.all V.one)=true:=fun m=>by simp[iv]
 refine aI Tryz.func265 rfl rfl (by rw[Tryz.ntmps265];simp) fun bl=> ?_
 rw[Tryz.ntmps265,Tryz.results265]
 refine aE ?_
 simp
 intro g hg0 hg
 refine aE ?_
 simp
 refine aD (gL (lim a) (gE a) (by omega)) ?_
 rw[eS]
 simp
 refine aE ?_
 simp
 refine aD (gL (lim b) (gE b) (by omega)) ?_
 rw[eS]
 simp
 refine aE ?_
 simp
 refine⟨fun h=> ?_,fun h=> ?_⟩
 ·have hb0:b=0:=by simpa [eJ] using h
  exact aK [.agg [.bool false,.nils,.nils]] 1 (by simp) (by simp[frz,zI,hb0,ro,rz,RT.c,V.cl,iv]) (by simp[hg])
 have hb0:b≠0:=fun e=>h (by rw[e,aX])
 have hg1:=Nat.gcd_pos_of_pos_right a (show 0<b by omega)
 refine fZ (fun _:Unit=> [(0,.bool neg),(6,.loc g 3 0 0),(7,.sl (iv (lim (a / Nat.gcd a b)))),(8,.sl (iv (lim (b / Nat.gcd a b))))]) (fun _=>upd bl g (some ⟨3,[[.bool false,.nils,.nils]]⟩)) (fun _=>True) 55 ?_ ?_
 ·refine aC ?_
  simp
  refine aD (mT _) ?_
  simp
  refine⟨fun h1=> ?_,fun h1=> ?_⟩
  ·refine aD (M6 _ _ (by omega) (by omega)) ?_
   simp
   refine aD (mT _) ?_
   simp
   refine⟨fun h2=> ?_,fun h2=> ?_⟩
   ·have hgl:=Gh ha hb
    refine aD (uZ a (Nat.gcd a b) hg1 (by omega) (by omega)) ?_
    simp
    refine aD (uZ b (Nat.gcd a b) hg1 (by omega) (by omega)) ?_
    simp[aH]
    exact⟨rfl,by simp,Sub.refl _⟩
   ·simp[aH]
    exact⟨rfl,by simp[h2],Sub.refl _⟩
  ·have h2:Nat.gcd a b=1:=by rw[h1];exact Nat.gcd_one_right a
   simp[aH]
   exact⟨rfl,by simp[h2],Sub.refl _⟩
 intro _ _
 have e2:=Zv neg a b hb0
 have hx:(lim (a / Nat.gcd a b)).length≤60:=kA (Nat.div_le_self _ _) ha
 have hy:(lim (b / Nat.gcd a b)).length≤60:=kA (Nat.div_le_self _ _) hb
 have hr:ro (zI neg a b)=if(lim (a / Nat.gcd a b)).length≤24∧(lim (b / Nat.gcd a b)).length≤24 then rq (mkRat (sg neg a) b) else rz:=by
  have e3:=Fx (sg neg a) hb0
  have e4:fits (mkRat (sg neg a) b) ↔ (lim (a / Nat.gcd a b)).length≤24∧(lim (b / Nat.gcd a b)).length≤24:=by
   have e5:=congrArg RT.m e3
   have e6:=congrArg RT.d e3
   simp only[rq,qD] at e5 e6
   unfold fits
   rw[e5,e6]
  unfold zI fit
  rw[if_neg hb0]
  by_cases hf:fits (mkRat (sg neg a) b)
  ·rw[if_pos hf,if_pos (e4.1 hf)];rfl
  ·rw[if_neg hf,if_neg (fun h=>hf (e4.2 h))];rfl
 obtain⟨x,ex⟩: ∃x,a / Nat.gcd a b=x:=⟨_,rfl⟩
 obtain⟨y,ey⟩: ∃y,b / Nat.gcd a b=y:=⟨_,rfl⟩
 rw[ex,ey] at hr e2
 rw[ex] at hx
 rw[ey] at hy
 rw[ex,ey,hr]
 refine aC ?_
 simp
 refine cH [(0,.bool neg),(6,.loc g 3 0 0),(7,.sl (iv (lim x))),(8,.sl (iv (lim y)))] _ _ 46 (.bool (!decide ((lim x).length≤24∧(lim y).length≤24))) (upd bl g (some ⟨3,[[.bool false,.nils,.nils]]⟩)) ⟨rfl,by simp,Sub.refl _⟩ rfl ?_ ?_
 ·simp
  refine⟨fun h=> ?_,fun h=> ?_⟩
  ·omega
  ·rw[Bool.eq_iff_iff]
   simp
   omega
 by_cases hc:(lim x).length≤24∧(lim y).length≤24
 ·simp only[hc,and_self,decide_true,Bool.not_true,if_true]
  simp
  refine aD (eI neg x (by omega)) ?_
  simp
  intro g1 hg1 h1g hb1
  simp[h1g,Ne.symm h1g,appV,elsV,Int.not_lt.2 hg1,cD]
  refine⟨by omega,fun g2 hg2 hb2=> ?_⟩
  have h2g:g2≠g:=by grind
  have Bc:bl g2=none:=by grind
  have hnn:0≤g2∨lim y= []:=hg2.imp id (fun h=>by simpa [iv] using h)
  simp[h1g,Ne.symm h1g,h2g,Ne.symm h2g,bV,qD]
  refine aK [.agg [.bool (decide (sg neg x<0)),.sl (iv (lim x)),.lsl g2 1 0 (lim y).length]] 2 (by simp[h1g,Ne.symm h1g,h2g,Ne.symm h2g]) ?_ (by simp[hg,hb1,Bc,h1g,h2g])
  rw[e2,bV,qD]
  exact yD hnn Bc (by simp[h2g])
 ·simp only[hc,decide_false,Bool.not_false,if_false]
  simp
  exact aK [.agg [.bool false,.nils,.nils]] 1 (by simp) (by simp[frz,rz,RT.c,V.cl,iv]) (by simp[hg])
def nm (x:Option Rat):Int:=match x with | some q=>q.num | none=>0
def dn (x:Option Rat):Nat:=match x with | some q=>q.den | none=>0
theorem pE (x:Option Rat):(ro x).c= [.bool (decide (nm x<0)),.sl (iv (lim (nm x).natAbs)),.sl (iv (lim (dn x)))]:=by
 cases x
 ·show rz.c=_
  rw[show nm none=0 from rfl,show dn none=0 from rfl,Int.natAbs_zero,aX];rfl
 ·rfl
theorem uN {x:Option Rat} (h:okQ x):(lim (nm x).natAbs).length≤24∧(lim (dn x)).length≤24:=by
 cases x with
 | none => rw [show nm none = 0 from rfl, show dn none = 0 from rfl, Int.natAbs_zero, aX]; simp
 | some q => exact h q rfl
theorem uH {x:Option Rat} (h:okQ x):okQ (x.map (- ·)):=by
 intro q hq
 cases x with
 | none => cases hq
 | some a =>
   cases hq
   have:=h a rfl
   unfold fits at this ⊢
   rw[show(-a).num= -a.num from rfl,show(-a).den=a.den from rfl,Int.natAbs_neg];exact this
theorem Yy (x:Option Rat):nm (x.map (- ·))= - nm x:=by cases x with | none=>rfl | some q=>rfl
theorem aCA (x:Option Rat):dn (x.map (- ·))=dn x:=by cases x with | none=>rfl | some q=>rfl
theorem qM (x:Option Rat) (hx:okQ x):RO Tryz.prog 202 [.agg (ro x).c] (.agg (ro (x.map (- ·))).c):=by
 obtain⟨hm,hd⟩:=uN hx
 have cD: ∀m,((iv (lim m)).all fun c=>c.length==1 && c.all V.one)=true:=fun m=>by simp[iv]
 refine aI Tryz.func202 rfl rfl (by rw[Tryz.ntmps202];simp) fun bl=> ?_
 rw[Tryz.ntmps202,Tryz.results202]
 refine aE ?_
 rw[pE x]
 simp
 intro g hg0 hg g2 hg2 h2g hb2
 refine aC ?_
 simp
 refine aW aM (upd bl g (some ⟨3,[[.bool (decide (nm x<0)),.sl (iv (lim (nm x).natAbs)),.sl (iv (lim (dn x)))]]⟩)) (by simp[h2g,hb2]) [0,1,2,3,4,5,6,7,9,10] 4 (by kernel_rfl) ?_
 simp[h2g,Ne.symm h2g]
 refine aO (eI _ _ (by omega)) ?_
 rw[Qt]
 simp[h2g,Ne.symm h2g]
 refine Dz 8 ?_
 simp[h2g,Ne.symm h2g]
 intro g3 hg3 h32 h3g hb3
 refine⟨by simp[h2g,Ne.symm h2g,hb2,h3g,h32,hb3],Dz 11 ?_⟩
 simp[h2g,Ne.symm h2g,h3g,Ne.symm h3g,h32,Ne.symm h32,appV,elsV,Int.not_lt.2 hg3,cD]
 refine⟨by omega,fun g4 hg4 hb4=> ?_⟩
 have h4g:g4≠g:=by grind
 have h42:g4≠g2:=by grind
 have iG:bl g4=none:=by grind
 have hnn:0≤g4∨lim (dn x)= []:=hg4.imp id (fun h=>by simpa [iv] using h)
 refine⟨by simp[h2g,Ne.symm h2g,hb2,h3g,h32,hb3,h4g,h42,iG],Dz 12 ?_⟩
 simp[h2g,Ne.symm h2g,h3g,Ne.symm h3g,h32,Ne.symm h32,h4g,Ne.symm h4g,h42,Ne.symm h42,bV]
 refine⟨by simp[h2g,Ne.symm h2g,hb2,h3g,h32,hb3,h4g,h42,iG],Dz 13 ?_⟩
 simp[h2g,Ne.symm h2g,h3g,Ne.symm h3g,h32,Ne.symm h32,h4g,Ne.symm h4g,h42,Ne.symm h42]
 refine⟨by simp[h2g,Ne.symm h2g,hb2,h3g,h32,hb3,h4g,h42,iG],Dy ?_⟩
 simp
 refine aK [.agg [.bool (decide (-nm x<0)),.sl (iv (lim (nm x).natAbs)),.lsl g4 1 0 (lim (dn x)).length]] 2 (by simp[h2g,Ne.symm h2g,h4g,Ne.symm h4g,h42,Ne.symm h42]) ?_ (by simp[hg,hb2,hb3,iG,h2g,h4g,h42])
 rw[pE,Yy,aCA,Int.natAbs_neg]
 exact yD hnn iG (by simp[h4g,h42])
theorem Kt (x y:Option Rat) (hx:okQ x) (hy:okQ y):RO Tryz.prog 279 [.agg (ro x).c,.agg (ro y).c] (.agg (ro (op2 (· * ·) x y)).c):=by
 obtain⟨hm,hd⟩:=uN hx
 obtain⟨hm2,hd2⟩:=uN hy
 have n1:=fP hm hm2
 have n2:=fP hd hd2
 have e:zI (decide (nm x<0) !=decide (nm y<0)) ((nm x).natAbs*(nm y).natAbs) (dn x*dn y)=op2 (· * ·) x y:=by
  unfold zI op2
  rw[sH]
  cases x with
  | none => simp [dn]
  | some a =>
    cases y with
    | none=>simp[dn]
    | some b=>
      rw[if_neg (show ¬ dn (some a)*dn (some b)=0 from Nat.mul_ne_zero a.den_nz b.den_nz)]
      simp only[nm,dn]
      rw[←Rat.mul_def']
 refine aI Tryz.func279 rfl rfl (by rw[Tryz.ntmps279];simp) fun bl=> ?_
 rw[Tryz.ntmps279,Tryz.results279]
 refine aE ?_
 rw[pE x,pE y]
 simp
 intro g hg0 hg g2 hg2 h2g hb2 g3 hg3 h32 h3g hb3
 refine aC ?_
 simp
 refine aW aM (upd (upd bl g (some ⟨3,[[.bool (decide (nm x<0)),.sl (iv (lim (nm x).natAbs)),.sl (iv (lim (dn x)))]]⟩)) g2 (some ⟨3,[[.bool (decide (nm y<0)),.sl (iv (lim (nm y).natAbs)),.sl (iv (lim (dn y)))]]⟩)) (by simp[h32,h3g,hb3]) [0,1,2,3,4,5,6,7,8,9,10,11,12,13,14,15,16,17,18,19] 1 (by kernel_rfl) ?_
 simp[h2g,Ne.symm h2g,h32,Ne.symm h32,h3g,Ne.symm h3g]
 refine aO (fI _ _ (by omega) (by omega)) ?_
 simp[h2g,Ne.symm h2g,h32,Ne.symm h32,h3g,Ne.symm h3g]
 refine aO (fI _ _ (by omega) (by omega)) ?_
 simp[h2g,Ne.symm h2g,h32,Ne.symm h32,h3g,Ne.symm h3g]
 refine aO (qP _ _ _ (by omega) (by omega)) ?_
 rw[e]
 simp[h2g,Ne.symm h2g,h32,Ne.symm h32,h3g,Ne.symm h3g]
 refine Dz 20 ?_
 rw[pE (op2 _ x y)]
 simp[h2g,Ne.symm h2g,h32,Ne.symm h32,h3g,Ne.symm h3g]
 refine⟨by simp[h32,h3g,hb3],Dy ?_⟩
 simp[h2g,Ne.symm h2g,h32,Ne.symm h32,h3g,Ne.symm h3g]
 exact aK [.agg (ro (op2 (· * ·) x y)).c] 1 (by rw[pE (op2 _ x y)];simp[h2g,Ne.symm h2g,h32,Ne.symm h32,h3g,Ne.symm h3g]) (by rw[pE (op2 _ x y)];simp[frz,V.cl]) (by simp[hg,hb2,hb3])
theorem J8 (x y:Option Rat) (hx:okQ x) (hy:okQ y):RO Tryz.prog 214 [.agg (ro x).c,.agg (ro y).c] (.agg (ro (op2 (· + ·) x y)).c):=by
 obtain⟨hm,hd⟩:=uN hx
 obtain⟨hm2,hd2⟩:=uN hy
 have n1:=fP hm hd2
 have n2:=fP hm2 hd
 have n3:=fP hd hd2
 have e0: ∀(a:Int) (b:Nat),sg (decide (a<0)) (a.natAbs*b)=a*b:=fun a b=>by
  have:=sH a b
  have h0:decide (((b:Nat):Int)<0)=false:=decide_eq_false (by omega)
  rw[h0,Bool.bne_false,Int.natAbs_natCast] at this
  exact this
 have e: ∀n:Int,n=nm x*dn y+nm y*dn x→zI (decide (n<0)) n.natAbs (dn x*dn y)=op2 (· + ·) x y:=fun n hn=>by
  unfold zI op2
  rw[Hx,hn]
  cases x with
  | none => simp [dn]
  | some a =>
    cases y with
    | none=>simp[dn]
    | some b=>
      rw[if_neg (show ¬ dn (some a)*dn (some b)=0 from Nat.mul_ne_zero a.den_nz b.den_nz)]
      simp only[nm,dn]
      rw[←Rat.add_def']
 have o1:=mT (dn x)
 have o2:=mT (dn y)
 refine aI Tryz.func214 rfl rfl (by rw[Tryz.ntmps214];simp) fun bl=> ?_
 rw[Tryz.ntmps214,Tryz.results214]
 refine aE ?_
 rw[pE x,pE y]
 simp
 intro g hg0 hg g2 hg2 h2g hb2 g3 hg3 h32 h3g hb3
 refine aC ?_
 simp
 refine cH [(2,.loc g 3 0 0),(3,.loc g2 3 0 0),(4,.loc g3 3 0 0)] _ _ 16 (.bool (decide (dn x=1)&& decide (dn y=1))) (upd (upd (upd bl g (some ⟨3,[[.bool (decide (nm x<0)),.sl (iv (lim (nm x).natAbs)),.sl (iv (lim (dn x)))]]⟩)) g2 (some ⟨3,[[.bool (decide (nm y<0)),.sl (iv (lim (nm y).natAbs)),.sl (iv (lim (dn y)))]]⟩)) g3 (some ⟨3,[[.bool false,.nils,.nils]]⟩)) ⟨rfl,by simp,Sub.refl _⟩ rfl ?_ ?_
 ·simp[h2g,Ne.symm h2g,h32,Ne.symm h32,h3g,Ne.symm h3g]
  refine aD o1 ?_
  simp[h2g,Ne.symm h2g,h32,Ne.symm h32,h3g,Ne.symm h3g]
  refine⟨fun h=> ?_,fun h=> ?_⟩
  ·refine aD o2 ?_
   simp[h]
  ·simp[h]
 have w:ro (op2 (· + ·) x y)=ro (op2 (· + ·) x y):=rfl
 by_cases fK:dn x=1∧dn y=1
 ·have e1:=e (nm x+nm y) (by rw[fK.1,fK.2];simp)
  rw[fK.1,fK.2] at e1
  have l1:(lim (nm x+nm y).natAbs).length≤25:=kA (Int.natAbs_add_le _ _) (tT hm hm2)
  simp[fK.1,fK.2,h2g,Ne.symm h2g,h32,Ne.symm h32,h3g,Ne.symm h3g]
  refine aD (M3 (nm x) (nm y) (by omega) (by omega)) ?_
  simp[h2g,Ne.symm h2g,h32,Ne.symm h32,h3g,Ne.symm h3g]
  intro g4 hg4
  intros
  have h4g: ¬ g4=g:=by assumption
  have h42: ¬ g4=g2:=by assumption
  have h43: ¬ g4=g3:=by assumption
  have hb4:bl g4=none:=by assumption
  simp[h2g,Ne.symm h2g,h32,Ne.symm h32,h3g,Ne.symm h3g,h4g,Ne.symm h4g,h42,Ne.symm h42,h43,Ne.symm h43,bV]
  intro g5 hg5
  intros
  have h5g: ¬ g5=g:=by assumption
  have h52: ¬ g5=g2:=by assumption
  have h53: ¬ g5=g3:=by assumption
  have h54: ¬ g5=g4:=by assumption
  have hb5:bl g5=none:=by assumption
  refine gP 1 (upd (upd (upd (upd bl g (some ⟨3,[[.bool (decide (nm x<0)),.sl (iv (lim (nm x).natAbs)),.sl (iv (lim 1))]]⟩)) g2 (some ⟨3,[[.bool (decide (nm y<0)),.sl (iv (lim (nm y).natAbs)),.sl (iv (lim 1))]]⟩)) g3 (some ⟨3,[[.bool false,.nils,.nils]]⟩)) g4 (some ⟨2,[[.bool (decide (nm x+nm y<0)),.sl (iv (lim (nm x+nm y).natAbs))]]⟩)) [.bool (decide (nm x+nm y<0)),.sl (iv (lim (nm x+nm y).natAbs)),.sl (iv (lim 1))] (by simp[h2g,Ne.symm h2g,h32,Ne.symm h32,h3g,Ne.symm h3g,h4g,Ne.symm h4g,h42,Ne.symm h42,h43,Ne.symm h43,h5g,Ne.symm h5g,h52,Ne.symm h52,h53,Ne.symm h53,h54,Ne.symm h54,hb5]) (by simp[frz,dropB,V.cl,Fi,iv,Int.not_lt.2 hg5,h2g,Ne.symm h2g,h32,Ne.symm h32,h3g,Ne.symm h3g,h4g,Ne.symm h4g,h42,Ne.symm h42,h43,Ne.symm h43,h5g,Ne.symm h5g,h52,Ne.symm h52,h53,Ne.symm h53,h54,Ne.symm h54,hb5]) (qP _ _ 1 (by omega) (by rw[Fi];simp)) ?_
  rw[show zI (decide (nm x+nm y<0)) (nm x+nm y).natAbs 1=op2 (· + ·) x y from e1,pE (op2 _ x y)]
  simp[h2g,Ne.symm h2g,h32,Ne.symm h32,h3g,Ne.symm h3g,h4g,Ne.symm h4g,h42,Ne.symm h42,h43,Ne.symm h43,h5g,Ne.symm h5g,h52,Ne.symm h52,h53,Ne.symm h53,h54,Ne.symm h54]
  exact aK [.agg (ro (op2 (· + ·) x y)).c] 1 (by rw[pE (op2 _ x y)];simp[h2g,Ne.symm h2g,h32,Ne.symm h32,h3g,Ne.symm h3g,h4g,Ne.symm h4g,h42,Ne.symm h42,h43,Ne.symm h43,h5g,Ne.symm h5g,h52,Ne.symm h52,h53,Ne.symm h53,h54,Ne.symm h54]) (by rw[pE (op2 _ x y)];simp[frz,V.cl]) (by simp[hg,hb2,hb3,hb4,hb5])
 ·have aKC:(decide (dn x=1)&& decide (dn y=1))=false:=by
   rw[Bool.eq_false_iff];simpa using fK
  rw[aKC]
  simp
  refine aW aM (upd (upd (upd bl g (some ⟨3,[[.bool (decide (nm x<0)),.sl (iv (lim (nm x).natAbs)),.sl (iv (lim (dn x)))]]⟩)) g2 (some ⟨3,[[.bool (decide (nm y<0)),.sl (iv (lim (nm y).natAbs)),.sl (iv (lim (dn y)))]]⟩)) g3 (some ⟨3,[[.bool false,.nils,.nils]]⟩)) (Sub.refl _) [0,1,2,3,4,5,6,7,8,9] 2 (by kernel_rfl) ?_
  simp[h2g,Ne.symm h2g,h32,Ne.symm h32,h3g,Ne.symm h3g]
  refine aO (fI _ _ (by omega) (by omega)) ?_
  simp[h2g,Ne.symm h2g,h32,Ne.symm h32,h3g,Ne.symm h3g]
  refine aO (eI _ _ (by omega)) ?_
  rw[e0]
  simp[h2g,Ne.symm h2g,h32,Ne.symm h32,h3g,Ne.symm h3g]
  refine Dz 10 ?_
  simp[h2g,Ne.symm h2g,h32,Ne.symm h32,h3g,Ne.symm h3g]
  intro g4 hg4
  intros
  have h4g: ¬ g4=g:=by assumption
  have h42: ¬ g4=g2:=by assumption
  have h43: ¬ g4=g3:=by assumption
  have hb4:bl g4=none:=by assumption
  refine⟨by simp[h2g,Ne.symm h2g,h32,Ne.symm h32,h3g,Ne.symm h3g,h4g,Ne.symm h4g,h42,Ne.symm h42,h43,Ne.symm h43,hb2,hb3,hb4],Dz 11 ?_⟩
  simp[h2g,Ne.symm h2g,h32,Ne.symm h32,h3g,Ne.symm h3g,h4g,Ne.symm h4g,h42,Ne.symm h42,h43,Ne.symm h43,bV]
  refine⟨by simp[h2g,Ne.symm h2g,h32,Ne.symm h32,h3g,Ne.symm h3g,h4g,Ne.symm h4g,h42,Ne.symm h42,h43,Ne.symm h43,hb2,hb3,hb4],Dy ?_⟩
  simp[h2g,Ne.symm h2g,h32,Ne.symm h32,h3g,Ne.symm h3g,h4g,Ne.symm h4g,h42,Ne.symm h42,h43,Ne.symm h43]
  refine aC ?_
  refine aW aM (upd (upd (upd (upd bl g (some ⟨3,[[.bool (decide (nm x<0)),.sl (iv (lim (nm x).natAbs)),.sl (iv (lim (dn x)))]]⟩)) g2 (some ⟨3,[[.bool (decide (nm y<0)),.sl (iv (lim (nm y).natAbs)),.sl (iv (lim (dn y)))]]⟩)) g3 (some ⟨3,[[.bool false,.nils,.nils]]⟩)) g4 (some ⟨2,[[.bool (decide (nm x*dn y<0)),.sl (iv (lim (nm x*dn y).natAbs))]]⟩)) (Sub.refl _) [0,1,2,3,4,5,6,7,8,9] 2 (by kernel_rfl) ?_
  simp[h2g,Ne.symm h2g,h32,Ne.symm h32,h3g,Ne.symm h3g,h4g,Ne.symm h4g,h42,Ne.symm h42,h43,Ne.symm h43]
  refine aO (fI _ _ (by omega) (by omega)) ?_
  simp[h2g,Ne.symm h2g,h32,Ne.symm h32,h3g,Ne.symm h3g,h4g,Ne.symm h4g,h42,Ne.symm h42,h43,Ne.symm h43]
  refine aO (eI _ _ (by omega)) ?_
  rw[e0]
  simp[h2g,Ne.symm h2g,h32,Ne.symm h32,h3g,Ne.symm h3g,h4g,Ne.symm h4g,h42,Ne.symm h42,h43,Ne.symm h43]
  refine Dz 10 ?_
  simp[h2g,Ne.symm h2g,h32,Ne.symm h32,h3g,Ne.symm h3g,h4g,Ne.symm h4g,h42,Ne.symm h42,h43,Ne.symm h43]
  intro g5 hg5
  intros
  have h5g: ¬ g5=g:=by assumption
  have h52: ¬ g5=g2:=by assumption
  have h53: ¬ g5=g3:=by assumption
  have h54: ¬ g5=g4:=by assumption
  have hb5:bl g5=none:=by assumption
  refine⟨by simp[h2g,Ne.symm h2g,h32,Ne.symm h32,h3g,Ne.symm h3g,h4g,Ne.symm h4g,h42,Ne.symm h42,h43,Ne.symm h43,h5g,Ne.symm h5g,h52,Ne.symm h52,h53,Ne.symm h53,h54,Ne.symm h54,hb2,hb3,hb4,hb5],Dz 11 ?_⟩
  simp[h2g,Ne.symm h2g,h32,Ne.symm h32,h3g,Ne.symm h3g,h4g,Ne.symm h4g,h42,Ne.symm h42,h43,Ne.symm h43,h5g,Ne.symm h5g,h52,Ne.symm h52,h53,Ne.symm h53,h54,Ne.symm h54,bV]
  refine⟨by simp[h2g,Ne.symm h2g,h32,Ne.symm h32,h3g,Ne.symm h3g,h4g,Ne.symm h4g,h42,Ne.symm h42,h43,Ne.symm h43,h5g,Ne.symm h5g,h52,Ne.symm h52,h53,Ne.symm h53,h54,Ne.symm h54,hb2,hb3,hb4,hb5],Dy ?_⟩
  simp[h2g,Ne.symm h2g,h32,Ne.symm h32,h3g,Ne.symm h3g,h4g,Ne.symm h4g,h42,Ne.symm h42,h43,Ne.symm h43,h5g,Ne.symm h5g,h52,Ne.symm h52,h53,Ne.symm h53,h54,Ne.symm h54]
  refine aD (M3 (nm x*dn y) (nm y*dn x) (by rw[Int.natAbs_mul,Int.natAbs_natCast];omega) (by rw[Int.natAbs_mul,Int.natAbs_natCast];omega)) ?_
  simp[h2g,Ne.symm h2g,h32,Ne.symm h32,h3g,Ne.symm h3g,h4g,Ne.symm h4g,h42,Ne.symm h42,h43,Ne.symm h43,h5g,Ne.symm h5g,h52,Ne.symm h52,h53,Ne.symm h53,h54,Ne.symm h54,bV]
  intro g6 hg6
  intros
  have h6g: ¬ g6=g:=by assumption
  have h62: ¬ g6=g2:=by assumption
  have h63: ¬ g6=g3:=by assumption
  have h64: ¬ g6=g4:=by assumption
  have h65: ¬ g6=g5:=by assumption
  have hb6:bl g6=none:=by assumption
  try simp[h2g,Ne.symm h2g,h32,Ne.symm h32,h3g,Ne.symm h3g,h4g,Ne.symm h4g,h42,Ne.symm h42,h43,Ne.symm h43,h5g,Ne.symm h5g,h52,Ne.symm h52,h53,Ne.symm h53,h54,Ne.symm h54,h6g,Ne.symm h6g,h62,Ne.symm h62,h63,Ne.symm h63,h64,Ne.symm h64,h65,Ne.symm h65]
  refine aC ?_
  refine aW aM (upd (upd (upd (upd (upd bl g (some ⟨3,[[.bool (decide (nm x<0)),.sl (iv (lim (nm x).natAbs)),.sl (iv (lim (dn x)))]]⟩)) g2 (some ⟨3,[[.bool (decide (nm y<0)),.sl (iv (lim (nm y).natAbs)),.sl (iv (lim (dn y)))]]⟩)) g4 (some ⟨2,[[.bool (decide (nm x*dn y<0)),.sl (iv (lim (nm x*dn y).natAbs))]]⟩)) g5 (some ⟨2,[[.bool (decide (nm y*dn x<0)),.sl (iv (lim (nm y*dn x).natAbs))]]⟩)) g6 (some ⟨2,[[.bool (decide (nm x*dn y+nm y*dn x<0)),.sl (iv (lim (nm x*dn y+nm y*dn x).natAbs))]]⟩)) (by intro z b hz;simp only[aA] at hz ⊢;grind) [0,1,2,3,4,5,6,7,8,9] 1 (by kernel_rfl) ?_
  simp[h2g,Ne.symm h2g,h32,Ne.symm h32,h3g,Ne.symm h3g,h4g,Ne.symm h4g,h42,Ne.symm h42,h43,Ne.symm h43,h5g,Ne.symm h5g,h52,Ne.symm h52,h53,Ne.symm h53,h54,Ne.symm h54,h6g,Ne.symm h6g,h62,Ne.symm h62,h63,Ne.symm h63,h64,Ne.symm h64,h65,Ne.symm h65]
  refine aO (fI _ _ (by omega) (by omega)) ?_
  simp[h2g,Ne.symm h2g,h32,Ne.symm h32,h3g,Ne.symm h3g,h4g,Ne.symm h4g,h42,Ne.symm h42,h43,Ne.symm h43,h5g,Ne.symm h5g,h52,Ne.symm h52,h53,Ne.symm h53,h54,Ne.symm h54,h6g,Ne.symm h6g,h62,Ne.symm h62,h63,Ne.symm h63,h64,Ne.symm h64,h65,Ne.symm h65]
  refine aO (qP _ _ _ ?_ (by omega)) ?_
  ·exact kA (Int.natAbs_add_le _ _) (by rw[Int.natAbs_mul,Int.natAbs_mul,Int.natAbs_natCast,Int.natAbs_natCast];have:=tT n1 n2;omega)
  rw[e _ rfl,pE (op2 _ x y)]
  simp[h2g,Ne.symm h2g,h32,Ne.symm h32,h3g,Ne.symm h3g,h4g,Ne.symm h4g,h42,Ne.symm h42,h43,Ne.symm h43,h5g,Ne.symm h5g,h52,Ne.symm h52,h53,Ne.symm h53,h54,Ne.symm h54,h6g,Ne.symm h6g,h62,Ne.symm h62,h63,Ne.symm h63,h64,Ne.symm h64,h65,Ne.symm h65]
  refine Dz 10 ?_
  simp[h2g,Ne.symm h2g,h32,Ne.symm h32,h3g,Ne.symm h3g,h4g,Ne.symm h4g,h42,Ne.symm h42,h43,Ne.symm h43,h5g,Ne.symm h5g,h52,Ne.symm h52,h53,Ne.symm h53,h54,Ne.symm h54,h6g,Ne.symm h6g,h62,Ne.symm h62,h63,Ne.symm h63,h64,Ne.symm h64,h65,Ne.symm h65]
  refine⟨by intro z b hz;simp only[aA] at hz ⊢;grind,Dy ?_⟩
  simp[h2g,Ne.symm h2g,h32,Ne.symm h32,h3g,Ne.symm h3g,h4g,Ne.symm h4g,h42,Ne.symm h42,h43,Ne.symm h43,h5g,Ne.symm h5g,h52,Ne.symm h52,h53,Ne.symm h53,h54,Ne.symm h54,h6g,Ne.symm h6g,h62,Ne.symm h62,h63,Ne.symm h63,h64,Ne.symm h64,h65,Ne.symm h65]
  exact aK [.agg (ro (op2 (· + ·) x y)).c] 1 (by rw[pE (op2 _ x y)];simp[h2g,Ne.symm h2g,h32,Ne.symm h32,h3g,Ne.symm h3g,h4g,Ne.symm h4g,h42,Ne.symm h42,h43,Ne.symm h43,h5g,Ne.symm h5g,h52,Ne.symm h52,h53,Ne.symm h53,h54,Ne.symm h54,h6g,Ne.symm h6g,h62,Ne.symm h62,h63,Ne.symm h63,h64,Ne.symm h64,h65,Ne.symm h65]) (by rw[pE (op2 _ x y)];simp[frz,V.cl]) (by simp[hg,hb2,hb3,hb4,hb5,hb6])

theorem X0 :Tryz.prog.cellsOf 3=1:=by kernel_rfl
theorem L0 :Tryz.prog.cellsOf 4=1:=by kernel_rfl
theorem xF :Tryz.prog.cellsOf 9=1:=by kernel_rfl
theorem Ei :Tryz.prog.cellsOf 207=4:=by kernel_rfl
theorem aVE {cs:List V} (h:cs.length=2): ∃a b,cs= [a,b]:=by
 match cs,h with
 | [a, b], _ => exact ⟨a, b, rfl⟩
theorem aR7 {cs:List V} (h:cs.length=3): ∃a b c,cs= [a,b,c]:=by
 match cs,h with
 | [a, b, c], _ => exact ⟨a, b, c, rfl⟩
theorem aT0 {cs:List V} (h:cs.length=4): ∃a b c d,cs= [a,b,c,d]:=by
 match cs,h with
 | [a, b, c, d], _ => exact ⟨a, b, c, d, rfl⟩
theorem Te {cs:List V} (h:CO Tryz.prog 207 cs): ∃j:J,cs=j.c∧j.fit:=by
 obtain⟨hl,hf⟩:=vT Tryz.underlying207 h
 rw[Ei] at hl
 obtain⟨a,b,c,d,rfl⟩:=aT0 hl
 simp[X0,L0,xF] at hf
 obtain⟨h0,h1,h2,h3⟩:=hf
 obtain⟨s,h0,hs⟩:=aCJ Tryz.underlying9 h0
 obtain⟨x,h1,hx⟩:=rZ Tryz.underlying3 h1
 obtain⟨y,h2,hy⟩:=rZ Tryz.underlying3 h2
 obtain⟨f,h3⟩:=Tg Tryz.underlying4 h3
 cases h0;cases h1;cases h2;cases h3
 exact⟨⟨s,x,y,f⟩,rfl,hs,wf_i64 hx,wf_i64 hy⟩
theorem Ko :Tryz.prog.bytesOf 3=8:=by kernel_rfl
theorem Qo {cs:List V} (h:CO Tryz.prog 27 cs): ∃ns:List Int,cs= [.sl (iv ns)]∧ns.length≤17592186043904∧ ∀n,n∈ns→ -9223372036854775808≤n∧n≤9223372036854775807:=by
 obtain⟨xs,rfl,hx,hl⟩:=C4 Tryz.underlying27 h
 rw[Ko] at hl
 have: ∃ns:List Int,xs=iv ns∧ ∀n,n∈ns→ -9223372036854775808≤n∧n≤9223372036854775807:=by
  clear hl h
  induction xs with
  | nil => exact ⟨[], rfl, fun n hn => by cases hn⟩
  | cons x xs ih =>
    obtain⟨ns,rfl,hns⟩:=ih fun y hy=>hx y (List.mem_cons_of_mem _ hy)
    obtain⟨n,rfl,hn⟩:=rZ Tryz.underlying3 (hx x List.mem_cons_self)
    refine⟨n::ns,rfl,fun m hm=> ?_⟩
    rcases List.mem_cons.1 hm with rfl | hm
    ·exact wf_i64 hn
    ·exact hns m hm
 obtain⟨ns,rfl,hns⟩:=this
 exact⟨ns,rfl,by simp at hl;omega,hns⟩

theorem Z8 :Tryz.prog.cellsOf 217=3:=by kernel_rfl
theorem B8 :Tryz.prog.cellsOf 71=2:=by kernel_rfl
theorem Z0 :Tryz.prog.cellsOf 68=1:=by kernel_rfl
theorem U7 :Tryz.prog.cellsOf 69=1:=by kernel_rfl
theorem Bf :1≤Tryz.prog.bytesOf 207:=by
 have:Tryz.prog.bytesOf 207=40:=by kernel_rfl
 omega
theorem R1 :1≤Tryz.prog.bytesOf 217:=by
 have:Tryz.prog.bytesOf 217=24:=by kernel_rfl
 omega
def aBF (n:Int):Prop:= -9223372036854775808≤n∧n≤9223372036854775807
structure Mb.fit (m : Mb) : Prop where
 a:aBF m.a
 b:aBF m.b
 kind:aBF m.kind
structure Str.fit (s : Str) : Prop where
 js:s.js.length≤140737488351232
 ms:s.ms.length≤140737488351232
 names: ∀j,j∈s.js→j.name.size≤140737488351232
 aU7: ∀j,j∈s.js→j.fit
 members: ∀m,m∈s.ms→m.fit
theorem Vq {cs:List V} (h:CO Tryz.prog 217 cs): ∃m:Mb,cs=m.c∧m.fit:=by
 obtain⟨hl,hf⟩:=vT Tryz.underlying217 h
 rw[Z8] at hl
 obtain⟨a,b,c,rfl⟩:=aR7 hl
 simp[X0,L0,xF] at hf
 obtain⟨h0,h1,h2⟩:=hf
 obtain⟨x,h0,hx⟩:=rZ Tryz.underlying3 h0
 obtain⟨y,h1,hy⟩:=rZ Tryz.underlying3 h1
 obtain⟨z,h2,hz⟩:=rZ Tryz.underlying3 h2
 cases h0;cases h1;cases h2
 exact⟨⟨x,y,z⟩,rfl,wf_i64 hx,wf_i64 hy,wf_i64 hz⟩
theorem aON {xs:List (List V)} (hx: ∀x,x∈xs→CO Tryz.prog 207 x): ∃js:List J,xs=jv js∧ ∀j,j∈js→j.fit:=by
 induction xs with
 | nil => exact ⟨[], rfl, fun n hn => by cases hn⟩
 | cons x xs ih =>
   obtain⟨ns,rfl,hns⟩:=ih fun y hy=>hx y (List.mem_cons_of_mem _ hy)
   obtain⟨n,rfl,hn⟩:=Te (hx x List.mem_cons_self)
   refine⟨n::ns,rfl,fun m hm=> ?_⟩
   rcases List.mem_cons.1 hm with rfl | hm
   ·exact hn
   ·exact hns m hm
theorem aHR {xs:List (List V)} (hx: ∀x,x∈xs→CO Tryz.prog 217 x): ∃js:List Mb,xs=mv js∧ ∀j,j∈js→j.fit:=by
 induction xs with
 | nil => exact ⟨[], rfl, fun n hn => by cases hn⟩
 | cons x xs ih =>
   obtain⟨ns,rfl,hns⟩:=ih fun y hy=>hx y (List.mem_cons_of_mem _ hy)
   obtain⟨n,rfl,hn⟩:=Vq (hx x List.mem_cons_self)
   refine⟨n::ns,rfl,fun m hm=> ?_⟩
   rcases List.mem_cons.1 hm with rfl | hm
   ·exact hn
   ·exact hns m hm
theorem Oq {xs:List (List V)} {b n:Nat} (hl:xs.length*b≤n) (hb:1≤b):xs.length≤n:=Nat.le_trans (Nat.le_mul_of_pos_right _ hb) hl
theorem Ie {cs:List V} (h:CO Tryz.prog 71 cs): ∃s:Str,cs=s.c∧s.fit:=by
 obtain⟨hl,hf⟩:=vT Tryz.underlying71 h
 rw[B8] at hl
 obtain⟨a,b,rfl⟩:=aVE hl
 simp[Z0,U7] at hf
 obtain⟨h0,h1⟩:=hf
 obtain⟨x,h0,hx,hlx⟩:=C4 Tryz.underlying68 h0
 obtain⟨y,h1,hy,hly⟩:=C4 Tryz.underlying69 h1
 cases h0;cases h1
 obtain⟨js,rfl,hjs⟩:=aON hx
 obtain⟨ms,rfl,hms⟩:=aHR hy
 exact⟨⟨js,ms⟩,rfl,by simpa using Oq hlx Bf,by simpa using Oq hly R1,fun j hj=>(hjs j hj).1,hjs,hms⟩

def szR (r:RT) (left:Int):Int:=if less left r.m.length<0 then -1 else less (less left r.m.length) r.d.length
def aXR (s:SP) (left:Int):Int:=if szR s.lo left<0 then -1 else szR s.hi (szR s.lo left)
theorem X9 (neg:Bool) (m:List Int) (hm:m.length≤140737488351232):RO Tryz.prog 207 [.agg [.bool neg,.sl (iv m)],.agg [.bool neg,.sl (iv m)]] (.bool true):=by
 refine aI Tryz.func207 rfl rfl (by rw[Tryz.ntmps207];simp) fun bl=> ?_
 rw[Tryz.ntmps207,Tryz.results207]
 refine aC ?_
 simp
 intro g1 hg1 hb1 g2 hg2 h21 hb2
 try simp[h21,Ne.symm h21]
 refine aD (uX m m hm) ?_
 simp
 exact aK [.bool true] 0 (by simp) rfl (by simp[hb1,hb2])
theorem Y8 (r:RT) (hr:r.le 140737488351232):RO Tryz.prog 130 [.agg r.c,.agg r.c] (.bool true):=by
 refine aI Tryz.func130 rfl rfl (by rw[Tryz.ntmps130];simp) fun bl=> ?_
 rw[Tryz.ntmps130,Tryz.results130]
 refine aC ?_
 simp[RT.c]
 intro g1 hg1 hb1 g2 hg2 h21 hb2
 try simp[h21,Ne.symm h21]
 refine aD (X9 r.neg r.m hr.1) ?_
 simp[h21,Ne.symm h21]
 refine aD (uX r.d r.d hr.2) ?_
 simp
 exact aK [.bool true] 0 (by simp) rfl (by simp[hb1,hb2])
theorem Kc (s:SP) (hs:s.le 140737488351232):RO Tryz.prog 55 [.agg s.c,.agg s.c] (.bool true):=by
 refine aI Tryz.func55 rfl rfl (by rw[Tryz.ntmps55];simp) fun bl=> ?_
 rw[Tryz.ntmps55,Tryz.results55]
 refine aC ?_
 simp[SP.c]
 intro g1 hg1 hb1 g2 hg2 h21 hb2
 try simp[h21,Ne.symm h21]
 refine aD (Y8 s.lo hs.1) ?_
 simp[h21,Ne.symm h21]
 refine aD (Y8 s.hi hs.2) ?_
 simp[h21,Ne.symm h21]
 exact aK [.bool true] 0 (by simp) rfl (by simp[hb1,hb2])

theorem gJ {bl:Int→Option Blk} {d e:D} {vs:List V} {gs:List Int} :OwnL bl [d,e] vs gs ↔ ∃v w g1 g2,vs= [v,w]∧gs=g1++g2∧(∀g,g∈g1→g∉g2)∧OwnD bl d v g1∧OwnD bl e w g2:=by
 rw[OwnL]
 constructor
 ·rintro⟨v,vs',g1,g2,rfl,rfl,h1,h2,h3⟩
  rw[OwnL] at h3
  obtain⟨w,aW9,g3,g4,rfl,rfl,h4,h5,h6⟩:=h3
  rw[OwnL] at h6
  obtain⟨rfl,rfl⟩:=h6
  rw[List.append_nil] at h1 ⊢
  exact⟨v,w,g1,g3,rfl,rfl,h1,h2,h5⟩
 ·rintro⟨v,w,g1,g2,rfl,rfl,h1,h2,h3⟩
  refine⟨v,[w],g1,g2,rfl,rfl,h1,h2,?_⟩
  rw[OwnL]
  exact⟨w,[],g2,[],rfl,by simp,by simp,h3,by rw[OwnL];exact⟨rfl,rfl⟩⟩
theorem OwnD.one {bl:Int→Option Blk} {sz:Nat} {rows:List (List V)} {v:V} {gs:List Int} (h:OwnD bl (fl sz rows) v gs):v.one=true∧v.cells= [v]:=by
 unfold fl at h
 rw[OwnD] at h
 rcases h with ⟨_,rfl,_⟩| ⟨g,els,gs',rfl,_⟩<;>exact⟨rfl,rfl⟩
theorem sT {bl:Int→Option Blk} {ns:List Int} {v:V} {gs:List Int} (h:OwnD bl (fl 1 (iv ns)) v gs) (n:Nat):frz bl (n+1) v=some (.sl (iv ns)):=by
 rw[h.frz (kZ _ _ _),aJW]
theorem aJM (ns:List Int):(fl 1 (iv ns)).sc=true:=Xn (aHU ns)
theorem aS {bl bl':Int→Option Blk} {gs:List Int} (h2: ∀g,g∈gs→bl g=none) (h3: ∀g,g∉gs→bl' g=bl g) {x:Int} {b:Blk} (hx:bl x=some b):bl' x=some b:=
 Made.sub (d:=default) (v:=default) h2 h3 x b hx
theorem OwnD.bI {bl bl':Int→Option Blk} {d:D} {v:V} {gs:List Int} (h:OwnD bl d v gs) (hg: ∀x,x∈gs→ ∀b,bl x=some b→bl' x=some b):OwnD bl' d v gs:=h.frame fun x hx=>by
 obtain⟨b,hb⟩:=h.has x hx
 rw[hb,hg x hx b hb]
theorem OwnL.bI {bl bl':Int→Option Blk} {d:List D} {v:List V} {gs:List Int} (h:OwnL bl d v gs) (hg: ∀x,x∈gs→ ∀b,bl x=some b→bl' x=some b):OwnL bl' d v gs:=h.frame fun x hx=>by
 obtain⟨b,hb⟩:=h.has x hx
 rw[hb,hg x hx b hb]
theorem OwnL.not {bl:Int→Option Blk} {d:List D} {v:List V} {gs:List Int} (h:OwnL bl d v gs) {g:Int} (hg:bl g=none):g∉gs:=fun hh=>by
 obtain⟨b,hb⟩:=h.has g hh
 rw[hg] at hb;cases hb
theorem OwnD.not {bl:Int→Option Blk} {d:D} {v:V} {gs:List Int} (h:OwnD bl d v gs) {g:Int} (hg:bl g=none):g∉gs:=fun hh=>by
 obtain⟨b,hb⟩:=h.has g hh
 rw[hg] at hb;cases hb
theorem OwnR.bI {bl bl':Int→Option Blk} {sz:Nat} {d:List (List D)} {v:List (List V)} {gs:List Int} (h:OwnR bl sz d v gs) (hg: ∀x,x∈gs→ ∀b,bl x=some b→bl' x=some b):OwnR bl' sz d v gs:=h.frame fun x hx=>by
 obtain⟨b,hb⟩:=h.has x hx
 rw[hb,hg x hx b hb]
theorem OwnR.not {bl:Int→Option Blk} {sz:Nat} {d:List (List D)} {v:List (List V)} {gs:List Int} (h:OwnR bl sz d v gs) {g:Int} (hg:bl g=none):g∉gs:=fun hh=>by
 obtain⟨b,hb⟩:=h.has g hh
 rw[hg] at hb;cases hb
theorem OwnR.snoc {bl:Int→Option Blk} {sz:Nat} {r:List D} {e:List V} {g2:List Int} (hr:OwnL bl r e g2) (hl:e.length=sz) (ho:e.all V.one=true): ∀ {rs:List (List D)} {els:List (List V)} {g1:List Int},OwnR bl sz rs els g1→(∀x,x∈g1→x∉g2)→OwnR bl sz (rs++ [r]) (els++ [e]) (g1++g2)
 | [], els, g1, h, hd => by
   rw[OwnR] at h
   obtain⟨rfl,rfl⟩:=h
   show OwnR bl sz [r] [e] g2
   rw[OwnR]
   exact⟨e,[],g2,[],rfl,by simp,by simp,hl,ho,hr,by rw[OwnR];exact⟨rfl,rfl⟩⟩
 | r1 :: rs, els, g1, h, hd => by
   rw[OwnR] at h
   obtain⟨e1,lO,ga,gb,rfl,rfl,h3,h4,h5,h6,h7⟩:=h
   have ih:=OwnR.snoc hr hl ho h7 fun x hx=>hd x (by simp[hx])
   show OwnR bl sz (r1::(rs++ [r])) (e1::(lO++ [e])) (ga++gb++g2)
   rw[OwnR]
   refine⟨e1,lO++ [e],ga,gb++g2,rfl,by simp,fun x hx hx2=> ?_,h4,h5,h6,ih⟩
   rcases List.mem_append.1 hx2 with hx2 | hx2
   ·exact h3 x hx hx2
   ·exact hd x (by simp[hx]) hx2
theorem OwnR.at {bl:Int→Option Blk} {sz:Nat} : ∀ {rs:List (List D)} {els:List (List V)} {gs:List Int} (i:Nat) (hi:i<rs.length),OwnR bl sz rs els gs→
  ∃e gi,els[i]? =some e∧OwnL bl rs[i] e gi∧e.length=sz∧e.all V.one=true∧(∀x,x∈gi→x∈gs)∧
   ∀bl' r' e',OwnL bl' r' e' gi→e'.length=sz→e'.all V.one=true→(∀x,x∈gs→x∉gi→ ∀y,bl x=some y→bl' x=some y)→OwnR bl' sz (rs.set i r') (els.set i e') gs
 | [], els, gs, i, hi, _ => by simp at hi
 | r :: rs, els, gs, 0, hi, h => by
   rw[OwnR] at h
   obtain⟨e,lO,g1,g2,rfl,rfl,h3,h4,h5,h6,h7⟩:=h
   refine⟨e,g1,rfl,h6,h4,h5,fun x hx=>by simp[hx],fun bl' r' e' a1 a2 a3 a4=> ?_⟩
   show OwnR bl' sz (r'::rs) (e'::lO) (g1++g2)
   rw[OwnR]
   exact⟨e',lO,g1,g2,rfl,rfl,h3,a2,a3,a1,h7.bI fun x hx b hb=>a4 x (by simp[hx]) (fun h=>h3 x h hx) b hb⟩
 | r :: rs, els, gs, i + 1, hi, h => by
   rw[OwnR] at h
   obtain⟨e,lO,g1,g2,rfl,rfl,h3,h4,h5,h6,h7⟩:=h
   obtain⟨e2,gi,b1,b2,b3,b4,b5,b6⟩:=OwnR.at (rs:=rs) i (by simpa using hi) h7
   refine⟨e2,gi,by simpa using b1,by simpa using b2,b3,b4,fun x hx=>by simp[b5 x hx],fun bl' r' e' a1 a2 a3 a4=> ?_⟩
   show OwnR bl' sz (r::rs.set i r') (e::lO.set i e') (g1++g2)
   rw[OwnR]
   refine⟨e,lO.set i e',g1,g2,rfl,rfl,h3,h4,h5,h6.bI fun x hx b hb=>a4 x (by simp[hx]) (fun h=>h3 x hx (b5 x h)) b hb,b6 bl' r' e' a1 a2 a3 fun x hx hn y hy=>a4 x (by simp[hx]) hn y hy⟩
theorem oS {bl:Int→Option Blk} {d:D} {v:V} {gs:List Int} :OwnL bl [d] [v] gs ↔ OwnD bl d v gs:=by
 rw[OwnL]
 constructor
 ·rintro⟨v',vs',g1,g2,h1,rfl,_,h2,h3⟩
  cases h1
  rw[OwnL] at h3
  rw[h3.2,List.append_nil];exact h2
 ·intro h
  exact⟨v,[],gs,[],rfl,by simp,by simp,h,by rw[OwnL];exact⟨rfl,rfl⟩⟩
structure aX0 where
 els:List (List V)
 gs:List Int
 b:Int→Option Blk
theorem fQ {bl:Int→Option Blk} {d:D} {ds:List D} {v:V} {vs:List V} {g1 g2:List Int} (h1:OwnD bl d v g1) (h2:OwnL bl ds vs g2) (hd: ∀g,g∈g1→g∉g2):OwnL bl (d::ds) (v::vs) (g1++g2):=by
 rw[OwnL];exact⟨v,vs,g1,g2,rfl,rfl,hd,h1,h2⟩
theorem Ga {bl:Int→Option Blk} :OwnL bl [] [] []:=by rw[OwnL];exact⟨rfl,rfl⟩
theorem yI {bl:Int→Option Blk} (n:Int):OwnD bl (.c (.int .i64 n)) (.int .i64 n) []:=by rw[OwnD];exact⟨rfl,rfl,rfl⟩
theorem zK {bl:Int→Option Blk} (b:Bool):OwnD bl (.c (.bool b)) (.bool b) []:=by rw[OwnD];exact⟨rfl,rfl,rfl⟩

def nH (ys xs:List (List V)) (i:Nat):List (List V):=ys.take i++xs.drop i
@[simp] theorem aDZ (ys xs : List (List V)) : nH ys xs 0 = xs := by simp [nH]
theorem kE (ys xs:List (List V)) (i:Nat) (hl:ys.length=xs.length):(nH ys xs i).length=xs.length:=by simp[nH];omega
theorem yV (ys xs:List (List V)) (i:Nat) (hl:ys.length=xs.length) (hi:xs.length≤i):nH ys xs i=ys:=by
 simp[nH,List.take_of_length_le (show ys.length≤i by omega),List.drop_of_length_le hi]
theorem tQ (ys xs:List (List V)) (i:Nat) (hl:ys.length=xs.length) (hi:i<xs.length):(nH ys xs i)[i]? =some xs[i]:=by
 unfold nH
 rw[List.getElem?_append_right (by simp;omega),List.length_take,Nat.min_eq_left (by omega),Nat.sub_self,List.getElem?_drop]
 simp[hi]
theorem L9 (ys xs:List (List V)) (i:Nat) (hl:ys.length=xs.length) (hi:i<xs.length):(nH ys xs i)[i]'(by rw[kE ys xs i hl];exact hi)=xs[i]:=by
 have:=tQ ys xs i hl hi
 rw[List.getElem?_eq_getElem (by rw[kE ys xs i hl];exact hi)] at this
 exact Option.some.inj this
theorem D3 (ys xs:List (List V)) (i:Nat) (hl:ys.length=xs.length) (hi:i<ys.length) (x:List V) (hx:x=ys[i]):(nH ys xs i).set i x=nH ys xs (i+1):=by
 subst hx
 apply List.ext_getElem?
 intro j
 have hz: ∀k,k≤ys.length→ ∀j,(nH ys xs k)[j]? =if j<k then ys[j]? else xs[j]? :=by
  intro k hk j
  unfold nH
  by_cases hj:j<k
  ·rw[if_pos hj,List.getElem?_append_left (by simp;omega),List.getElem?_take_of_lt hj]
  ·rw[if_neg hj,List.getElem?_append_right (by simp;omega),List.length_take,Nat.min_eq_left hk,List.getElem?_drop]
   congr 1;omega
 rw[List.getElem?_set,hz i (by omega),hz (i+1) (by omega),kE _ _ _ hl]
 by_cases hij:i=j
 ·subst hij;simp[hi];omega
 ·rw[if_neg hij]
  by_cases h1:j<i
  ·simp[h1,show j<i+1 by omega]
  ·simp[h1,show ¬ j<i+1 by omega]
def marks (k:Int) (n:Nat):List Int:=(List.range n).map fun(i:Nat)=>k+i
@[simp] theorem Wb (k : Int) (n : Nat) : (marks k n).length = n := by simp [marks]
@[simp] theorem Zn (k : Int) (n i : Nat) (h : i < (marks k n).length) : (marks k n)[i] = k + i := by simp [marks]
theorem pM {bl:Int→Option Blk} {K:V→(Int→Option Blk)→Prop} (xs:List Int) (k:Int) (v:V) (gs:List Int) (h:OwnD bl (fl 1 (iv xs)) v gs) (hk: -1≤k∧k+xs.length≤4611686018427387904)
  (hK: ∀bl',OwnD bl' (fl 1 (iv (marks k xs.length))) v gs→(∀g,g∉gs→bl' g=bl g)→K (.int .i64 (k+xs.length)) bl'):bW Tryz.prog 57 [v,.int .i64 k] bl K:=by
 refine bO Tryz.func57 rfl rfl (by rw[Tryz.ntmps57];simp) ?_
 rw[Tryz.ntmps57,Tryz.results57]
 refine aC ?_
 rcases dE.1 h with ⟨rfl,rfl,rfl⟩| ⟨g,rfl,rfl,hb,hg0⟩
 ·simp
  refine aJ (fun _:Unit=> [(0,.nils),(1,.int .i64 k),(5,.int .i64 0)]) (fun _=>bl) (fun _=>True) (fun _=>0) _ () trivial ⟨rfl,by simp,Sub.refl _⟩ ?_
  intro _ _
  refine aC ?_
  simp
  rw[bH]
  refine⟨[.int .i64 k],by simp,?_⟩
  have:=hK bl (dE.2 (.inl ⟨rfl,rfl,rfl⟩)) (fun _ _=>rfl)
  simpa using this
 ·simp
  refine aJ (fun i:Nat=> [(0,.lsl g 1 0 xs.length),(1,.int .i64 (k+i)),(5,.int .i64 i)]) (fun i=>upd bl g (some ⟨1,nH (iv (marks k xs.length)) (iv xs) i⟩)) (fun i=>i≤xs.length) (fun i=>xs.length - i) _ 0 (Nat.zero_le _) ⟨rfl,by simp,sub_eq ?_⟩ ?_
  ·funext x
   simp only[aA]
   split
   ·rename_i hx;subst hx;simp[hb]
   ·rfl
  intro i hi
  refine aC ?_
  simp
  refine⟨fun h1=> ?_,fun h1=> ?_⟩
  ·have h2:i<(iv xs).length:=by simpa using h1
   have hge:0≤g:=by
    rcases Int.lt_or_le g 0 with hlt | hge
    ·have:=hg0 hlt;subst this;simp at h1
    ·exact hge
   have hgi:=tQ (iv (marks k xs.length)) (iv xs) i (by simp) h2
   simp (disch:=omega) [h1,hgi,i64_in,aB]
   refine⟨i+1,by omega,by omega,rfl,by simp;omega,sub_eq ?_⟩
   rw[D3 _ _ _ (by simp) (by simpa using h1) _ (by simp[marks])]
  ·have hi':i=xs.length:=by omega
   subst hi'
   rw[bH]
   refine⟨[.int .i64 (k+xs.length)],by simp,?_⟩
   refine hK _ (dE.2 (.inr ⟨g,by simp,rfl,?_,fun h=>by have:=hg0 h;subst this;rfl⟩)) (fun g' hg'=> ?_)
   ·simp;rw[yV _ _ _ (by simp) (by simp)]
   ·simp at hg';simp[hg']
theorem wQ (n:Nat) (k:Int) (hk: -1≤k∧k+n≤4611686018427387904):RO Tryz.prog 136 [.sl (iv (marks k n)),.int .i64 k] (.int .i64 (k+n)):=by
 refine aI Tryz.func136 rfl rfl (by rw[Tryz.ntmps136];simp) fun bl=> ?_
 rw[Tryz.ntmps136,Tryz.results136]
 refine aC ?_
 simp
 refine aJ (fun i:Nat=> [(0,.sl (iv (marks k n))),(1,.int .i64 (k+i)),(5,.int .i64 i)]) (fun _=>bl) (fun i=>i≤n) (fun i=>n - i) _ 0 (Nat.zero_le _) ⟨rfl,by simp,Sub.refl _⟩ ?_
 intro i hi
 refine aC ?_
 simp
 refine⟨fun h1=> ?_,fun h1=> ?_⟩
 ·have h2:i<(iv (marks k n)).length:=by simpa using h1
  simp (disch:=omega) [h1,i64_in,aB]
  refine⟨i+1,by omega,by omega,rfl,by simp;omega,Sub.refl _⟩
 ·have hi':i=n:=by omega
  subst hi'
  exact aR (by simp) rfl rfl
theorem Kp (a:List Int) (ha:a.length≤1048576):NW Tryz.prog 49 [.sl (iv a)] (fl 1 (iv a)):=by
 refine iX Tryz.func49 rfl rfl (by rw[Tryz.ntmps49];simp) fun bl=> ?_
 rw[Tryz.ntmps49,Tryz.results49]
 refine aC ?_
 simp
 refine⟨by omega,by unfold maxLen;omega,fun g hg0 hg=> ?_⟩
 refine aJ (fun i:Nat=> [(0,.sl (iv a)),(3,.lsl g 1 0 a.length),(4,.int .i64 i)]) (fun i=>upd bl g (some ⟨1,part (iv a) [.int .i64 0] i⟩)) (fun i=>i≤a.length) (fun i=>a.length - i) _ 0 (Nat.zero_le _) ⟨rfl,by simp,sub_eq (by simp)⟩ ?_
 intro i hi
 refine aC ?_
 simp
 refine⟨fun h=> ?_,fun h=> ?_⟩
 ·have hi':i<(iv a).length:=by simpa using h
  simp (disch:=omega) [h,dP _ _ _ hi',i64_in,aB]
  refine⟨i+1,by omega,by omega,rfl,by simp,sub_eq ?_⟩
  simp only[jI]
  rw[cU _ _ _ hi']
  simp
 ·refine gH [.lsl g 1 0 a.length] [g] (by simp) ?_ (by simpa using hg) (by simp[hg])
  rw[eP _ _ _ (by simpa using h)]
  exact dE.2 (.inr ⟨g,rfl,rfl,by simp,by omega⟩)

def dB (neg:Bool) (m:List Int):List D:= [.c (.bool neg),fl 1 (iv m)]
def dR (r:RT):List D:= [.c (.bool r.neg),fl 1 (iv r.m),fl 1 (iv r.d)]
theorem Si {bl:Int→Option Blk} {neg:Bool} {m:List Int} {v:V} {gs:List Int} :OwnD bl (.a (dB neg m)) v gs ↔ ∃vm,v= .agg [.bool neg,vm]∧OwnD bl (fl 1 (iv m)) vm gs:=by
 rw[OwnD];unfold dB
 constructor
 ·rintro⟨vs,rfl,h⟩
  rw[OwnL] at h
  obtain⟨v,vs',g1,g2,rfl,rfl,_,h1,h2⟩:=h
  rw[OwnD] at h1
  obtain⟨rfl,_,rfl⟩:=h1
  obtain⟨w,rfl⟩: ∃w,vs'= [w]:=by
   have:=h2.length
   match vs',this with
   | [w], _ => exact ⟨w, rfl⟩
  exact⟨w,rfl,oS.1 h2⟩
 ·rintro⟨vm,rfl,h⟩
  exact⟨_,rfl,fQ (zK _) (oS.2 h) (fun x hx=>by cases hx)⟩
theorem fG {bl:Int→Option Blk} {r:RT} {vs:List V} {gs:List Int} :OwnL bl (dR r) vs gs ↔ ∃vm vd gm gd,vs= [.bool r.neg,vm,vd]∧gs=gm++gd∧(∀g,g∈gm→g∉gd)∧OwnD bl (fl 1 (iv r.m)) vm gm∧OwnD bl (fl 1 (iv r.d)) vd gd:=by
 unfold dR
 constructor
 ·intro h
  rw[OwnL] at h
  obtain⟨v,vs',g1,g2,rfl,rfl,_,h1,h2⟩:=h
  rw[OwnD] at h1
  obtain⟨rfl,_,rfl⟩:=h1
  obtain⟨vm,vd,gm,gd,rfl,rfl,hd,h3,h4⟩:=gJ.1 h2
  exact⟨vm,vd,gm,gd,rfl,rfl,hd,h3,h4⟩
 ·rintro⟨vm,vd,gm,gd,rfl,rfl,hd,h3,h4⟩
  exact fQ (g1:= []) (g2:=gm++gd) (zK _) (gJ.2 ⟨vm,vd,gm,gd,rfl,rfl,hd,h3,h4⟩) (fun x hx=>by cases hx)
theorem pI {bl:Int→Option Blk} {r:RT} {v:V} {gs:List Int} :OwnD bl (.a (dR r)) v gs ↔ ∃vm vd gm gd,v= .agg [.bool r.neg,vm,vd]∧gs=gm++gd∧(∀g,g∈gm→g∉gd)∧OwnD bl (fl 1 (iv r.m)) vm gm∧OwnD bl (fl 1 (iv r.d)) vd gd:=by
 rw[OwnD]
 constructor
 ·rintro⟨vs,rfl,h⟩
  obtain⟨vm,vd,gm,gd,rfl,h2⟩:=fG.1 h
  exact⟨vm,vd,gm,gd,rfl,h2⟩
 ·rintro⟨vm,vd,gm,gd,rfl,h2⟩
  exact⟨_,rfl,fG.2 ⟨vm,vd,gm,gd,rfl,h2⟩⟩
theorem jS {bl:Int→Option Blk} : ∀ {ds es:List D} {vs:List V} {gs:List Int},OwnL bl (ds++es) vs gs ↔ ∃v1 v2 g1 g2,vs=v1++v2∧gs=g1++g2∧(∀g,g∈g1→g∉g2)∧OwnL bl ds v1 g1∧OwnL bl es v2 g2
 | [], es, vs, gs => by
   constructor
   ·intro h;exact⟨[],vs,[],gs,rfl,rfl,fun x hx=>(by cases hx),Ga,h⟩
   ·rintro⟨v1,v2,g1,g2,rfl,rfl,_,h1,h2⟩
    rw[OwnL] at h1
    obtain⟨rfl,rfl⟩:=h1
    exact h2
 | d :: ds, es, vs, gs => by
   rw[List.cons_append]
   constructor
   ·intro h
    rw[OwnL] at h
    obtain⟨v,vs',g1,g2,rfl,rfl,hd,h1,h2⟩:=h
    obtain⟨v1,v2,g3,g4,rfl,rfl,hd2,h3,h4⟩:=jS.1 h2
    refine⟨v::v1,v2,g1++g3,g4,rfl,by simp,fun x hx h=> ?_,fQ h1 h3 (fun x hx h=>hd x hx (List.mem_append_left _ h)),h4⟩
    rcases List.mem_append.1 hx with hx | hx
    ·exact hd x hx (List.mem_append_right _ h)
    ·exact hd2 x hx h
   ·rintro⟨v1,v2,g1,g2,rfl,rfl,hd,h1,h2⟩
    rw[OwnL] at h1
    obtain⟨v,vs',g3,g4,rfl,rfl,hd2,h3,h4⟩:=h1
    have:=fQ h3 (jS.2 ⟨vs',v2,g4,g2,rfl,rfl,fun x hx=>hd x (List.mem_append_right _ hx),h4,h2⟩) (fun x hx h=>by
     rcases List.mem_append.1 h with h | h
     ·exact hd2 x hx h
     ·exact hd x (List.mem_append_left _ hx) h)
    simpa using this
theorem nI {bl:Int→Option Blk} {g:Int} (hg:bl g=none) (b:Option Blk): ∀x y,bl x=some y→upd bl g b x=some y:=fun x y hx=>by rw[aA,if_neg (fun e=>by rw[e,hg] at hx;cases hx)];exact hx
theorem H3 {bl:Int→Option Blk} {K:V→(Int→Option Blk)→Prop} (neg:Bool) (m:List Int) (k:Nat) (vm:V) (gs:List Int) (h:OwnD bl (fl 1 (iv m)) vm gs) (hk:k+m.length≤4611686018427387000)
  (hK: ∀bl',OwnD bl' (fl 1 (iv (marks k m.length))) vm gs→(∀g,g∉gs→ ∀b,bl g=some b→bl' g=some b)→K (.int .i64 (k+m.length:Nat)) bl'):bW Tryz.prog 209 [.agg [.bool neg,vm],.int .i64 k] bl K:=by
 obtain⟨a1,a2⟩:=h.one
 refine bO Tryz.func209 rfl rfl (by rw[Tryz.ntmps209];simp) ?_
 rw[Tryz.ntmps209,Tryz.results209]
 refine aC ?_
 simp[a1]
 intro g hg0 hg
 have na:g∉gs:=h.not hg
 refine pM m k vm gs (h.bI fun x _ y hy=>nI hg _ x y hy) (by omega) fun b1 o1 q1=> ?_
 simp
 rw[bH]
 refine⟨[_],by simp;rfl,?_⟩
 have:=hK b1 o1 (fun x hx y hy=>by rw[q1 x hx];exact nI hg _ x y hy)
 simpa using this
def mkR (k:Nat) (r:RT):RT:=⟨r.neg,marks k r.m.length,marks (k+r.m.length:Nat) r.d.length⟩
def mL (k:Nat) (r:RT):Nat:=k+r.m.length+r.d.length
theorem A0 {bl:Int→Option Blk} {K:V→(Int→Option Blk)→Prop} (r:RT) (k:Nat) (vs:List V) (gs:List Int) (h:OwnL bl (dR r) vs gs) (hk:mL k r≤4611686018427387000)
  (hK: ∀bl',OwnL bl' (dR (mkR k r)) vs gs→(∀g,g∉gs→ ∀b,bl g=some b→bl' g=some b)→K (.int .i64 (mL k r:Nat)) bl'):bW Tryz.prog 133 [.agg vs,.int .i64 k] bl K:=by
 obtain⟨vm,vd,ga,gb,rfl,rfl,hd,h1,h2⟩:=fG.1 h
 obtain⟨a1,a2⟩:=h1.one
 obtain⟨b1,b2⟩:=h2.one
 unfold mL at hk
 refine bO Tryz.func133 rfl rfl (by rw[Tryz.ntmps133];simp) ?_
 rw[Tryz.ntmps133,Tryz.results133]
 refine aC ?_
 simp[a1,b1]
 intro g hg0 hg
 have na:g∉ga:=h1.not hg
 have nb:g∉gb:=h2.not hg
 refine H3 r.neg r.m k vm ga (h1.bI fun x _ y hy=>nI hg _ x y hy) (by omega) fun B1 o1 q1=> ?_
 have eg1:B1 g=some ⟨3,[[.bool r.neg,vm,vd]]⟩:=q1 g na _ (by simp)
 simp[eg1]
 have t1:(k:Int)+r.m.length=(k+r.m.length:Nat):=by simp
 rw[t1]
 refine pM r.d (k+r.m.length:Nat) vd gb (h2.bI fun x hx y hy=>q1 x (fun hh=>hd x hh hx) y (nI hg _ x y hy)) (by omega) fun B2 o2 q2=> ?_
 simp
 rw[bH]
 refine⟨[_],by simp;rfl,?_⟩
 have:=hK B2 (fG.2 ⟨vm,vd,ga,gb,rfl,rfl,hd,o1.frame fun x hx=>q2 x (hd x hx),o2⟩) (fun x hx y hy=>by
  simp at hx
  rw[q2 x hx.2]
  exact q1 x hx.1 y (nI hg _ x y hy))
 simpa [mL] using this
theorem G4 (neg:Bool) (n:Nat) (k:Nat) (hk:k+n≤4611686018427387000):RO Tryz.prog 210 [.agg [.bool neg,.sl (iv (marks k n))],.int .i64 k] (.int .i64 (k+n:Nat)):=by
 refine aI Tryz.func210 rfl rfl (by rw[Tryz.ntmps210];simp) fun bl=> ?_
 rw[Tryz.ntmps210,Tryz.results210]
 refine aC ?_
 simp
 intro g hg0 hg
 refine aD (wQ n k (by omega)) ?_
 simp
 refine⟨fun h=>by omega,fun h=> ?_⟩
 exact aK [_] 0 (by simp;rfl) (by simp[frz,V.cl]) (by simp[hg])
theorem B4 (r:RT) (k:Nat) (hk:mL k r≤4611686018427387000):RO Tryz.prog 134 [.agg (mkR k r).c,.int .i64 k] (.int .i64 (mL k r:Nat)):=by
 unfold mL at hk
 refine aI Tryz.func134 rfl rfl (by rw[Tryz.ntmps134];simp) fun bl=> ?_
 rw[Tryz.ntmps134,Tryz.results134]
 refine aC ?_
 simp[RT.c,mkR]
 intro g hg0 hg
 refine aD (G4 r.neg r.m.length k (by omega)) ?_
 simp
 refine⟨fun h=>by omega,fun h=> ?_⟩
 have t1:(k:Int)+r.m.length=(k+r.m.length:Nat):=by simp
 rw[t1]
 refine aD (wQ r.d.length (k+r.m.length:Nat) (by omega)) ?_
 simp
 refine⟨fun h=>by omega,fun h=> ?_⟩
 exact aK [_] 0 (by simp;rfl) (by simp[frz,V.cl,mL]) (by simp[hg])
def dS (s:SP):List D:=dR s.lo++(dR s.hi++ [.c (.bool s.nl),.c (.bool s.nh)])
theorem qQ {bl:Int→Option Blk} {s:SP} {vs:List V} {gs:List Int} :OwnL bl (dS s) vs gs ↔ ∃v1 v2 g1 g2,vs=v1++v2++ [.bool s.nl,.bool s.nh]∧gs=g1++g2∧(∀g,g∈g1→g∉g2)∧OwnL bl (dR s.lo) v1 g1∧OwnL bl (dR s.hi) v2 g2:=by
 unfold dS
 constructor
 ·intro h
  obtain⟨v1,v,g1,g,rfl,rfl,hd,h1,h⟩:=jS.1 h
  obtain⟨v2,w,g2,g',rfl,rfl,hd2,h2,h⟩:=jS.1 h
  have:=(vR (r:= [.bool s.nl,.bool s.nh]) rfl).1 h
  obtain⟨rfl,rfl⟩:=this
  refine⟨v1,v2,g1,g2,by simp,by simp,fun x hx h=>hd x hx (by simp[h]),h1,h2⟩
 ·rintro⟨v1,v2,g1,g2,rfl,rfl,hd,h1,h2⟩
  refine jS.2 ⟨v1,v2++ [.bool s.nl,.bool s.nh],g1,g2,by simp,rfl,hd,h1,?_⟩
  refine jS.2 ⟨v2,_,g2,[],rfl,by simp,fun x hx h=>(by cases h),h2,?_⟩
  exact(vR (r:= [.bool s.nl,.bool s.nh]) rfl).2 ⟨rfl,rfl⟩
theorem Xs (s:SP):D.fzL (dS s)=s.c:=by simp[dS,dR,D.fzL,D.fz,SP.c]
theorem Ho (s:SP) (n:Nat):(D.a (dS s)).dep (n+2):=by rw[D.dep];exact⟨by omega,by simp[dS,dR,D.depL,D.dep,kZ]⟩
theorem T6 {bl:Int→Option Blk} {s:SP} {vs:List V} {gs:List Int} (h:OwnL bl (dS s) vs gs) (n:Nat):frz bl (n+2) (.agg vs)=some (.agg s.c):=by
 have h1:OwnD bl (.a (dS s)) (.agg vs) gs:=by rw[OwnD];exact⟨vs,rfl,h⟩
 rw[h1.frz (Ho s n),D.fz,Xs]
def vP (k:Nat) (s:SP):Nat:=mL (mL k s.lo) s.hi

theorem SP.Hu {s:SP} {k l:Nat} (h:s.le k) (hkl:k≤l):s.le l:=⟨⟨by have:=h.1.1;omega,by have:=h.1.2;omega⟩,by have:=h.2.1;omega,by have:=h.2.2;omega⟩
theorem RT.Hu {s:RT} {k l:Nat} (h:s.le k) (hkl:k≤l):s.le l:=⟨by have:=h.1;omega,by have:=h.2;omega⟩

theorem Qa (n:Int) (hn:(lim n.natAbs).length≤60):NW Tryz.prog 173 [.agg (biC n)] (.a (dB (decide (n<0)) (lim n.natAbs))):=by
 refine iX Tryz.func173 rfl rfl (by rw[Tryz.ntmps173];simp) fun bl=> ?_
 rw[Tryz.ntmps173,Tryz.results173]
 refine aC ?_
 rw[bV]
 simp
 intro g1 hg1 hb1 g2 hg2 h21 hb2
 try simp[h21,Ne.symm h21]
 refine⟨fun h=>by omega,fun h=> ?_⟩
 try simp[h21,Ne.symm h21]
 refine aW aM (upd bl g1 (some ⟨2,[[.bool (decide (n<0)),.sl (iv (lim n.natAbs))]]⟩)) (by simp[h21,hb2]) [0,1,2,3] 3 (by kernel_rfl) ?_
 simp[h21,Ne.symm h21]
 refine Dz 4 ?_
 simp[h21,Ne.symm h21]
 refine cK (mR (lim n.natAbs) (by omega)) fun v gs b o f fr=> ?_
 obtain⟨c1,c2⟩:=o.one
 have e1: ∀x,x∈gs→x≠g1∧x≠g2∧bl x=none:=fun x hx=>by have:=f x hx;simp[aA] at this;grind
 have n1:b g1=_:=fr g1 fun h=>(e1 g1 h).1 rfl
 have n2:b g2=_:=fr g2 fun h=>(e1 g2 h).2.1 rfl
 simp[h21,Ne.symm h21] at n1 n2
 have hs:Sub bl b:=fun x y hy=>by
  have z1:x≠g1:=fun h=>by rw[h,hb1] at hy;cases hy
  have z2:x≠g2:=fun h=>by rw[h,hb2] at hy;cases hy
  exact aS f fr (by simp[aA,z1,z2,hy])
 have hs1:Sub (upd bl g1 (some ⟨2,[[.bool (decide (n<0)),.sl (iv (lim n.natAbs))]]⟩)) b:=fun x y hy=>by
  rw[aA] at hy
  split at hy
  ·rename_i h;subst h;rw[n1];exact hy
  ·exact hs x y hy
 refine⟨hs1,Dz 5 ?_⟩
 simp[h21,Ne.symm h21,n1,n2,c1,c2]
 refine⟨hs1,Dz 6 ?_⟩
 simp[h21,Ne.symm h21,n1,n2,c1,c2]
 refine⟨hs1.upd (by simp[h21,hb2]) _,Dy ?_⟩
 simp[h21,Ne.symm h21,n1,n2,c1,c2]
 refine gH [.agg [.bool (decide (n<0)),v]] gs (by simp[c1,n1,n2]) ?_ (fun x hx=>(e1 x hx).2.2) (hs.upd hb2 _)
 exact Si.2 ⟨v,rfl,o.frame fun x hx=>by simp[aA,(e1 x hx).2.1]⟩
theorem yU (x:Option Rat) (hx:okQ x):NW Tryz.prog 95 [fv x] (.a (dR (ro x))):=by
 cases x with
 | none =>
   refine iX Tryz.func95 rfl rfl (by rw[Tryz.ntmps95];simp) fun bl=> ?_
   rw[Tryz.ntmps95,Tryz.results95]
   refine aC ?_
   simp[fv]
   intro g2 hg2 hb2
   refine gH [.agg [.bool false,.nils,.nils]] [] (by simp) ?_ (by simp) (by simp[hb2])
   exact pI.2 ⟨.nils,.nils,[],[],rfl,rfl,by simp,dE.2 (.inl ⟨rfl,rfl,rfl⟩),dE.2 (.inl ⟨rfl,rfl,rfl⟩)⟩
 | some q =>
   have hf:=hx q rfl
   have hl:=hf.1
   have hl2:=hf.2
   refine iX Tryz.func95 rfl rfl (by rw[Tryz.ntmps95];simp) fun bl=> ?_
   rw[Tryz.ntmps95,Tryz.results95]
   refine aC ?_
   rw[show fv (some q)= .ptr (rq q).c from rfl,gV]
   simp
   intro g2 hg2 hb2
   refine aW aM bl (by simp[hb2]) [0,1,2,3,5,6,7,8] 4 (by kernel_rfl) ?_
   simp
   refine Dz 4 ?_
   simp
   have hfw:=Qa q.num (by omega)
   rw[bV] at hfw
   refine cK hfw fun v gs b o f fr=> ?_
   obtain⟨vm,rfl,om⟩:=Si.1 o
   obtain⟨c1,c2⟩:=om.one
   have e1: ∀x,x∈gs→x≠g2∧bl x=none:=fun x hx=>by have:=f x hx;simp[aA] at this;exact this
   have n2:b g2=_:=fr g2 fun h=>(e1 g2 h).1 rfl
   simp at n2
   have hs:Sub bl b:=fun x y hy=>by
    have z2:x≠g2:=fun h=>by rw[h,hb2] at hy;cases hy
    exact aS f fr (by simp[aA,z2,hy])
   refine⟨hs,Dz 9 ?_⟩
   simp
   refine cK (mR (lim q.den) (by omega)) fun w gw b2 ow f2 fr2=> ?_
   obtain⟨d1,d2⟩:=ow.one
   have m2:b2 g2=_:=aS f2 fr2 n2
   have hs2:Sub bl b2:=fun x y hy=>aS f2 fr2 (hs x y hy)
   have e3: ∀x,x∈gw→x≠g2:=fun x hx h=>by have:=f2 x hx;rw[h,n2] at this;cases this
   have e4: ∀x,x∈gs→x∉gw:=fun x hx h=>by
    obtain⟨y,hy⟩:=om.has x hx
    rw[f2 x h] at hy;cases hy
   refine⟨hs2,Dz 10 ?_⟩
   simp[m2,c1,c2,d1,d2]
   refine⟨hs2,Dz 11 ?_⟩
   simp[m2,c1,c2,d1,d2]
   refine⟨hs2.upd hb2 _,Dy ?_⟩
   simp[m2,c1,c2,d1,d2]
   refine gH [.agg [.bool (decide (q.num<0)),vm,w]] (gs++gw) (by simp[c1,d1,m2]) ?_ (fun x hx=> ?_) (hs2.upd hb2 _)
   ·refine pI.2 ⟨vm,w,gs,gw,rfl,rfl,e4,om.frame fun x hx=> ?_,ow.frame fun x hx=> ?_⟩
    ·simp only[aA];rw[if_neg (e1 x hx).1];exact fr2 x (e4 x hx)
    ·simp only[aA];rw[if_neg (e3 x hx)]
   ·rcases List.mem_append.1 hx with hx | hx
    ·exact(e1 x hx).2
    ·exact aQ hs (f2 x hx)
def dT (r:RT) (b:Bool):D:= .t [.a (dR r),.c (.bool b)]
def aXQ (s:SP):Option Rat:=if aUY s && !s.nl && !s.nh then op2 (· - ·) (rd s.hi) (rd s.lo) else none
theorem ro_le {x:Option Rat} (h:okQ x):(ro x).m.length≤24∧(ro x).d.length≤24:=by
 cases x with
 | none => simp [ro, rz]
 | some q => exact h q rfl
theorem Hw {bl:Int→Option Blk} {s:SP} {vs:List V} {gs:List Int} (h:OwnL bl (dS s) vs gs): ∃vm vd wm wd,vs= [.bool s.lo.neg,vm,vd,.bool s.hi.neg,wm,wd,.bool s.nl,.bool s.nh]∧vm.one=true∧vd.one=true∧wm.one=true∧wd.one=true:=by
 obtain⟨v1,v2,ga,gb,rfl,rfl,hd,o1,o2⟩:=qQ.1 h
 obtain⟨vm,vd,_,_,rfl,rfl,_,om,od⟩:=fG.1 o1
 obtain⟨wm,wd,_,_,rfl,rfl,_,om2,od2⟩:=fG.1 o2
 exact⟨vm,vd,wm,wd,rfl,om.one.1,od.one.1,om2.one.1,od2.one.1⟩

theorem O3 {n:Int} (h0:0≤n) (h1:n≤18446744073709551615):IntKind.u64.wrap n=n:=IntWalk.u64_in _ ⟨by omega,by omega⟩
theorem sE (n:Int) (hn: -9223372036854775808≤n∧n≤9223372036854775807):RO Tryz.prog 160 [.int .i64 n] (.agg (biC n)):=by
 refine aI Tryz.func160 rfl rfl (by rw[Tryz.ntmps160];simp) fun bl=> ?_
 rw[Tryz.ntmps160,Tryz.results160]
 refine aC ?_
 simp
 intro g hg0 hg
 refine⟨fun h=> ?_,fun h=> ?_⟩
 ·have e:IntKind.u64.wrap (IntKind.u64.wrap (IntKind.i64.wrap (-IntKind.i64.wrap (n+1)))+1)=(n.natAbs:Int):=by
   have w1:IntKind.i64.wrap (n+1)=n+1:=i64_in (by omega) (by omega)
   have w2:IntKind.i64.wrap (-(n+1))= -(n+1):=i64_in (by omega) (by omega)
   have w3:IntKind.u64.wrap (-(n+1))= -(n+1):=O3 (by omega) (by omega)
   have w4:IntKind.u64.wrap (-(n+1)+1)= -(n+1)+1:=O3 (by omega) (by omega)
   rw[w1,w2,w3,w4]
   omega
  rw[e]
  refine aD (sP n.natAbs (by omega)) ?_
  simp
  refine aD (fW true n.natAbs) ?_
  have e2:sg true n.natAbs=n:=by unfold sg;simp;omega
  rw[e2,bV]
  simp
  exact aK [.agg (biC n)] 1 (by simp[bV]) (by simp[frz,bV,V.cl]) (by simp[hg])
 ·have e:IntKind.u64.wrap n=(n.natAbs:Int):=by rw[O3 (by omega) (by omega)];omega
  rw[e]
  refine aD (sP n.natAbs (by omega)) ?_
  simp
  refine aD (fW false n.natAbs) ?_
  have e2:sg false n.natAbs=n:=by unfold sg;simp;omega
  rw[e2,bV]
  simp
  exact aK [.agg (biC n)] 1 (by simp[bV]) (by simp[frz,bV,V.cl]) (by simp[hg])
theorem Bb (n:Int) (hn: -9223372036854775808<n∧n≤9223372036854775807):RO Tryz.prog 215 [.int .i64 n] (.agg (biC n)):=by
 have hl:(lim n.natAbs).length≤60:=aL.2 (Nat.lt_of_le_of_lt (show n.natAbs≤9223372036854775808 by omega) (by decide+kernel))
 refine aI Tryz.func215 rfl rfl (by rw[Tryz.ntmps215];simp) fun bl=> ?_
 rw[Tryz.ntmps215,Tryz.results215]
 refine aC ?_
 simp
 intro g hg0 hg
 have h0: ¬ n= -9223372036854775808:=by omega
 simp[h0]
 refine⟨fun h=> ?_,fun h=> ?_⟩
 ·have e:IntKind.i64.wrap (-n)=(n.natAbs:Int):=by rw[i64_in (by omega) (by omega)];omega
  try rw[e]
  refine aD (fS n.natAbs (by omega)) ?_
  simp
  refine aD (eI true n.natAbs hl) ?_
  have e2:sg true n.natAbs=n:=by unfold sg;simp;omega
  rw[e2,bV]
  simp
  exact aK [.agg (biC n)] 1 (by simp[bV]) (by simp[frz,bV,V.cl]) (by simp[hg])
 ·have e:n=(n.natAbs:Int):=by omega
  have hN:=fS n.natAbs (by omega)
  rw[←e] at hN
  refine aD hN ?_
  simp
  refine aD (eI false n.natAbs hl) ?_
  have e2:sg false n.natAbs=n:=by unfold sg;simp;omega
  rw[e2,bV]
  simp
  exact aK [.agg (biC n)] 1 (by simp[bV]) (by simp[frz,bV,V.cl]) (by simp[hg])
theorem Sf (n:Int):(rq (n:Rat)).c= [.bool (decide (n<0)),.sl (iv (lim n.natAbs)),.sl [[.int .i64 1]]]:=by
 rw[gV]
 show [V.bool (decide (n<0)),V.sl (iv (lim n.natAbs)),V.sl (iv (lim 1))]=_
 rw[Fi];rfl
theorem dU (n:Int) (hn: -9223372036854775808<n∧n≤9223372036854775807):RO Tryz.prog 138 [.int .i64 n] (.agg (ro (some (n:Rat))).c):=by
 refine aI Tryz.func138 rfl rfl (by rw[Tryz.ntmps138];simp) fun bl=> ?_
 rw[Tryz.ntmps138,Tryz.results138]
 refine aC ?_
 rw[show(ro (some (n:Rat))).c=_ from Sf n]
 simp
 intro g hg0 hg
 refine aD (Bb n hn) ?_
 simp[bV]
 intro g1 hg1 h1g hb1
 simp[h1g,Ne.symm h1g]
 refine aK [.agg [.bool (decide (n<0)),.sl (iv (lim n.natAbs)),.lsl g1 1 0 1]] 2 (by simp[h1g,Ne.symm h1g]) ?_ (by simp[hg,hb1])
 exact yD (ns:= [1]) (.inl hg1) hb1 (by simp[h1g,iv])
theorem uO (n:Int) (hn: -9223372036854775808≤n∧n≤9223372036854775807):RO Tryz.prog 83 [.int .i64 n] (fv (some (n:Rat))):=by
 refine aI Tryz.func83 rfl rfl (by rw[Tryz.ntmps83];simp) fun bl=> ?_
 rw[Tryz.ntmps83,Tryz.results83]
 refine aC ?_
 rw[show fv (some (n:Rat))= .ptr (rq (n:Rat)).c from rfl,Sf n]
 simp
 refine aD (sE n hn) ?_
 simp[bV]
 intro g1 hg1 hb1 g2 hg2 h21 hb2
 refine aK [.loc g2 3 0 0] 2 (by simp[h21,Ne.symm h21]) ?_ (by simp[hb1,hb2])
 have h1:=yD (bl0:=bl) (ms:=lim n.natAbs) (b:=decide (n<0)) (ns:= [1]) (g:=g1) (.inl hg1) hb1 (bl:=upd (upd bl g1 (some ⟨1,iv [1]⟩)) g2 (some ⟨3,[[.bool (decide (n<0)),.sl (iv (lim n.natAbs)),.lsl g1 1 0 1]]⟩)) (by simp[h21,Ne.symm h21])
 rw[qU] at h1
 show frz _ 2 (.loc g2 3 0 0)=_
 rw[qH (e:= [.bool (decide (n<0)),.sl (iv (lim n.natAbs)),.lsl g1 1 0 1]) (by simp[dropB,hb2])]
 obtain⟨e',he,h2⟩:=Option.map_eq_some_iff.1 h1
 cases h2
 exact(congrArg (Option.map V.ptr) he).trans rfl

def rv (rs:List RT):List (List V):=rs.map RT.c
def dRs (rs:List RT):D:= .s 3 (rs.map dR)
def szTo :List RT→Int→Int
 | [], left => left
 | r :: rs, left => if szR r left < 0 then -1 else szTo rs (szR r left)
def aXS (rs:List RT) (left:Int):Int:=if less left rs.length<0 then -1 else szTo rs (less left rs.length)
def aKQ (rs:List RT) (k:Nat):Prop:=rs.length≤k∧ ∀r,r∈rs→r.le k
def aSB (rs:List RT):Nat:=(rs.map fun r=>r.m.length+r.d.length).sum
def mkQ (k:Nat) (r:RT):RT:=⟨(k:Int).tmod 3==0,marks (k+1:Nat) r.m.length,marks (k+1+r.m.length:Nat) r.d.length⟩
def aHA (k:Nat) (r:RT):Nat:=k+1+r.m.length+r.d.length
def mkQs :Nat→List RT→List RT
 | _, [] => []
 | k, r :: rs => mkQ k r :: mkQs (aHA k r) rs
def aVS (k:Nat) (rs:List RT):Nat:=rs.foldl aHA k
structure Mk where
 i:Nat
 els:List (List V)
 b:Int→Option Blk
theorem O9 {bl:Int→Option Blk} {K:V→(Int→Option Blk)→Prop} (xs:List Int) (k:Nat) (v:V) (gs:List Int) (h:OwnD bl (fl 1 (iv xs)) v gs) (hk:k+xs.length≤4611686018427387000)
  (hK: ∀bl',OwnD bl' (fl 1 (iv (marks k xs.length))) v gs→(∀g,g∉gs→ ∀b,bl g=some b→bl' g=some b)→K (.int .i64 (k+xs.length:Nat)) bl'):bW Tryz.prog 57 [v,.int .i64 k] bl K:=
 pM xs k v gs h (by omega) fun bl' o q=>by
  have:=hK bl' o fun g hg b hb=>by rw[q g hg];exact hb
  simpa using this

def fvs (xs:List (Option Rat)):List (List V):=xs.map fun x=> [fv x]
@[simp] theorem aR3 (x : Option Rat) : (fv x).one = true := by cases x <;> rfl
@[simp] theorem aM8 (x : Option Rat) : (fv x).cells = [fv x] := by cases x <;> rfl
def okL (xs:List (Option Rat)):Prop:= ∀x,x∈xs→okQ x
def dL (xs:List (Option Rat)) (b:Bool):D:= .t [fl 1 (fvs xs),.c (.bool b)]
def At (rs:List RT):Bool:=rs.all fun r=>(rd r).isSome
def jM (rs:List RT):List (Option Rat):=rs.map rd
def Pp (rs:List RT):Bool:=decide (rs.length≤24)&& At rs
def yF (xs:List (Option Rat)):Bool:=xs.all Option.isSome
def Hq (xs:List (Option Rat)):List RT:=xs.map ro
def stQ (xs:List (Option Rat)):List RT:=if yF xs=true then Hq xs else []
def dV (rs:List RT) (b:Bool):D:= .t [dRs rs,.c (.bool b)]

def Gc (s:Str) (q:List RT):Bool:=(sOk s && decide (q.length=s.ms.length))&& At q
def Pf (m:Mb) (x:Option Rat):Bool:=(decide (m.kind=1)&& decide (sgq x<0))|| (decide (m.kind=2)&& decide (0<sgq x))
def aTM (ms:List Mb) (q:List RT) (n:Nat):Prop:= ∀k (h1:k<ms.length) (h2:k<q.length),k<n→Pf ms[k] (rd q[k])=false
def aYA (s:Str) (q:List RT):Bool:=Gc s q && (List.zip s.ms q).all fun p=> !Pf p.1 (rd p.2)

def pTo (e:Mb→Int) (s:Str) (q:List (Option Rat)) (j:Int):Nat→Option Rat
 | 0 => some 0
 | n + 1 => if j = (mat s n).a ∨ j = (mat s n).b then op2 (· + ·) (pTo e s q j n) (op2 (· * ·) (q.getD n none) (some (e (mat s n) : Rat))) else pTo e s q j n
def pX (s:Str) (q:List (Option Rat)) (j:Int):Option Rat:=pTo (eqX s j) s q j s.ms.length
def pY (s:Str) (q:List (Option Rat)) (j:Int):Option Rat:=pTo (eqY s j) s q j s.ms.length

def aCH (s:Str) (q:List RT) (j:Int):Bool:=Gc s q && (decide (0≤j)&& decide (j<s.js.length))
def pqs (s:Str) (q:List RT) (j:Int):List (Option Rat):=if aCH s q j=true then [pX s (jM q) j,pY s (jM q) j] else [none]
end Go.Proofs.YticmgmemnpcbbaaGreat.Vm

namespace Go.Proofs.YticmgmemnpcbbaaGreat.Vm
open Go Go.RowKit Go.Proofs
set_option linter.unusedSimpArgs false
set_option linter.unusedVariables false
def dTS (s:SP) (b:Bool):D:= .t [.a (dS s),.c (.bool b)]
theorem nL {bl:Int→Option Blk} {s:SP} {b:Bool} {v:V} {gs:List Int} :OwnD bl (dTS s b) v gs ↔ ∃vs,v= .tup [.agg vs,.bool b]∧OwnL bl (dS s) vs gs:=by
 unfold dTS
 rw[OwnD]
 constructor
 ·rintro⟨vs,rfl,h⟩
  obtain⟨v,w,g1,g2,rfl,rfl,hd,h1,h2⟩:=gJ.1 h
  rw[OwnD] at h2
  obtain⟨rfl,_,rfl⟩:=h2
  rw[OwnD] at h1
  obtain⟨vs,rfl,h1⟩:=h1
  exact⟨vs,rfl,by simpa using h1⟩
 ·rintro⟨vs,rfl,h⟩
  refine⟨_,rfl,gJ.2 ⟨.agg vs,.bool b,gs,[],rfl,by simp,fun x hx h=>(by cases h),by rw[OwnD];exact⟨vs,rfl,h⟩,zK b⟩⟩
theorem aLA (s:SP):D.scL (dS s)=true:=by simp[dS,dR,D.scL,D.sc,V.ow,aJM]
theorem Zl (s:SP) (b:Bool):(dTS s b).sc=true:=by simp[dTS,D.sc,D.scL,aLA,V.ow]
theorem Uz (s:SP) (b:Bool) (n:Nat):(dTS s b).dep (n+3):=by
 unfold dTS
 rw[D.dep]
 refine⟨by omega,?_⟩
 simp only[D.depL]
 exact⟨Ho s n,by simp[D.dep]⟩
theorem aCI (s:SP) (b:Bool):(dTS s b).fz= .tup [.agg s.c,.bool b]:=by simp[dTS,D.fz,D.fzL,Xs]
def vB (k:Nat) (s:SP):SP:=⟨mkR k s.lo,mkR (mL k s.lo) s.hi,s.nl,s.nh⟩
theorem Q0 {bl:Int→Option Blk} {K:V→(Int→Option Blk)→Prop} (s:SP) (k:Nat) (vs:List V) (gs:List Int) (h:OwnL bl (dS s) vs gs) (hk:vP k s≤4611686018427387000)
  (hK: ∀bl',OwnL bl' (dS (vB k s)) vs gs→(∀g,g∉gs→ ∀b,bl g=some b→bl' g=some b)→K (.int .i64 (vP k s:Nat)) bl'):bW Tryz.prog 58 [.agg vs,.int .i64 k] bl K:=by
 obtain⟨v1,v2,g1,g2,rfl,rfl,hd,h1,h2⟩:=qQ.1 h
 obtain⟨vm,vd,ga,gb,rfl,rfl,_,om,od⟩:=fG.1 h1
 obtain⟨wm,wd,gc,gd,rfl,rfl,_,om2,od2⟩:=fG.1 h2
 obtain⟨a1,a2⟩:=om.one
 obtain⟨b1,b2⟩:=od.one
 obtain⟨c1,c2⟩:=om2.one
 obtain⟨d1,d2⟩:=od2.one
 have hle:mL k s.lo≤vP k s:=by unfold vP mL;omega
 refine bO Tryz.func58 rfl rfl (by rw[Tryz.ntmps58];simp) ?_
 rw[Tryz.ntmps58,Tryz.results58]
 refine aC ?_
 simp[a1,b1,c1,d1]
 intro g hg0 hg
 have na:g∉ga++gb:=h1.not hg
 refine A0 s.lo k [.bool s.lo.neg,vm,vd] (ga++gb) (h1.bI fun x _ y hy=>nI hg _ x y hy) (by omega) fun B1 o1 q1=> ?_
 have eg1:B1 g=some ⟨8,[[.bool s.lo.neg,vm,vd,.bool s.hi.neg,wm,wd,.bool s.nl,.bool s.nh]]⟩:=q1 g na _ (by simp)
 simp[eg1]
 refine A0 s.hi (mL k s.lo) [.bool s.hi.neg,wm,wd] (gc++gd) (h2.bI fun x hx y hy=>q1 x (fun hh=>hd x hh hx) y (nI hg _ x y hy)) hk fun B2 o2 q2=> ?_
 simp
 rw[bH]
 refine⟨[_],by simp;rfl,?_⟩
 exact hK B2 (qQ.2 ⟨_,_,_,_,rfl,rfl,hd,o1.bI fun x hx y hy=>q2 x (fun hh=>hd x hx hh) y hy,o2⟩) (fun x hx y hy=>q2 x (fun h=>hx (List.mem_append_right _ h)) y (q1 x (fun h=>hx (List.mem_append_left _ h)) y (nI hg _ x y hy)))
theorem By (s:SP) (k:Nat) (hk:vP k s≤4611686018427387000):RO Tryz.prog 59 [.agg (vB k s).c,.int .i64 k] (.int .i64 (vP k s:Nat)):=by
 have hle:mL k s.lo≤vP k s:=by unfold vP mL;omega
 have e:vP k s=mL (mL k s.lo) s.hi:=rfl
 have h1:=B4 s.lo k (by omega)
 have h2:=B4 s.hi (mL k s.lo) hk
 simp only[RT.c] at h1 h2
 obtain⟨n,hn⟩: ∃n,mL k s.lo=n:=⟨_,rfl⟩
 rw[e] at hk ⊢
 rw[hn] at h1 h2 hk ⊢
 have em:vB k s=⟨mkR k s.lo,mkR n s.hi,s.nl,s.nh⟩:=by rw[←hn];rfl
 rw[em]
 refine aI Tryz.func59 rfl rfl (by rw[Tryz.ntmps59];simp) fun bl=> ?_
 rw[Tryz.ntmps59,Tryz.results59]
 refine aC ?_
 simp[SP.c]
 intro g hg0 hg
 refine aD h1 ?_
 simp
 refine⟨fun h=>by omega,?_⟩
 refine aD h2 ?_
 simp
 refine⟨fun h=>by omega,?_⟩
 exact aK [_] 0 (by simp;rfl) (by simp[frz,V.cl]) (by simp[hg])
theorem wH (n:Int) (hn: -9223372036854775808≤n∧n≤9223372036854775807):NW Tryz.prog 26 [.int .i64 n] (.a (dR (ro (some (n:Rat))))):=by
 refine iX Tryz.func26 rfl rfl (by rw[Tryz.ntmps26];simp) fun bl=> ?_
 rw[Tryz.ntmps26,Tryz.results26]
 refine aC ?_
 simp
 intro g2 hg2 hb2
 refine aD (uO n hn) ?_
 simp
 refine cK (yU (some (n:Rat)) (fun p hp=>by cases hp;exact fits_int (by omega))) fun v gs b o f fr=> ?_
 obtain⟨vm,vd,ga,gb,rfl,rfl,hd,om,od⟩:=pI.1 o
 obtain⟨c1,c2⟩:=om.one
 obtain⟨d1,d2⟩:=od.one
 have e1: ∀x,x∈ga++gb→x≠g2∧bl x=none:=fun x hx=>by have:=f x hx;simp only[aA] at this;split at this<;>simp_all
 have n2:b g2=some ⟨3,[[.bool false,.nils,.nils]]⟩:=aS f fr (by simp)
 have hs:Sub bl b:=fun x y hy=>by
  have z2:x≠g2:=fun h=>by rw[h,hb2] at hy;cases hy
  exact aS f fr (by simp[aA,z2,hy])
 simp[n2,c1,d1]
 refine gH [.agg [.bool (ro (some (n:Rat))).neg,vm,vd]] (ga++gb) (by simp[c1,d1]) ?_ (fun x hx=>(e1 x hx).2) (hs.upd hb2 _)
 refine pI.2 ⟨vm,vd,ga,gb,rfl,rfl,hd,om.frame fun x hx=> ?_,od.frame fun x hx=> ?_⟩
 ·simp[aA,(e1 x (List.mem_append_left _ hx)).1]
 ·simp[aA,(e1 x (List.mem_append_right _ hx)).1]
end Go.Proofs.YticmgmemnpcbbaaGreat.Vm

namespace Go.Proofs.YticmgmemnpcbbaaGreat.Vm
open Go Go.Proofs
set_option linter.unusedSimpArgs false
set_option linter.unusedVariables false
theorem Vo (ns:List J): ∀r,r∈jv ns→r.length=4:=by
 intro r hr
 obtain⟨n,_,rfl⟩:=List.mem_map.1 hr
 rfl
theorem Sx (ns:List Mb): ∀r,r∈mv ns→r.length=3:=by
 intro r hr
 obtain⟨n,_,rfl⟩:=List.mem_map.1 hr
 rfl
theorem Q8 {bl:Int→Option Blk} {ns:List J} {v:V} {gs:List Int} :OwnD bl (fl 4 (jv ns)) v gs ↔ (ns= []∧v= .nils∧gs= [])∨ ∃g,v= .lsl g 4 0 ns.length∧gs= [g]∧bl g=some ⟨4,jv ns⟩∧(g<0→ns= []):=by
 rw[uR (Wo ns) (Vo ns)]
 simp[jv]
theorem R0 {bl:Int→Option Blk} {ns:List Mb} {v:V} {gs:List Int} :OwnD bl (fl 3 (mv ns)) v gs ↔ (ns= []∧v= .nils∧gs= [])∨ ∃g,v= .lsl g 3 0 ns.length∧gs= [g]∧bl g=some ⟨3,mv ns⟩∧(g<0→ns= []):=by
 rw[uR (Xu ns) (Sx ns)]
 simp[mv]
theorem Ch (a:List J) (ha:a.length≤1048576):NW Tryz.prog 118 [.sl (jv a)] (fl 4 (jv a)):=by
 refine iX Tryz.func118 rfl rfl (by rw[Tryz.ntmps118];simp) fun bl=> ?_
 rw[Tryz.ntmps118,Tryz.results118]
 refine aC ?_
 simp
 refine⟨by omega,by unfold maxLen;omega,fun g hg0 hg=> ?_⟩
 refine aJ (fun i:Nat=> [(0,.sl (jv a)),(3,.lsl g 4 0 a.length),(4,.int .i64 i)]) (fun i=>upd bl g (some ⟨4,part (jv a) [.str { data:= #[] },.int .i64 0,.int .i64 0,.bool false] i⟩)) (fun i=>i≤a.length) (fun i=>a.length - i) _ 0 (Nat.zero_le _) ⟨rfl,by simp,sub_eq (by simp)⟩ ?_
 intro i hi
 refine aC ?_
 simp
 refine⟨fun h=> ?_,fun h=> ?_⟩
 ·have hi':i<(jv a).length:=by simpa using h
  simp[h]
  refine aD (zF a[i]) ?_
  simp (disch:=omega) [h,dP _ _ _ hi',i64_in,aB,J.c]
  refine⟨i+1,by omega,by omega,rfl,by simp,sub_eq ?_⟩
  simp only[jI]
  rw[cU _ _ _ hi']
  simp[J.c]
 ·refine gH [.lsl g 4 0 a.length] [g] (by simp) ?_ (by simpa using hg) (by simp[hg])
  rw[eP _ _ _ (by simpa using h)]
  exact Q8.2 (.inr ⟨g,rfl,rfl,by simp,by omega⟩)
theorem Q7 (a:List Mb) (ha:a.length≤1048576):NW Tryz.prog 119 [.sl (mv a)] (fl 3 (mv a)):=by
 refine iX Tryz.func119 rfl rfl (by rw[Tryz.ntmps119];simp) fun bl=> ?_
 rw[Tryz.ntmps119,Tryz.results119]
 refine aC ?_
 simp
 refine⟨by omega,by unfold maxLen;omega,fun g hg0 hg=> ?_⟩
 refine aJ (fun i:Nat=> [(0,.sl (mv a)),(3,.lsl g 3 0 a.length),(4,.int .i64 i)]) (fun i=>upd bl g (some ⟨3,part (mv a) [.int .i64 0,.int .i64 0,.int .i64 0] i⟩)) (fun i=>i≤a.length) (fun i=>a.length - i) _ 0 (Nat.zero_le _) ⟨rfl,by simp,sub_eq (by simp)⟩ ?_
 intro i hi
 refine aC ?_
 simp
 refine⟨fun h=> ?_,fun h=> ?_⟩
 ·have hi':i<(mv a).length:=by simpa using h
  simp[h]
  refine aD (wM a[i]) ?_
  simp (disch:=omega) [h,dP _ _ _ hi',i64_in,aB,Mb.c]
  refine⟨i+1,by omega,by omega,rfl,by simp,sub_eq ?_⟩
  simp only[jI]
  rw[cU _ _ _ hi']
  simp[Mb.c]
 ·refine gH [.lsl g 3 0 a.length] [g] (by simp) ?_ (by simpa using hg) (by simp[hg])
  rw[eP _ _ _ (by simpa using h)]
  exact R0.2 (.inr ⟨g,rfl,rfl,by simp,by omega⟩)
def G2 (s:Str):List D:= [fl 4 (jv s.js),fl 3 (mv s.ms)]
theorem yM (s:Str) (hj:s.js.length≤1048576) (hm:s.ms.length≤1048576):NW Tryz.prog 48 [.agg s.c] (.a (G2 s)):=by
 refine iX Tryz.func48 rfl rfl (by rw[Tryz.ntmps48];simp) fun bl=> ?_
 rw[Tryz.ntmps48,Tryz.results48]
 refine aC ?_
 simp[Str.c]
 intro g1 hg1 hb1 g2 hg2 h21 hb2
 intro g3 hg3 h32 h31 hb3
 simp[h21,h31,h32,Ne.symm h21,Ne.symm h31,Ne.symm h32]
 refine cK (Ch _ hj) fun v1 gs1 b1 o1 f1 fr1=> ?_
 obtain⟨c1,c2⟩:=o1.one
 have e1: ∀g,g∈gs1→g≠g1∧g≠g2∧g≠g3∧bl g=none:=fun g hg=>by have:=f1 g hg;simp[aA] at this;grind
 have n1:b1 g1=_:=fr1 g1 fun h=>(e1 g1 h).1 rfl
 have n2:b1 g2=_:=fr1 g2 fun h=>(e1 g2 h).2.1 rfl
 have n3:b1 g3=_:=fr1 g3 fun h=>(e1 g3 h).2.2.1 rfl
 simp[h21,h31,h32,Ne.symm h21,Ne.symm h31,Ne.symm h32] at n1 n2 n3
 simp[h21,h31,h32,Ne.symm h21,Ne.symm h31,Ne.symm h32,n1,n2,n3,c1,c2]
 refine cK (Q7 _ hm) fun v2 gs2 b2 o2 f2 fr2=> ?_
 obtain⟨d1,d2⟩:=o2.one
 have e2: ∀g,g∈gs2→g≠g3∧b1 g=none:=fun g hg=>by have:=f2 g hg;simp[aA] at this;exact this
 have e3: ∀g,g∈gs2→g∉gs1:=fun g hg hg1=>by
  obtain⟨b,hb⟩:=o1.has g hg1
  rw[(e2 g hg).2] at hb;cases hb
 have e4: ∀g,g∈gs2→g≠g2:=fun g hg h=>by have:=(e2 g hg).2;rw[h,n2] at this;cases this
 have m1:b2 g1=_:=fr2 g1 fun h=>by have:=(e2 g1 h).2;rw[n1] at this;cases this
 have m2:b2 g2=_:=fr2 g2 fun h=>by have:=(e2 g2 h).2;rw[n2] at this;cases this
 have m3:b2 g3=_:=fr2 g3 fun h=>(e2 g3 h).1 rfl
 simp[h21,h31,h32,Ne.symm h21,Ne.symm h31,Ne.symm h32,n1,n2] at m1 m2 m3
 simp[h21,h31,h32,Ne.symm h21,Ne.symm h31,Ne.symm h32,m1,m2,m3,d1,d2,c1]
 have k1:OwnD b2 (fl 4 (jv s.js)) v1 gs1:=o1.frame fun g hg=>by
  rw[fr2 g (fun h=>e3 g h hg)]
  simp[aA,(e1 g hg).2.2.1]
 have jG:Sub bl b2:=fun g b hb=>by
  have z1:g≠g1:=fun h=>by rw[h,hb1] at hb;cases hb
  have z2:g≠g2:=fun h=>by rw[h,hb2] at hb;cases hb
  have z3:g≠g3:=fun h=>by rw[h,hb3] at hb;cases hb
  have hn1:g∉gs1:=fun h=>by rw[(e1 g h).2.2.2] at hb;cases hb
  have hb1:b1 g=some b:=by rw[fr1 g hn1];simp[aA,z1,z2,z3,hb]
  have hn2:g∉gs2:=fun h=>by rw[(e2 g h).2] at hb1;cases hb1
  rw[fr2 g hn2]
  simp[aA,z3,hb1]
 refine gH [.agg [v1,v2]] (gs1++gs2) ?_ ?_ ?_ ?_
 ·simp[h21,h31,h32,Ne.symm h21,Ne.symm h31,Ne.symm h32,m1,m2,m3]
 ·show OwnD _ (.a (G2 s)) (.agg [v1,v2]) (gs1++gs2)
  rw[OwnD]
  refine⟨_,rfl,gJ.2 ⟨v1,v2,gs1,gs2,rfl,rfl,fun g h1 h2=>e3 g h2 h1,?_,?_⟩⟩
  ·exact k1.frame fun g hg=>by simp[aA,(e1 g hg).2.1,(e1 g hg).2.2.1]
  ·exact o2.frame fun g hg=>by simp[aA,(e2 g hg).1,e4 g hg]
 ·intro g hg
  rcases List.mem_append.1 hg with hg | hg
  ·exact(e1 g hg).2.2.2
  ·have h2:=(e2 g hg).2
   rw[fr1 g (e3 g hg)] at h2
   simp[aA] at h2
   grind
 ·simp[hb2,hb3];exact jG
structure Str.sz (s : Str) : Prop where
 js:s.js.length≤140737488351232
 ms:s.ms.length≤140737488351232
 nm: ∀j,j∈s.js→j.name.size≤140737488351232
theorem Gv {bl:Int→Option Blk} {s:Str} {vs:List V} {gs:List Int} (h:OwnL bl (G2 s) vs gs) (n:Nat):frz bl (n+2) (.agg vs)=some (.agg s.c):=by
 have h1:OwnD bl (.a (G2 s)) (.agg vs) gs:=by rw[OwnD];exact⟨vs,rfl,h⟩
 rw[h1.frz (n:=n+2) (by rw[D.dep];refine⟨by omega,?_⟩;simp[G2,D.depL,kZ])]
 simp[D.fz,G2,D.fzL,Str.c]
theorem Vy {bl:Int→Option Blk} {s:Str} {v:V} {gs:List Int} (h:OwnD bl (.a (G2 s)) v gs): ∃v1 v2,v= .agg [v1,v2]∧OwnL bl (G2 s) [v1,v2] gs∧v1.one=true∧v1.cells= [v1]∧v2.one=true∧v2.cells= [v2]:=by
 rw[OwnD] at h
 obtain⟨vs,rfl,o⟩:=h
 obtain⟨v1,v2,ga,gb,rfl,rfl,hd,o1,o2⟩:=gJ.1 o
 exact⟨v1,v2,rfl,o,o1.one.1,o1.one.2,o2.one.1,o2.one.2⟩

def T0 (k:Nat) (out:ByteArray):ByteArray:=if h:k=0 then out else T0 (k / 10) (oG [IntKind.u8.wrap (IntKind.i64.wrap (48+(k:Int).tmod 10))]++out)
termination_by k
decreasing_by omega
def V1 (k:Nat):ByteArray:=if k=0 then { data:= #[109,48] } else({ data:= #[109] } :ByteArray)++T0 k { data:= #[] }
theorem Kr {k:Nat} (h:k≠0) (out:ByteArray):T0 k out=T0 (k / 10) (oG [IntKind.u8.wrap (IntKind.i64.wrap (48+(k:Int).tmod 10))]++out):=by
 rw[T0,dif_neg h]
theorem It (out:ByteArray):T0 0 out=out:=by rw[T0,dif_pos rfl]
theorem Y3 (k:Nat) (hk:k≤4611686018427387904):RO Tryz.prog 208 [.int .i64 k] (.str (V1 k)):=by
 refine aI Tryz.func208 rfl rfl (by rw[Tryz.ntmps208];simp) fun bl=> ?_
 rw[Tryz.ntmps208,Tryz.results208]
 refine aC ?_
 simp
 refine⟨fun h=> ?_,fun h=> ?_⟩
 ·exact aR (by simp[V1,h]) rfl rfl
 refine aJ (fun p:Nat×ByteArray=> [(0,.int .i64 p.1),(3,.str p.2)]) (fun _=>bl) (fun p=>p.1+p.2.size≤k∧T0 p.1 p.2=T0 k { data:= #[] }) (fun p=>p.1) _ (k, { data:= #[] }) ⟨by simp[ByteArray.size],rfl⟩ ⟨rfl,by simp,Sub.refl _⟩ ?_
 rintro⟨n,out⟩ ⟨hn,hd⟩
 simp only at hn hd
 refine aC ?_
 simp
 refine⟨fun h1=> ?_,fun h1=> ?_⟩
 ·intro g hg0 hg
  have hsz: ∀x,(oG [x]).size=1:=fun x=>rfl
  simp[cvtV,cvtS,elsV,Int.not_lt.2 hg0,bytesOf]
  have h2:=hsz (IntKind.u8.wrap (IntKind.i64.wrap (48+(n:Int).tmod 10)))
  refine⟨by omega,?_⟩
  simp[aB]
  refine⟨n / 10,oG [IntKind.u8.wrap (IntKind.i64.wrap (48+(n:Int).tmod 10))]++out,⟨?_,?_⟩,by omega,rfl,?_,?_⟩
  ·rw[ByteArray.size_append,h2];omega
  ·rw[←hd];exact(Kr (by omega) out).symm
  ·simp
   exact i64_in (by omega) (by omega)
  ·simp[hg]
 ·have:n=0:=by omega
  subst this
  rw[It] at hd
  subst hd
  have h2:({ data:= #[109] } :ByteArray).size=1:=rfl
  simp only[h2]
  refine⟨by omega,?_⟩
  exact aR (by simp[V1,h]) rfl rfl
def mkJ (k n:Nat):List J:=(List.range n).map fun i=>⟨V1 (k+4*i),(k+4*i+1:Nat),(k+4*i+2:Nat),((k+4*i+3:Nat):Int).tmod 3==0⟩
@[simp] theorem aB9 (k n : Nat) : (mkJ k n).length = n := by simp [mkJ]
@[simp] theorem aNA (k n i : Nat) (h : i < (mkJ k n).length) : (mkJ k n)[i] = ⟨V1 (k + 4 * i), (k + 4 * i + 1 : Nat), (k + 4 * i + 2 : Nat), ((k + 4 * i + 3 : Nat) : Int).tmod 3 == 0⟩ := by simp [mkJ]
def mkM (k n:Nat):List Mb:=(List.range n).map fun i=>⟨(k+3*i:Nat),(k+3*i+1:Nat),(k+3*i+2:Nat)⟩
@[simp] theorem aBC (k n : Nat) : (mkM k n).length = n := by simp [mkM]
@[simp] theorem aOQ (k n i : Nat) (h : i < (mkM k n).length) : (mkM k n)[i] = ⟨(k + 3 * i : Nat), (k + 3 * i + 1 : Nat), (k + 3 * i + 2 : Nat)⟩ := by simp [mkM]
theorem Br {α β:Type} [DecidableEq α] (f:α→β) (a:α) (b:β) (h:f a=b):upd f a b=f:=by
 funext x
 simp only[aA]
 split
 ·rename_i hx;subst hx;exact h.symm
 ·rfl
theorem G0 {bl:Int→Option Blk} {K:V→(Int→Option Blk)→Prop} (xs:List J) (k:Nat) (v:V) (gs:List Int) (h:OwnD bl (fl 4 (jv xs)) v gs) (hk:k+4*xs.length≤4611686018427387000)
  (hK: ∀bl',OwnD bl' (fl 4 (jv (mkJ k xs.length))) v gs→(∀g,g∉gs→bl' g=bl g)→K (.int .i64 (k+4*xs.length:Nat)) bl'):bW Tryz.prog 131 [v,.int .i64 k] bl K:=by
 refine bO Tryz.func131 rfl rfl (by rw[Tryz.ntmps131];simp) ?_
 rw[Tryz.ntmps131,Tryz.results131]
 refine aC ?_
 rcases Q8.1 h with ⟨rfl,rfl,rfl⟩| ⟨g,rfl,rfl,hb,hg0⟩
 ·simp
  refine aJ (fun _:Unit=> [(0,.nils),(1,.int .i64 k),(5,.int .i64 0)]) (fun _=>bl) (fun _=>True) (fun _=>0) _ () trivial ⟨rfl,by simp,Sub.refl _⟩ ?_
  intro _ _
  refine aC ?_
  simp
  rw[bH]
  refine⟨[.int .i64 k],by simp,?_⟩
  have:=hK bl (Q8.2 (.inl ⟨rfl,rfl,rfl⟩)) (fun _ _=>rfl)
  simpa using this
 ·simp
  refine aJ (fun i:Nat=> [(0,.lsl g 4 0 xs.length),(1,.int .i64 (k+4*i:Nat)),(5,.int .i64 i)]) (fun i=>upd bl g (some ⟨4,nH (jv (mkJ k xs.length)) (jv xs) i⟩)) (fun i=>i≤xs.length) (fun i=>xs.length - i) _ 0 (Nat.zero_le _) ⟨rfl,by simp,sub_eq ?_⟩ ?_
  ·exact(Br _ _ _ (by simpa using hb)).symm
  intro i hi
  refine aC ?_
  simp
  refine⟨fun h1=> ?_,fun h1=> ?_⟩
  ·have h2:i<(jv xs).length:=by simpa using h1
   have hge:0≤g:=by
    rcases Int.lt_or_le g 0 with hlt | hge
    ·have:=hg0 hlt;subst this;simp at h1
    ·exact hge
   have hgi:=tQ (jv (mkJ k xs.length)) (jv xs) i (by simp) h2
   have hgE:=L9 (jv (mkJ k xs.length)) (jv xs) i (by simp) h2
   have hol:i<(nH (jv (mkJ k xs.length)) (jv xs) i).length:=by rw[kE _ _ _ (by simp)];exact h2
   have hm:=Y3 (k+4*i) (by omega)
   simp at hm
   simp[h1]
   refine aD hm ?_
   simp (disch:=omega) [h1,hgi,i64_in,J.c,hol,List.getElem?_set_self,List.set_set]
   simp only[aB]
   refine⟨i+1,by omega,by omega,rfl,by simp;omega,sub_eq ?_⟩
   simp only[jI]
   rw[D3 _ _ _ (by simp) (by simpa using h1) _ (by simp[hgE,J.c,Int.add_assoc])]
  ·have hi':i=xs.length:=by omega
   subst hi'
   rw[bH]
   refine⟨[.int .i64 (k+4*xs.length:Nat)],by simp,?_⟩
   refine hK _ (Q8.2 (.inr ⟨g,by simp,rfl,?_,fun h=>by have:=hg0 h;subst this;rfl⟩)) (fun g' hg'=> ?_)
   ·simp;rw[yV _ _ _ (by simp) (by simp)]
   ·simp at hg';simp[hg']
theorem qC {bl:Int→Option Blk} {K:V→(Int→Option Blk)→Prop} (xs:List Mb) (k:Nat) (v:V) (gs:List Int) (h:OwnD bl (fl 3 (mv xs)) v gs) (hk:k+3*xs.length≤4611686018427387000)
  (hK: ∀bl',OwnD bl' (fl 3 (mv (mkM k xs.length))) v gs→(∀g,g∉gs→bl' g=bl g)→K (.int .i64 (k+3*xs.length:Nat)) bl'):bW Tryz.prog 132 [v,.int .i64 k] bl K:=by
 refine bO Tryz.func132 rfl rfl (by rw[Tryz.ntmps132];simp) ?_
 rw[Tryz.ntmps132,Tryz.results132]
 refine aC ?_
 rcases R0.1 h with ⟨rfl,rfl,rfl⟩| ⟨g,rfl,rfl,hb,hg0⟩
 ·simp
  refine aJ (fun _:Unit=> [(0,.nils),(1,.int .i64 k),(5,.int .i64 0)]) (fun _=>bl) (fun _=>True) (fun _=>0) _ () trivial ⟨rfl,by simp,Sub.refl _⟩ ?_
  intro _ _
  refine aC ?_
  simp
  rw[bH]
  refine⟨[.int .i64 k],by simp,?_⟩
  have:=hK bl (R0.2 (.inl ⟨rfl,rfl,rfl⟩)) (fun _ _=>rfl)
  simpa using this
 ·simp
  refine aJ (fun i:Nat=> [(0,.lsl g 3 0 xs.length),(1,.int .i64 (k+3*i:Nat)),(5,.int .i64 i)]) (fun i=>upd bl g (some ⟨3,nH (mv (mkM k xs.length)) (mv xs) i⟩)) (fun i=>i≤xs.length) (fun i=>xs.length - i) _ 0 (Nat.zero_le _) ⟨rfl,by simp,sub_eq ?_⟩ ?_
  ·exact(Br _ _ _ (by simpa using hb)).symm
  intro i hi
  refine aC ?_
  simp
  refine⟨fun h1=> ?_,fun h1=> ?_⟩
  ·have h2:i<(mv xs).length:=by simpa using h1
   have hge:0≤g:=by
    rcases Int.lt_or_le g 0 with hlt | hge
    ·have:=hg0 hlt;subst this;simp at h1
    ·exact hge
   have hgi:=tQ (mv (mkM k xs.length)) (mv xs) i (by simp) h2
   have hgE:=L9 (mv (mkM k xs.length)) (mv xs) i (by simp) h2
   have hol:i<(nH (mv (mkM k xs.length)) (mv xs) i).length:=by rw[kE _ _ _ (by simp)];exact h2
   simp (disch:=omega) [h1,hgi,i64_in,Mb.c,hol,List.getElem?_set_self,List.set_set]
   simp only[aB]
   refine⟨i+1,by omega,by omega,rfl,by simp;omega,sub_eq ?_⟩
   simp only[jI]
   rw[D3 _ _ _ (by simp) (by simpa using h1) _ (by simp[hgE,Mb.c,Int.add_assoc])]
  ·have hi':i=xs.length:=by omega
   subst hi'
   rw[bH]
   refine⟨[.int .i64 (k+3*xs.length:Nat)],by simp,?_⟩
   refine hK _ (R0.2 (.inr ⟨g,by simp,rfl,?_,fun h=>by have:=hg0 h;subst this;rfl⟩)) (fun g' hg'=> ?_)
   ·simp;rw[yV _ _ _ (by simp) (by simp)]
   ·simp at hg';simp[hg']
def mkS (k:Nat) (s:Str):Str:=⟨mkJ k s.js.length,mkM (k+4*s.js.length) s.ms.length⟩
def mkN (k:Nat) (s:Str):Nat:=k+4*s.js.length+3*s.ms.length
theorem vH {bl:Int→Option Blk} {K:V→(Int→Option Blk)→Prop} (s:Str) (k:Nat) (vs:List V) (gs:List Int) (h:OwnL bl (G2 s) vs gs) (hk:mkN k s≤4611686018427387000)
  (hK: ∀bl',OwnL bl' (G2 (mkS k s)) vs gs→(∀g,g∉gs→ ∀b,bl g=some b→bl' g=some b)→K (.int .i64 (mkN k s:Nat)) bl'):bW Tryz.prog 56 [.agg vs,.int .i64 k] bl K:=by
 obtain⟨v,w,g1,g2,rfl,rfl,hd,o1,o2⟩:=gJ.1 h
 obtain⟨c1,c2⟩:=o1.one
 obtain⟨d1,d2⟩:=o2.one
 unfold mkN at hk
 refine bO Tryz.func56 rfl rfl (by rw[Tryz.ntmps56];simp) ?_
 rw[Tryz.ntmps56,Tryz.results56]
 refine aC ?_
 simp[c1,d1]
 intro g hg0 hg
 have f1: ∀x,x∈g1→x≠g:=fun x hx h=>by obtain⟨b,hb⟩:=o1.has x hx;rw[h,hg] at hb;cases hb
 have f2: ∀x,x∈g2→x≠g:=fun x hx h=>by obtain⟨b,hb⟩:=o2.has x hx;rw[h,hg] at hb;cases hb
 refine G0 s.js k v g1 (o1.frame fun x hx=>by simp[f1 x hx]) (by omega) fun b1 p1 q1=> ?_
 have n1:b1 g=some ⟨2,[[v,w]]⟩:=by rw[q1 g (fun h=>f1 g h rfl)];simp
 have p2:OwnD b1 (fl 3 (mv s.ms)) w g2:=o2.frame fun x hx=>by rw[q1 x (fun h=>hd x h hx)];simp[f2 x hx]
 simp[n1]
 have:=qC (bl:=b1) (K:=K) s.ms (k+4*s.js.length) w g2 p2 (by omega)
 refine qC s.ms (k+4*s.js.length) w g2 p2 (by omega) fun b2 p3 q3=> ?_
 simp
 rw[bH]
 refine⟨[_],by simp;rfl,?_⟩
 have:=hK b2 (gJ.2 ⟨v,w,g1,g2,rfl,rfl,hd,p1.frame fun x hx=>q3 x (hd x hx),p3⟩) (fun x hx b hb=> ?_)
 ·simpa [mkN] using this
 ·simp at hx
  rw[q3 x hx.2,q1 x hx.1]
  simp only[aA]
  rw[if_neg (fun e=>by subst e;rw[hg] at hb;cases hb)];exact hb

end Go.Proofs.YticmgmemnpcbbaaGreat.Vm

namespace Go.Proofs.YticmgmemnpcbbaaGreat.Vm
open Go Go.Proofs
set_option linter.unusedSimpArgs false
set_option linter.unusedVariables false
def aUL (s:Str):List Int:=if sOk s=true then List.replicate (2*s.js.length) 0 else []

def aVY (s:Str):List Int:=if sOk s=true then aP s.js else []
theorem rJ (s:Str) (hj:s.js.length≤1048576):RO Tryz.prog 74 [.ptr s.c] (.sl (iv (aP s.js))):=by
 have:=jE 1 (G6 s hj) (kZ _ _ 0)
 simpa using this
theorem Ds (s:Str) (hj:s.js.length≤1048576):NW Tryz.prog 93 [.agg s.c] (fl 1 (iv (aP s.js))):=by
 refine iX Tryz.func93 rfl rfl (by rw[Tryz.ntmps93];simp) fun bl=> ?_
 rw[Tryz.ntmps93,Tryz.results93]
 refine aC ?_
 simp[Str.c]
 intro gs aBL hgs g00 tY aKR aSL
 simp[aKR,Ne.symm aKR]
 refine aJ (fun p:Nat×Int=> [(3,.lsl p.2 1 0 (cA s.js p.1).length),(8,.sl (jv s.js)),(9,.int .i64 s.js.length),(10,.int .i64 p.1)]) (fun p=>upd bl p.2 (some ⟨1,iv (cA s.js p.1)⟩)) (fun p=>p.1≤s.js.length∧bl p.2=none∧(p.2<0→cA s.js p.1= [])) (fun p=>s.js.length - p.1) _ (0,g00) ⟨Nat.zero_le _,aSL,fun _=>rfl⟩ (by refine⟨rfl,by simp[cA],?_⟩;exact dK (by simp[cA,iv]) (by simp[hgs])) ?_
 rintro⟨i,g⟩ ⟨hi,hg,h0⟩
 simp only at hi hg h0
 have hl:=iQ s.js i
 refine aC ?_
 simp
 refine⟨fun h=> ?_,fun h=> ?_⟩
 ·simp[h,J.c]
  intro g1 hg1 h1g hb1
  refine⟨fun hf=> ?_,fun hf=> ?_⟩
  ·intro g2 hg2 h21 h2g hb2
   simp[h1g,h21,h2g,Ne.symm h1g,Ne.symm h21,Ne.symm h2g,appV,elsV,Int.not_lt.2 hg2]
   refine⟨by omega,fun g3 hg3 hb3=> ?_⟩
   have gG:bl g3=none:=by grind
   simp (disch:=omega) [i64_in,aB]
   have hjf:(s.js.getD i default).fixed=false:=by simpa [h] using hf
   have hs1:cA s.js (i+1)=cA s.js i++ [(i:Int)]:=by rw[kP,hjf];rfl
   refine⟨i+1,g3,⟨by omega,gG,by omega⟩,by omega,rfl,by simp[hs1],?_⟩
   rw[hs1,aV]
   exact dK (by rw[dN];rfl) (by simp[hg,hb1,hb2,h1g,h21,h2g])
  ·simp (disch:=omega) [i64_in,aB]
   have hjf:(s.js.getD i default).fixed=true:=by simpa [h] using hf
   have hs1:cA s.js (i+1)=cA s.js i:=by rw[kP,hjf];simp
   refine⟨i+1,g,⟨by omega,hg,by rw[hs1];exact h0⟩,by omega,rfl,by simp[hs1],?_⟩
   rw[hs1]
   simp[hb1,h1g]
 ·have hi:i=s.js.length:=by omega
  subst hi
  refine gH [.lsl g 1 0 (cA s.js s.js.length).length] [g] (by simp) ?_ (by simpa using hg) (by simp[hg])
  refine dE.2 (.inr ⟨g,rfl,rfl,by simp[aP],h0⟩)
theorem sK (s:Str) (hj:s.js.length≤1048576):RO Tryz.prog 93 [.agg s.c] (.sl (iv (aP s.js))):=by
 have:=jE 1 (Ds s hj) (kZ _ _ 0)
 simpa using this
def aVI (s:Str):Int:=if sOk s=true then s.ms.length - 2*(aP s.js).length else 0
end Go.Proofs.YticmgmemnpcbbaaGreat.Vm

namespace Go.Proofs.YticmgmemnpcbbaaGreat.Vm
open Go Go.RowKit
set_option linter.unusedSimpArgs false
set_option linter.unusedVariables false
def HStep (P:Program) (ops:Array Oper) (blK:Int→Option Blk) (i:Nat) (K:St→Prop) (σ:St):Prop:=match ops[i]? with
 | some o => ∃ v, DY P ops blK o σ v ∧ K (σ.put o.dst v)
 | none => False
end Go.Proofs.YticmgmemnpcbbaaGreat.Vm

namespace Go.Proofs.YticmgmemnpcbbaaGreat.Vm
open Go Go.Proofs
set_option linter.unusedSimpArgs false
set_option linter.unusedVariables false
def lN (l:List Int) (k:Nat):Int:=l.getD k 0
def fX (s:Str) (l:List Int) (q:List (Option Rat)) (i:Nat):Option Rat:=op2 (· + ·) (pX s q i) (some (lN l (2*i):Rat))
def fY (s:Str) (l:List Int) (q:List (Option Rat)) (i:Nat):Option Rat:=op2 (· + ·) (pY s q i) (some (lN l (2*i+1):Rat))
def isZ (x:Option Rat):Bool:=x.isSome && decide (sgq x=0)
def aSO (s:Str) (l:List Int) (q:List (Option Rat)) (i:Nat):Bool:=isZ (fX s l q i)&& isZ (fY s l q i)
def aVR (s:Str) (l:List Int) (q:List RT):Bool:=(Gc s q && lX s.js l)&& (aP s.js).all fun j=>aSO s l (jM q) j.toNat
def aWM (s:Str) (l:List Int) (q:List RT) (i:Nat):List RT:=if yF [pX s (jM q) i,pY s (jM q) i]=true then [ro (fX s l (jM q) i),ro (fY s l (jM q) i)] else []
def aV7 (s:Str) (l:List Int) (q:List RT) (i:Nat):Bool:=yF [fX s l (jM q) i,fY s l (jM q) i]

theorem aAA (x:Option Rat):RO Tryz.prog 103 [fv x] (fv (x.map (- ·))):=by
 cases x with
 | none =>
   refine aI Tryz.func103 rfl rfl (by rw[Tryz.ntmps103];simp) fun bl=> ?_
   rw[Tryz.ntmps103,Tryz.results103]
   refine aC ?_
   simp[fv]
   exact aR (by simp) rfl rfl
 | some q =>
   have hop:=mE q.num
   rw[bV,bV,Int.natAbs_neg] at hop
   refine aI Tryz.func103 rfl rfl (by rw[Tryz.ntmps103];simp) fun bl=> ?_
   rw[Tryz.ntmps103,Tryz.results103]
   refine aC ?_
   rw[show fv (some q)= .ptr (rq q).c from rfl,gV,show fv ((some q).map (- ·))= .ptr [.bool (decide (-q.num<0)),.sl (iv (lim q.num.natAbs)),.sl (iv (lim q.den))] by
    show V.ptr (rq (-q)).c=_
    rw[gV]
    show V.ptr [.bool (decide (-q.num<0)),.sl (iv (lim (-q.num).natAbs)),.sl (iv (lim q.den))]=_
    rw[Int.natAbs_neg]]
   simp
   refine aW aM bl (Sub.refl _) [0,1,2,3,4,5,6,7,8] 3 (by kernel_rfl) ?_
   simp
   refine aO hop ?_
   simp
   refine Dz 9 ?_
   simp
   refine Dz 10 ?_
   simp
   intro g hg0 hg
   refine⟨by simp[hg],Dz 11 ?_⟩
   simp
   refine⟨by simp[hg],Dy ?_⟩
   simp
   refine aK [.loc g 3 0 0] 1 (by simp) ?_ (by simp[hg])
   show frz _ 1 (.loc g 3 0 0)=_
   rw[qH (e:= [.bool (decide (0<q.num)),.sl (iv (lim q.num.natAbs)),.sl (iv (lim q.den))]) (by simp[dropB,hg])]
   rfl
def aTR (s:Str) (l:List Int) (q:List RT) (j:Int):Bool:=(Gc s q && lX s.js l)&& ((decide (0≤j)&& decide (j<s.js.length))&& (s.js.getD j.toNat default).fixed)
def aV8 (s:Str) (l:List Int) (q:List RT) (j:Int):List (Option Rat):=if aTR s l q j=true then [(fX s l (jM q) j.toNat).map (- ·),(fY s l (jM q) j.toNat).map (- ·)] else [none]

def idx (js:List J) (i:Nat):Nat:=(cA js i).length
def fxd (js:List J) (i:Nat):Bool:=(js.getD i default).fixed
def dAt (js:List J) (d:List (Option Rat)) (t p:Nat):Option Rat:=if fxd js (p / 2)=true then some 0 else if idx js (p / 2)<t then d.getD (2*idx js (p / 2)+p % 2) none else some 0
def dsp (js:List J) (d:List (Option Rat)) (t:Nat):List (Option Rat):=(List.range (2*js.length)).map (dAt js d t)
def aX8 (js:List J) (d:List (Option Rat)):List (Option Rat):=dsp js d (aP js).length
def dX (js:List J) (d:List (Option Rat)) (i:Nat):Option Rat:=if fxd js i=true then some 0 else d.getD (2*idx js i) none
def dY (js:List J) (d:List (Option Rat)) (i:Nat):Option Rat:=if fxd js i=true then some 0 else d.getD (2*idx js i+1) none
def Wt (s:Str) (d:List RT):Bool:=(sOk s && decide (d.length=2*(aP s.js).length))&& At d

def aXO (s:Str) (k:Int):Int:=IntKind.i64.wrap (IntKind.i64.wrap (aIZ s k*aIZ s k)+IntKind.i64.wrap (aK1 s k*aK1 s k))

def lat (l:List Int) (i:Nat):Int:=l.getD i 0
theorem wW {l:List Int} {i:Nat} (h:i<l.length):(iv l)[i]? =some [.int .i64 (lat l i)]:=by simp[lat,h]
structure LOk (s : Str) (l : List Int) : Prop where
 sok:SOk s
 n:l.length=2*s.js.length
 f: ∀i,i<l.length→ -100≤lat l i∧lat l i≤100
theorem Ow {js:List J} {l:List Int} (h:lX js l=true):l.length=2*js.length∧ ∀i,i<l.length→ -100≤lat l i∧lat l i≤100:=by
 unfold lX at h
 simp only[Bool.and_eq_true,decide_eq_true_eq] at h
 refine⟨h.1,fun i hi=> ?_⟩
 have:=List.all_eq_true.1 h.2 l[i] (List.getElem_mem hi)
 simp[fF] at this
 simpa [lat,hi] using this
theorem Ft {s:Str} {l:List Int} (h:lOk s l=true):LOk s l:=by
 unfold lOk at h
 simp only[Bool.and_eq_true] at h
 obtain⟨h1,h2⟩:=Ow h.2
 exact⟨aBT h.1,h1,h2⟩
def sumX (l:List Int):Nat→Int
 | 0 => 0
 | n + 1 => sumX l n + lat l (2 * n)
def aJZ (l:List Int):Nat→Int
 | 0 => 0
 | n + 1 => aJZ l n + lat l (2 * n + 1)
def aXH (s:Str) (l:List Int):Int:=if lOk s l=true then sumX l s.js.length else 0
def aWS (s:Str) (l:List Int):Int:=if lOk s l=true then aJZ l s.js.length else 0
def Wn (s:Str) (l:List Int) (x y:Int):Nat→Int
 | 0 => 0
 | n + 1 => Wn s l x y n + ((jat s.js n).x - x) * lat l (2 * n + 1) - ((jat s.js n).y - y) * lat l (2 * n)
def aKB (s:Str) (l:List Int) (x y:Int):Bool:=lOk s l && (decide (-1000≤x)&& decide (x≤1000))&& (decide (-1000≤y)&& decide (y≤1000))
def aVJ (s:Str) (l:List Int) (x y:Int):Int:=if aKB s l x y=true then Wn s l x y s.js.length else 0
end Go.Proofs.YticmgmemnpcbbaaGreat.Vm
