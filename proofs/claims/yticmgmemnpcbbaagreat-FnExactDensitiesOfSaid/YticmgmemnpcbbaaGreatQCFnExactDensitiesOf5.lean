import Derived.Test.YticmgmemnpcbbaaGreatQCFnExactDensitiesOf4

namespace Go.Proofs.YticmgmemnpcbbaaGreat.Vm
open Go Go.Proofs
set_option linter.unusedSimpArgs false
set_option linter.unusedVariables false
theorem lE (a b:Nat) (ha:(lim a).length≤1048576) (hb:(lim b).length≤1048576):RO Tryz.prog 288 [.sl (iv (lim a)),.sl (iv (lim b))] (.int .i64 (iX a b)):=by
 refine aH Tryz.func288 rfl rfl (by rw[Tryz.ntmps288];simp) fun bl=> ?_
 rw[Tryz.ntmps288,Tryz.results288]
 refine aB ?_
 simp
 refine⟨fun h=>⟨fun h1=> ?_,fun h1=> ?_⟩,fun h=> ?_⟩
 ·exact aP (by simp[zE h1]) rfl rfl
 ·exact aP (by simp[zM (show(lim b).length<(lim a).length by omega)]) rfl rfl
 have h:(lim a).length=(lim b).length:=by omega
 have w0:IntKind.i64.wrap (((lim a).length:Int) - 1)=((lim a).length:Int) - 1:=i64_in (by omega) (by omega)
 simp[w0]
 refine aG (fun k:Nat=> [(0,.sl (iv (lim a))),(1,.sl (iv (lim b))),(5,.int .i64 ((k:Int) - 1))]) (fun _=>bl) (fun k=>k≤(lim a).length∧ ∀j,k≤j→dg a j=dg b j) (fun k=>k) _ (lim a).length ⟨Nat.le_refl _,fun j hj=>by rw[kA hj,kA (by omega)]⟩ ⟨rfl,by simp,Sub.refl _⟩ ?_
 intro k ⟨hk,hc⟩
 refine aB ?_
 simp
 refine⟨fun h1=> ?_,fun h1=> ?_⟩
 ·obtain⟨m,rfl⟩: ∃m,k=m+1:=⟨k - 1,by omega⟩
  have hm:m<(lim a).length:=by omega
  have hm2:m<(lim b).length:=by omega
  have e1:((m+1:Nat):Int) - 1=m:=by omega
  refine bU aM (by kernel_rfl) ?_
  simp[e1,aY _ _ hm,aY _ _ hm2]
  refine⟨fun h2=> ?_,fun h2=> ?_⟩
  ·exact aP (by simp[Pm h hm (fun j hj=>hc j (by omega)) h2]) rfl rfl
  refine bU aM (by kernel_rfl) ?_
  simp[e1,aY _ _ hm,aY _ _ hm2]
  refine⟨fun h3=> ?_,fun h3=> ?_⟩
  ·exact aP (by simp[Sn h hm (fun j hj=>hc j (by omega)) h3]) rfl rfl
  have w1:IntKind.i64.wrap ((m:Int) - 1)=(m:Int) - 1:=i64_in (by omega) (by omega)
  simp[w1,aA]
  refine⟨m,⟨by omega,fun j hj=> ?_⟩,by omega,rfl,by simp,Sub.refl _⟩
  rcases Nat.lt_or_ge m j with hlt | hge
  ·exact hc j (by omega)
  ·obtain rfl:j=m:=by omega
   omega
 ·have:k=0:=by omega
  subst this
  exact aP (by simp[Sq h fun j=>hc j (Nat.zero_le _)]) rfl rfl
theorem gJ (ns:List Int) (hd:Dig ns) (hn:ns.length≤1048576):RO Tryz.prog 290 [.sl (iv ns)] (.sl (iv (lim (val ns)))):=by
 refine aH Tryz.func290 rfl rfl (by rw[Tryz.ntmps290];simp) fun bl=> ?_
 rw[Tryz.ntmps290,Tryz.results290]
 refine aB ?_
 simp
 refine aG (fun n:Nat=> [(0,.sl (iv ns)),(3,.int .i64 n)]) (fun _=>bl) (fun n=>n≤ns.length∧ ∀i (hi:i<ns.length),n≤i→ns[i]=0) (fun n=>n) _ ns.length ⟨Nat.le_refl _,fun i hi h=>by omega⟩ ⟨rfl,by simp,Sub.refl _⟩ ?_
 intro n ⟨hl,hz⟩
 refine aB ?_
 simp
 refine bD [(0,.sl (iv ns)),(3,.int .i64 n)] _ bl 15 (.bool (decide (0<n)&& decide (ns.getD (n - 1) 1=0))) ⟨rfl,by simp,Sub.refl _⟩ rfl ?_ ?_
 ·simp
  refine⟨fun h=> ?_,fun h=>by simp[h]⟩
  have w1:IntKind.i64.wrap ((n:Int) - 1)=((n - 1:Nat):Int):=by rw[i64_in (by omega) (by omega)];omega
  have h2:n - 1<ns.length:=by omega
  simp[w1,h2,h,uZ]
 simp
 refine⟨fun h1 h2=> ?_,fun h1=> ?_⟩
 ·have w1:IntKind.i64.wrap ((n:Int) - 1)=((n - 1:Nat):Int):=by rw[i64_in (by omega) (by omega)];omega
  simp[w1,aA]
  refine⟨n - 1,⟨by omega,fun i hi h3=> ?_⟩,by omega,rfl,by simp,Sub.refl _⟩
  rcases Nat.lt_or_ge i n with h4 | h4
  ·obtain rfl:i=n - 1:=by omega
   simpa [hi] using h2
  ·exact hz i hi h4
 ·have hz2: ∀i (hi:i<ns.length),n=i+1→ns[i]≠0:=by
   intro i hi e
   subst e
   have:=h1 (by omega)
   simpa [hi] using this
  have:=zL hd hl hz hz2
  rw[←this]
  simp[sliV,Gp,hl]
  exact aP (by simp[yU]) rfl rfl
theorem Kx (ns:List Int) (hd:Dig ns) (hn:ns.length≤1048576):RO Tryz.prog 280 [.sl (iv ns)] (.sl (iv (if(lim (val ns)).length≤60 then lim (val ns) else []))):=by
 refine aH Tryz.func280 rfl rfl (by rw[Tryz.ntmps280];simp) fun bl=> ?_
 rw[Tryz.ntmps280,Tryz.results280]
 refine aB ?_
 simp
 refine aD (gJ ns hd hn) ?_
 simp
 refine⟨fun h=> ?_,fun h=> ?_⟩
 ·rw[if_neg (by omega)]
  exact aJ [.nils] 0 (by simp) rfl (Sub.refl _)
 ·rw[if_pos (by omega)]
  exact aP (by simp) rfl rfl
theorem Kq (a b:Nat) (ha:(lim a).length≤1000000) (hb:(lim b).length≤1000000):RO Tryz.prog 287 [.sl (iv (lim a)),.sl (iv (lim b))] (.sl (iv (lim (a+b)))):=by
 refine aH Tryz.func287 rfl rfl (by rw[Tryz.ntmps287];simp) fun bl=> ?_
 rw[Tryz.ntmps287,Tryz.results287]
 refine aB ?_
 simp
 intro g0 hg0 hb0
 refine aG (fun p:Int×PL=> [(0,.sl (iv (lim a))),(1,.sl (iv (lim b))),(5,.lsl p.1 1 0 p.2.i),(6,.int .i64 p.2.c),(7,.int .i64 p.2.i)]) (fun p=>upd bl p.1 (some ⟨1,iv p.2.o⟩))
  (fun p=>0≤p.1∧bl p.1=none∧kH a b p.2.i p.2.o p.2.c∧p.2.i≤1000002∧(p.2.i=0∨LB^(p.2.i - 1)≤a+b)) (fun p=>1000003 - p.2.i) _ (g0,⟨0,[],0⟩) ⟨hg0,hb0,kH.start a b,by simp,.inl rfl⟩ ⟨rfl,by simp,sub_eq (by simp[iv])⟩ ?_
 rintro⟨g,i,o,c⟩ ⟨hg,hbg,hI,hi,hm⟩
 simp only at hg hbg hI hi hm
 have hb1:=hI.x
 have hd1:=eN a i
 have hd2:=eN b i
 have hc0:=hI.c0
 have hc1:=hI.c1
 have hol:=hI.len
 refine aB ?_
 simp
 refine bD [(0,.sl (iv (lim a))),(1,.sl (iv (lim b))),(5,.lsl g 1 0 i),(6,.int .i64 c),(7,.int .i64 i)] _ _ 23 (.bool ((decide (i<(lim a).length)|| decide (i<(lim b).length))|| decide (0<c))) ⟨rfl,by simp,Sub.refl _⟩ rfl ?_ ?_
 ·simp
  exact⟨fun h=> .inl (.inl h),fun h=>⟨fun h2=> .inl (.inr h2),fun h2 h3=>by omega⟩⟩
 simp
 refine⟨fun h=> ?_,fun h1 h2 h3=> ?_⟩
 ·have He:=hI.more (by omega)
  have hlen:i<(lim (a+b)).length:=by
   rcases Nat.lt_or_ge i (lim (a+b)).length with hh | hh
   ·exact hh
   ·have:=aL.1 hh;omega
  have aXA:=tI (k:=1000000) ha hb
  have w3:IntKind.i64.wrap ((i:Int)+1)=i+1:=i64_in (by omega) (by omega)
  refine⟨fun h1=> ?_,fun h1=> ?_⟩
  ·simp[aY _ _ h1]
   have wa0:IntKind.i64.wrap (c+(dg a i:Nat))=c+(dg a i:Nat):=i64_in (by omega) (by omega)
   simp[wa0]
   refine⟨fun h2=> ?_,fun h2=> ?_⟩
   ·have wa:IntKind.i64.wrap (c+(dg a i:Nat))=c+(dg a i:Nat):=i64_in (by omega) (by omega)
    have wb:IntKind.i64.wrap (c+(dg a i:Nat)+(dg b i:Nat))=c+(dg a i:Nat)+(dg b i:Nat):=i64_in (by omega) (by omega)
    have wq1:=wq (x:=c+(dg a i:Nat)+(dg b i:Nat)) (n:=1000000000) (by omega) (by omega) (by omega)
    try simp[wq1,w3,wa,wb,aY _ _ h1,aY _ _ h2]
    intro g2 hg2 h2g hb2
    try simp[wq1,w3,wa,wb,aY _ _ h1,aY _ _ h2,h2g,Ne.symm h2g,appV,elsV,Int.not_lt.2 hg2,hol]
    refine⟨by omega,fun g3 hg3 hb3=> ?_⟩
    have fV:bl g3=none:=by grind
    try simp[wq1,w3,wa,wb,aY _ _ h1,aY _ _ h2]
    rw[aA]
    refine⟨(g3,⟨i+1,o++ [(c+(dg a i:Nat)+(dg b i:Nat)).tmod 1000000000],(c+(dg a i:Nat)+(dg b i:Nat)).tdiv 1000000000⟩),⟨hg3,fV,hI.next (by omega),by simp only;omega,.inr (by simpa using He)⟩,by simp only;omega,rfl,by simp,?_⟩
    rw[aV]
    exact dA (by rw[←hol,dF];simp[iv]) (by simp[hbg,hb2,h2g])
   ·have wa:IntKind.i64.wrap (c+(dg a i:Nat))=c+(dg a i:Nat):=i64_in (by omega) (by omega)
    have zb:dg b i=0:=kA (by omega)
    have wq1:=wq (x:=c+(dg a i:Nat)) (n:=1000000000) (by omega) (by omega) (by omega)
    try simp[wq1,w3,wa,aY _ _ h1]
    intro g2 hg2 h2g hb2
    try simp[wq1,w3,wa,aY _ _ h1,h2g,Ne.symm h2g,appV,elsV,Int.not_lt.2 hg2,hol]
    refine⟨by omega,fun g3 hg3 hb3=> ?_⟩
    have fV:bl g3=none:=by grind
    try simp[wq1,w3,wa,aY _ _ h1]
    rw[aA]
    refine⟨(g3,⟨i+1,o++ [(c+(dg a i:Nat)).tmod 1000000000],(c+(dg a i:Nat)).tdiv 1000000000⟩),⟨hg3,fV,hI.next (by omega),by simp only;omega,.inr (by simpa using He)⟩,by simp only;omega,rfl,by simp,?_⟩
    rw[aV]
    exact dA (by rw[←hol,dF];simp[iv]) (by simp[hbg,hb2,h2g])
  ·refine⟨fun h2=> ?_,fun h2=> ?_⟩
   ·have wb:IntKind.i64.wrap (c+(dg b i:Nat))=c+(dg b i:Nat):=i64_in (by omega) (by omega)
    have za:dg a i=0:=kA (by omega)
    have wq1:=wq (x:=c+(dg b i:Nat)) (n:=1000000000) (by omega) (by omega) (by omega)
    try simp[wq1,w3,wb,aY _ _ h2]
    intro g2 hg2 h2g hb2
    try simp[wq1,w3,wb,aY _ _ h2,h2g,Ne.symm h2g,appV,elsV,Int.not_lt.2 hg2,hol]
    refine⟨by omega,fun g3 hg3 hb3=> ?_⟩
    have fV:bl g3=none:=by grind
    try simp[wq1,w3,wb,aY _ _ h2]
    rw[aA]
    refine⟨(g3,⟨i+1,o++ [(c+(dg b i:Nat)).tmod 1000000000],(c+(dg b i:Nat)).tdiv 1000000000⟩),⟨hg3,fV,hI.next (by omega),by simp only;omega,.inr (by simpa using He)⟩,by simp only;omega,rfl,by simp,?_⟩
    rw[aV]
    exact dA (by rw[←hol,dF];simp[iv]) (by simp[hbg,hb2,h2g])
   ·have za:dg a i=0:=kA (by omega)
    have zb:dg b i=0:=kA (by omega)
    have wq1:=wq (x:=c) (n:=1000000000) (by omega) (by omega) (by omega)
    try simp[wq1,w3]
    intro g2 hg2 h2g hb2
    try simp[wq1,w3,h2g,Ne.symm h2g,appV,elsV,Int.not_lt.2 hg2,hol]
    refine⟨by omega,fun g3 hg3 hb3=> ?_⟩
    have fV:bl g3=none:=by grind
    try simp[wq1,w3]
    rw[aA]
    refine⟨(g3,⟨i+1,o++ [(c).tmod 1000000000],(c).tdiv 1000000000⟩),⟨hg3,fV,hI.next (by omega),by simp only;omega,.inr (by simpa using He)⟩,by simp only;omega,rfl,by simp,?_⟩
    rw[aV]
    exact dA (by rw[←hol,dF];simp[iv]) (by simp[hbg,hb2,h2g])
 ·have hc:c=0:=by omega
  subst hc
  rw[←hI.spec (by omega) (by omega) hm]
  exact aJ [.lsl g 1 0 i] 1 (by simp) (cY hg hbg (by simp) (by simp[hol]) (nK o)) (by simp[hbg])

theorem fH (a b:Nat) (ha:(lim a).length≤400000) (hb:(lim b).length≤400000):RO Tryz.prog 266 [.sl (iv (lim a)),.sl (iv (lim b))] (.sl (iv (lim (a*b)))):=by
 by_cases h0:a=0∨b=0
 ·have hz:a*b=0:=Nat.mul_eq_zero.2 h0
  rw[hz,aU]
  refine aH Tryz.func266 rfl rfl (by rw[Tryz.ntmps266];simp) fun bl=> ?_
  rw[Tryz.ntmps266,Tryz.results266]
  refine aB ?_
  simp
  refine bD [(0,.sl (iv (lim a))),(1,.sl (iv (lim b)))] _ bl 19 (.bool true) ⟨rfl,by simp,Sub.refl _⟩ rfl ?_ ?_
  ·simp
   rcases h0 with h0 | h0
   ·simp[h0,aU]
   ·simp[h0,aU]
  simp
  exact aJ [.nils] 0 (by simp) rfl (Sub.refl _)
 have ha0:a≠0:=by omega
 have hb0:b≠0:=by omega
 have la:(lim a).length≠0:=fun h=>ha0 (eJ.1 (List.length_eq_zero_iff.1 h))
 have lb:(lim b).length≠0:=fun h=>hb0 (eJ.1 (List.length_eq_zero_iff.1 h))
 refine aH Tryz.func266 rfl rfl (by rw[Tryz.ntmps266];simp) fun bl=> ?_
 rw[Tryz.ntmps266,Tryz.results266]
 refine aB ?_
 simp
 refine bD [(0,.sl (iv (lim a))),(1,.sl (iv (lim b)))] _ bl 19 (.bool false) ⟨rfl,by simp,Sub.refl _⟩ rfl ?_ ?_
 ·have na:lim a≠ []:=fun h=>la (by rw[h];rfl)
  have nb:lim b≠ []:=fun h=>lb (by rw[h];rfl)
  simp[na,nb]
 have w0:IntKind.i64.wrap (((lim a).length:Int)+(lim b).length)=(lim a).length+(lim b).length:=i64_in (by omega) (by omega)
 simp[w0]
 refine⟨(lim a).length+(lim b).length,by simp,by simp,by omega,by unfold maxLen;omega,fun g hg0 hg=> ?_⟩
 have er:List.replicate ((lim a).length+(lim b).length) [V.int IntKind.i64 0]=iv (List.replicate ((lim a).length+(lim b).length) 0):=by simp[iv]
 simp[er]
 refine aG (fun p:TL=> [(0,.sl (iv (lim a))),(1,.sl (iv (lim b))),(5,.lsl g 1 0 ((lim a).length+(lim b).length)),(26,.sl (iv (lim a))),(27,.int .i64 (lim a).length),(28,.int .i64 p.i)]) (fun p=>upd bl g (some ⟨1,iv p.O⟩))
  (fun p=>p.i≤(lim a).length∧iE a b p.i 0 p.O 0) (fun p=>(lim a).length - p.i) _ ⟨0,0,_,0⟩ ⟨Nat.zero_le _,iE.start a b⟩ ⟨rfl,by simp,sub_eq (by simp)⟩ ?_
 rintro⟨i,j0,O,c0⟩ ⟨hi,hI⟩
 simp only at hi hI
 refine aB ?_
 simp
 refine⟨fun h1=> ?_,fun h1=> ?_⟩
 ·simp[aY _ _ h1]
  refine aG (fun p:TL=> [(0,.sl (iv (lim a))),(1,.sl (iv (lim b))),(5,.lsl g 1 0 ((lim a).length+(lim b).length)),(6,.int .i64 i),(7,.int .i64 (dg a i:Nat)),(8,.int .i64 p.c),(26,.sl (iv (lim a))),(27,.int .i64 (lim a).length),(28,.int .i64 i),(33,.sl (iv (lim b))),(34,.int .i64 (lim b).length),(35,.int .i64 p.j)]) (fun p=>upd bl g (some ⟨1,iv p.O⟩))
   (fun p=>p.j≤(lim b).length∧iE a b i p.j p.O p.c) (fun p=>(lim b).length - p.j) _ ⟨i,0,O,0⟩ ⟨Nat.zero_le _,hI⟩ ⟨rfl,by simp,sub_eq (by simp)⟩ ?_
  rintro⟨i',j,O,c⟩ ⟨hj,hJ⟩
  simp only at hj hJ
  have hlen:=hJ.len
  refine aB ?_
  simp
  refine⟨fun h2=> ?_,fun h2=> ?_⟩
  ·have hk:i+j<O.length:=by omega
   obtain⟨n1,n2,n3,hN⟩:=hJ.next h1 h2 hk
   have w1:IntKind.i64.wrap ((i:Int)+j)=(i:Int)+j:=i64_in (by omega) (by omega)
   have p1:0≤(i:Int)+j:=by omega
   have p2:(i:Int)+j<(lim a).length+(lim b).length:=by omega
   have p3:((i:Int)+j).toNat=i+j:=by omega
   have w3:IntKind.i64.wrap ((j:Int)+1)=j+1:=i64_in (by omega) (by omega)
   have hm:0≤(dg a i:Int)*dg b j∧(dg a i:Int)*dg b j<1000000000000000000:=by
    have hO:=hJ.dig.at hk
    have e:0≤(dg a i:Int)*dg b j:=by rw[←Int.natCast_mul];omega
    exact⟨e,by omega⟩
   have hO:=hJ.dig.at hk
   have w4:IntKind.i64.wrap ((dg a i:Int)*dg b j)=(dg a i:Int)*dg b j:=i64_in (by omega) (by omega)
   have w5:IntKind.i64.wrap (O[i+j]+(dg a i:Int)*dg b j)=O[i+j]+(dg a i:Int)*dg b j:=i64_in (by omega) (by omega)
   have w6:IntKind.i64.wrap (O[i+j]+(dg a i:Int)*dg b j+c)=O[i+j]+(dg a i:Int)*dg b j+c:=i64_in (by omega) (by omega)
   have w7:=wq (x:=O[i+j]+(dg a i:Int)*dg b j+c) (n:=1000000000) n3 (by omega) (by omega)
   simp[aY _ _ h2,w1,w3,w4,w5,w6,w7,p1,p2,p3,hk]
   rw[aA]
   obtain⟨c',hc'⟩: ∃c':Nat,(O[i+j]+(dg a i:Int)*dg b j+c).tdiv 1000000000=c':=⟨((O[i+j]+(dg a i:Int)*dg b j+c).tdiv 1000000000).toNat,by omega⟩
   refine⟨⟨i,j+1,O.set (i+j) ((O[i+j]+(dg a i:Int)*dg b j+c).tmod 1000000000),c'⟩,⟨by simp only;omega,?_⟩,by simp only;omega,rfl,by simp[hc'],sub_eq ?_⟩
   ·rw[hc'] at hN;exact hN
   ·rw[fA]
  ·have e:j=(lim b).length:=by omega
   have hk:i+(lim b).length<O.length:=by omega
   have hR:=hJ.row h1 (by omega) hj hk
   have w1:IntKind.i64.wrap ((i:Int)+(lim b).length)=(i:Int)+(lim b).length:=i64_in (by omega) (by omega)
   have p1:0≤(i:Int)+(lim b).length:=by omega
   have p2:(i:Int)+(lim b).length<(lim a).length+(lim b).length:=by omega
   have p3:((i:Int)+(lim b).length).toNat=i+(lim b).length:=by omega
   have w3:IntKind.i64.wrap ((i:Int)+1)=i+1:=i64_in (by omega) (by omega)
   simp[w1,w3,p1,p2,p3,hk]
   rw[aA]
   refine⟨⟨i+1,0,O.set (i+(lim b).length) c,0⟩,⟨by simp only;omega,hR⟩,by simp only;omega,rfl,by simp,sub_eq ?_⟩
   rw[fA]
 ·have hv:=hI.done (c:=0) (by omega)
  have hlen:=hI.len
  have hg':bl g=none:=by simpa using hg
  try simp
  refine gZ 1 bl _ (by simp[hg']) (mI hg0 hg' (by simp) hlen) (gJ _ hI.dig (by omega)) ?_
  rw[hv]
  simp
  exact aP (by simp) rfl rfl
theorem Ar (a b:Nat) (ha:(lim a).length≤1048576) (hb0:0<b) (hb:b<1000000000):RO Tryz.prog 295 [.sl (iv (lim a)),.int .i64 b] (.tup [.sl (iv (lim (a / b))),.int .i64 (a % b:Nat)]):=by
 refine aH Tryz.func295 rfl rfl (by rw[Tryz.ntmps295];simp) fun bl=> ?_
 rw[Tryz.ntmps295,Tryz.results295]
 refine aB ?_
 simp
 refine⟨by omega,by unfold maxLen;omega,fun g hg0 hg=> ?_⟩
 have er:List.replicate ((lim a).length) [V.int IntKind.i64 0]=iv (List.replicate ((lim a).length) 0):=by simp[iv]
 have w0:IntKind.i64.wrap (((lim a).length:Int) - 1)=((lim a).length:Int) - 1:=i64_in (by omega) (by omega)
 simp[er,w0]
 refine aG (fun p:SL=> [(0,.sl (iv (lim a))),(1,.int .i64 b),(6,.lsl g 1 0 (lim a).length),(7,.int .i64 p.r),(8,.int .i64 ((p.i:Int) - 1))]) (fun p=>upd bl g (some ⟨1,iv (List.replicate p.i 0++p.Q)⟩))
  (fun p=>0≤p.r∧qB a b p.i p.Q p.r.toNat) (fun p=>p.i) _ ⟨(lim a).length,[],0⟩ ⟨Int.le_refl _,qB.start a b hb0⟩ ⟨rfl,by simp,sub_eq (by simp)⟩ ?_
 rintro⟨i,Q,r⟩ ⟨hr0,hI⟩
 simp only at hr0 hI
 have hr:=hI.rlt
 have hle:=hI.le
 have hql:=hI.len
 refine aB ?_
 simp[-binV, -intV]
 refine⟨fun h1=> ?_,fun h1=> ?_⟩
 ·obtain⟨m,rfl⟩: ∃m,i=m+1:=⟨i - 1,by omega⟩
  have hm:m<(lim a).length:=by omega
  have hd:=eN a m
  obtain⟨z,hz⟩: ∃z,z=r.toNat*1000000000+dg a m:=⟨_,rfl⟩
  have hN:=hI.next (q:=z / b) (r':=z % b) (by rw[hz]) (by rw[hz])
  have e1:((m+1:Nat):Int) - 1=m:=by omega
  have w1:IntKind.i64.wrap (r*1000000000)=r*1000000000:=i64_in (by omega) (by omega)
  have w2:IntKind.i64.wrap (r*1000000000+dg a m)=z:=by rw[i64_in (by omega) (by omega)];omega
  have hz2:z≤9223372036854775807:=by omega
  simp[-binV, -intV,e1,aY _ _ hm,w1,w2]
  clear w1 w2 hz
  have b0: ¬ b=0:=by omega
  have hg':bl g=none:=by simpa using hg
  have w3:=wq (x:=(z:Int)) (n:=b) (by omega) (by omega) (by omega)
  have w4:(z:Int).tdiv b=(z / b:Nat):=by rw[Int.tdiv_eq_ediv_of_nonneg (by omega)];simp
  have w5:(z:Int).tmod b=(z % b:Nat):=by rw[Int.tmod_eq_emod_of_nonneg (by omega)];simp
  rw[w4] at w3
  have w3':IntKind.i64.wrap ((z:Int) / b)=(z:Int) / b:=by simpa using w3
  have q:(iv (List.replicate (m+1) 0++Q))[m]? =some [.int .i64 0]:=by rw[dN _ _ (by simp;omega)];simp
  have w6:IntKind.i64.wrap ((m:Int) - 1)=(m:Int) - 1:=i64_in (by omega) (by omega)
  refine⟨by omega,?_⟩
  simp[-binV, -intV,w3',w4,w5,hm,b0,q,w6]
  rw[aA]
  refine⟨⟨m,((z / b:Nat):Int)::Q,(z % b:Nat)⟩,⟨by simp only;omega,by show qB a b m _ (((z % b:Nat):Int)).toNat;rw[Int.toNat_natCast];exact hN⟩,by simp only;omega,rfl,by simp,sub_eq ?_⟩
  rw[←pQ m _ 0 Q,←fA]
  simp
 ·have e:i=0:=by omega
  subst e
  obtain⟨h2,h3⟩:=hI.done
  have h4:r=(a % b:Nat):=by omega
  have hg':bl g=none:=by simpa using hg
  try simp
  refine gZ 1 bl _ (by simp[hg']) (mI (ns:=Q) hg0 hg' (by simp) (by simp[hql])) (gJ _ hI.dig (by omega)) ?_
  simp[h2,h4]
  exact aJ [.sl (iv (lim (a / b))),.int .i64 (a % b:Nat)] 1 (by simp) rfl (by simp)
theorem vI (a b:Nat) (hab:b≤a) (ha:(lim a).length≤1000000):RO Tryz.prog 289 [.sl (iv (lim a)),.sl (iv (lim b))] (.sl (iv (lim (a - b)))):=by
 refine aH Tryz.func289 rfl rfl (by rw[Tryz.ntmps289];simp) fun bl=> ?_
 rw[Tryz.ntmps289,Tryz.results289]
 refine aB ?_
 simp
 intro g0 hg0 hb0
 refine aG (fun p:Int×ML=> [(0,.sl (iv (lim a))),(1,.sl (iv (lim b))),(5,.lsl p.1 1 0 p.2.i),(6,.int .i64 p.2.br),(10,.sl (iv (lim a))),(11,.int .i64 (lim a).length),(12,.int .i64 p.2.i)]) (fun p=>upd bl p.1 (some ⟨1,iv p.2.o⟩))
  (fun p=>0≤p.1∧bl p.1=none∧iA a b p.2.i p.2.o p.2.br∧p.2.i≤(lim a).length) (fun p=>(lim a).length - p.2.i) _ (g0,⟨0,[],0⟩) ⟨hg0,hb0,iA.start a b,by simp⟩ ⟨rfl,by simp,sub_eq (by simp[iv])⟩ ?_
 rintro⟨g,i,o,br⟩ ⟨hg,hbg,hI,hi⟩
 simp only at hg hbg hI hi
 have hb1:=hI.x
 have hd1:=eN a i
 have hd2:=eN b i
 have hc1:=hI.c1
 have hol:=hI.len
 refine aB ?_
 simp
 refine⟨fun h1=> ?_,fun h1=> ?_⟩
 ·have w1:IntKind.i64.wrap ((dg a i:Int) - br)=dg a i - br:=i64_in (by omega) (by omega)
  have w2:IntKind.i64.wrap ((dg a i:Int) - br - dg b i)=dg a i - br - dg b i:=i64_in (by omega) (by omega)
  have w3:IntKind.i64.wrap ((i:Int)+1)=i+1:=i64_in (by omega) (by omega)
  simp[aY _ _ h1,w1]
  refine⟨fun h2=> ?_,fun h2=> ?_⟩
  ·simp[aY _ _ h2,w2]
   refine⟨fun h3=> ?_,fun h3=> ?_⟩
   ·have w4:IntKind.i64.wrap ((dg a i:Int) - br - dg b i+1000000000)=dg a i - br - dg b i+1000000000:=i64_in (by omega) (by omega)
    try simp[w4,w3]
    intro g2 hg2 h2g hb2
    simp[w4,w3,h2g,Ne.symm h2g,appV,elsV,Int.not_lt.2 hg2,hol]
    refine⟨by omega,fun g3 hg3 hb3=> ?_⟩
    have fV:bl g3=none:=by grind
    try simp[w4,w3]
    rw[aA]
    refine⟨(g3,⟨i+1,o++ [((dg a i:Int) - br - dg b i+1000000000:Int)],1⟩),⟨hg3,fV,hI.N2 (x:=(dg a i:Int) - br - dg b i) rfl (by omega),by simp only;omega⟩,by simp only;omega,rfl,by simp,?_⟩
    rw[aV]
    exact dA (by rw[←hol,dF];simp[iv]) (by simp[hbg,hb2,h2g])
   ·try simp[w3]
    intro g2 hg2 h2g hb2
    simp[w3,h2g,Ne.symm h2g,appV,elsV,Int.not_lt.2 hg2,hol]
    refine⟨by omega,fun g3 hg3 hb3=> ?_⟩
    have fV:bl g3=none:=by grind
    try simp[w3]
    rw[aA]
    refine⟨(g3,⟨i+1,o++ [((dg a i:Int) - br - dg b i:Int)],0⟩),⟨hg3,fV,hI.J3 (x:=(dg a i:Int) - br - dg b i) rfl (by omega),by simp only;omega⟩,by simp only;omega,rfl,by simp,?_⟩
    rw[aV]
    exact dA (by rw[←hol,dF];simp[iv]) (by simp[hbg,hb2,h2g])
  ·have d0:dg b i=0:=kA (by omega)
   refine⟨fun h3=> ?_,fun h3=> ?_⟩
   ·have w4:IntKind.i64.wrap ((dg a i:Int) - br+1000000000)=dg a i - br+1000000000:=i64_in (by omega) (by omega)
    try simp[w4,w3]
    intro g2 hg2 h2g hb2
    simp[w4,w3,h2g,Ne.symm h2g,appV,elsV,Int.not_lt.2 hg2,hol]
    refine⟨by omega,fun g3 hg3 hb3=> ?_⟩
    have fV:bl g3=none:=by grind
    try simp[w4,w3]
    rw[aA]
    refine⟨(g3,⟨i+1,o++ [((dg a i:Int) - br+1000000000:Int)],1⟩),⟨hg3,fV,hI.N2 (x:=(dg a i:Int) - br) (by omega) (by omega),by simp only;omega⟩,by simp only;omega,rfl,by simp,?_⟩
    rw[aV]
    exact dA (by rw[←hol,dF];simp[iv]) (by simp[hbg,hb2,h2g])
   ·try simp[w3]
    intro g2 hg2 h2g hb2
    simp[w3,h2g,Ne.symm h2g,appV,elsV,Int.not_lt.2 hg2,hol]
    refine⟨by omega,fun g3 hg3 hb3=> ?_⟩
    have fV:bl g3=none:=by grind
    try simp[w3]
    rw[aA]
    refine⟨(g3,⟨i+1,o++ [((dg a i:Int) - br:Int)],0⟩),⟨hg3,fV,hI.J3 (x:=(dg a i:Int) - br) (by omega) (by omega),by simp only;omega⟩,by simp only;omega,rfl,by simp,?_⟩
    rw[aV]
    exact dA (by rw[←hol,dF];simp[iv]) (by simp[hbg,hb2,h2g])
 ·have e:i=(lim a).length:=by omega
  subst e
  have hv:=hI.done hab (Nat.le_refl _)
  refine gZ 1 bl _ (by simp[hbg]) (mI (ns:=o) hg hbg (by simp) hol) (gJ _ hI.dig (by omega)) ?_
  simp[hv]
  exact aP (by simp) rfl rfl
theorem fW (N:Nat) (hN:N≤9223372036854775807):RO Tryz.prog 267 [.int .i64 N] (.sl (iv (lim N))):=by
 have hL:=tU (show N≤18446744073709551615 by omega)
 refine aH Tryz.func267 rfl rfl (by rw[Tryz.ntmps267];simp) fun bl=> ?_
 rw[Tryz.ntmps267,Tryz.results267]
 refine aB ?_
 simp
 intro g0 hg0 hb0
 refine aG (fun p:Int×List Int×Nat=> [(0,.int .i64 p.2.2),(3,.lsl p.1 1 0 p.2.1.length)]) (fun p=>upd bl p.1 (some ⟨1,iv p.2.1⟩)) (fun p=>lim N=p.2.1++lim p.2.2∧p.2.2≤9223372036854775807∧bl p.1=none∧0≤p.1) (fun p=>p.2.2) _ (g0,[],N) ⟨by simp,hN,hb0,hg0⟩ ⟨rfl,by simp,sub_eq (by simp[iv])⟩ ?_
 rintro⟨g,o,n⟩ ⟨hl,hn,hg,h0⟩
 simp only at hl hn hg h0
 have hlo:o.length≤3:=by have:=congrArg List.length hl;simp at this;omega
 refine aB ?_
 simp
 refine⟨fun h=> ?_,fun h=> ?_⟩
 ·have m0:(n:Int).tmod 1000000000=((n % 1000000000:Nat):Int):=by rw[Int.tmod_eq_emod_of_nonneg (by omega)];omega
  have q0:(n:Int).tdiv 1000000000=((n / 1000000000:Nat):Int):=by rw[Int.tdiv_eq_ediv_of_nonneg (by omega)];omega
  have w2:IntKind.i64.wrap ((n:Int) / 1000000000)=(n:Int) / 1000000000:=i64_in (by omega) (by omega)
  intro g2 hg2 h2g hb2
  simp[h2g,Ne.symm h2g,appV,elsV,Int.not_lt.2 hg2,m0,q0,w2]
  refine⟨by omega,fun g3 hg3 hb3=> ?_⟩
  have fV:bl g3=none:=by grind
  try simp[m0,q0,w2]
  rw[aA]
  refine⟨(g3,o++ [((n % 1000000000:Nat):Int)],n / 1000000000),⟨by rw[hl,U9 h];simp,by simp only;omega,fV,hg3⟩,by simp only;omega,rfl,by simp,?_⟩
  rw[aV]
  exact dA (by rw[dF];simp[iv,m0]) (by simp[hg,hb2,h2g])
 ·have e:n=0:=by omega
  subst e
  rw[aU,List.append_nil] at hl
  rw[hl]
  exact aJ [.lsl g 1 0 o.length] 1 (by simp) (cY h0 hg (by simp) (by simp) (nK o)) (by simp[hg])
theorem Cb (a b:Nat) (ha:a≤9223372036854775807) (hb:b≤9223372036854775807):RO Tryz.prog 285 [.int .i64 a,.int .i64 b] (.sl (iv (lim (Nat.gcd a b)))):=by
 refine aH Tryz.func285 rfl rfl (by rw[Tryz.ntmps285];simp) fun bl=> ?_
 rw[Tryz.ntmps285,Tryz.results285]
 refine aB ?_
 simp
 refine aG (fun p:Nat×Nat=> [(0,.int .i64 p.1),(1,.int .i64 p.2)]) (fun _=>bl) (fun p=>Nat.gcd p.1 p.2=Nat.gcd a b∧p.1≤9223372036854775807∧p.2≤9223372036854775807) (fun p=>p.2) _ (a,b) ⟨rfl,ha,hb⟩ ⟨rfl,by simp,Sub.refl _⟩ ?_
 rintro⟨x,y⟩ ⟨hg,hx,hy⟩
 simp only at hg hx hy
 refine aB ?_
 simp
 refine⟨fun h=> ?_,fun h=> ?_⟩
 ·have hy0: ¬ y=0:=by omega
  have hlt:=Nat.mod_lt x h
  have m0:(x:Int).tmod y=((x % y:Nat):Int):=by rw[Int.tmod_eq_emod_of_nonneg (by omega)];simp
  simp[hy0,m0,aA]
  refine⟨y,x % y,⟨?_,hy,by omega⟩,hlt,rfl,by simp,Sub.refl _⟩
  rw[←hg,Nat.gcd_comm x y,Nat.gcd_rec y x,Nat.gcd_comm]
 ·have h0:y=0:=by omega
  subst h0
  rw[Nat.gcd_zero_right] at hg
  refine aD (fW x hx) ?_
  rw[←hg]
  simp
  exact aP (by simp) rfl rfl

theorem Lq {n:Nat} (h:(lim n).length≤60):nE (lim n)=true:=by unfold nE;simp[h]
theorem Hs :lim 9223372036854775807= [854775807,223372036,9]:=by
 refine Ny ?_ (by decide+kernel) (.inr (by decide+kernel))
 intro d hd
 simp at hd
 omega
theorem Gn {a b:Nat} :iX a b≤0 ↔ a≤b:=by unfold iX;split<;>(try split)<;>omega
theorem V8 (n k:Nat):val ((lim n).drop k)≤n:=by
 rcases Nat.lt_or_ge (lim n).length k with h | h
 ·rw[List.drop_of_length_le (by omega)];exact Nat.zero_le _
 ·have:=jZ (lim n) h
  rw[eX] at this
  have hp:1≤LB^k:=Nat.pow_pos iH
  have:=Nat.mul_le_mul_right (val ((lim n).drop k)) hp
  omega
theorem xS (n:Nat) (hn:n≤9223372036854775807):RO Tryz.prog 284 [.sl (iv (lim n))] (.tup [.int .i64 n,.bool true]):=by
 have hL:=tU (show n≤18446744073709551615 by omega)
 refine aH Tryz.func284 rfl rfl (by rw[Tryz.ntmps284];simp) fun bl=> ?_
 rw[Tryz.ntmps284,Tryz.results284]
 refine aB ?_
 simp
 refine Vw [(0,.sl (iv (lim n)))] _ bl 14 (.bool false) ⟨rfl,by simp,Sub.refl _⟩ rfl ?_ ?_
 ·simp
  refine aD (mW _ (by omega)) ?_
  simp[Lq (show(lim n).length≤60 by omega)]
  intro g hg0 hg
  refine aT 1 (ys:= [.sl (iv (lim n)),.sl (iv (lim 9223372036854775807))]) ?_ (lE n 9223372036854775807 (by omega) (by rw[Hs];simp)) rfl ?_
  ·have er3:List.range 3= [0,1,2]:=rfl
   simp[frzL,frz,Hs,iv,V.cl,Int.not_lt.2 hg0,er3]
  simp[hg]
  have:=Gn.2 hn
  omega
 have w0:IntKind.i64.wrap (((lim n).length:Int) - 1)=((lim n).length:Int) - 1:=i64_in (by omega) (by omega)
 simp[w0]
 refine aG (fun p:Nat×Int=> [(0,.sl (iv (lim n))),(4,.int .i64 p.2),(5,.int .i64 ((p.1:Int) - 1))]) (fun _=>bl) (fun p=>p.1≤(lim n).length∧p.2=(val ((lim n).drop p.1):Nat)) (fun p=>p.1) _ ((lim n).length,0) ⟨Nat.le_refl _,by simp[val]⟩ ⟨rfl,by simp,Sub.refl _⟩ ?_
 rintro⟨k,x⟩ ⟨hk,hx⟩
 simp only at hk hx
 refine aB ?_
 simp[-binV, -intV]
 refine⟨fun h1=> ?_,fun h1=> ?_⟩
 ·obtain⟨m,rfl⟩: ∃m,k=m+1:=⟨k - 1,by omega⟩
  have hm:m<(lim n).length:=by omega
  have e1:((m+1:Nat):Int) - 1=m:=by omega
  have hv:val ((lim n).drop m)=dg n m+LB*val ((lim n).drop (m+1)):=by
   rw[List.drop_eq_getElem_cons hm,val,gL hm,Int.toNat_natCast]
  have hle:=V8 n m
  have hLB:LB=1000000000:=rfl
  rw[hLB] at hv
  have w1:IntKind.i64.wrap (x*1000000000)=x*1000000000:=i64_in (by omega) (by omega)
  have w2:IntKind.i64.wrap (x*1000000000+dg n m)=x*1000000000+dg n m:=i64_in (by omega) (by omega)
  have w3:IntKind.i64.wrap ((m:Int) - 1)=(m:Int) - 1:=i64_in (by omega) (by omega)
  simp[-binV, -intV,e1,aY _ _ hm,w1,w2,w3]
  refine⟨by omega,?_⟩
  rw[aA]
  refine⟨(m,x*1000000000+dg n m),⟨by simp only;omega,by simp only;omega⟩,by simp only;omega,rfl,by simp,Sub.refl _⟩
 ·have e:k=0:=by omega
  subst e
  have hx2:x=n:=by rw[hx];simp
  rw[hx2]
  exact aJ [.int .i64 n,.bool true] 1 (by simp) rfl (Sub.refl _)
structure DL2 where
 lo:Int
 hi:Int
theorem As (r b n:Nat) (hn:(lim b).length=n+1) (hbr:b≤r) (hrb:r<LB*b) (hl:n≤300000):RO Tryz.prog 296 [.sl (iv (lim r)),.sl (iv (lim b))] (.int .i64 (r / b:Nat)):=by
 have ht:0<dg b n:=O7 hn
 have htl:=eN b n
 have hb0:0<b:=by
  rcases Nat.eq_zero_or_pos b with h | h
  ·rw[h,aU] at hn;simp at hn
  ·exact h
 have hlr:n+1≤(lim r).length:=by have:=cA hbr;omega
 have hbl:b<LB^(n+1):=aL.1 (by omega)
 have aXF:(lim r).length≤n+2:=by
  refine aL.2 (Nat.lt_of_lt_of_le hrb ?_)
  rw[Nat.pow_succ,Nat.mul_comm]
  exact Nat.mul_le_mul_right _ (Nat.le_of_lt hbl)
 have hLB:LB=1000000000:=rfl
 have er:r=(dg r (n+1)*LB+dg r n)*LB^n+pv r n:=by
  have h1:=eK r n
  have h2:=eK r (n+1)
  rw[fQ (by omega)] at h2
  have e1:dg r (n+1)*LB*LB^n=LB^n*LB*dg r (n+1):=by ac_rfl
  have e2:dg r n*LB^n=LB^n*dg r n:=Nat.mul_comm _ _
  rw[Nat.pow_succ] at h2
  rw[Nat.add_mul]
  omega
 have eb:b=dg b n*LB^n+pv b n:=by
  have h1:=eK b n
  rw[fQ (by omega)] at h1
  have e2:dg b n*LB^n=LB^n*dg b n:=Nat.mul_comm _ _
  omega
 obtain⟨x,hx⟩: ∃x,x=dg r (n+1)*LB+dg r n:=⟨_,rfl⟩
 have hlo:x / (dg b n+1)≤r / b:=by
  have:=Qt (x:=x) (rl:=pv r n) (Bt b n) ht
  rw[hx,←er,←eb,←hx] at this;exact this
 have hhi:r / b≤x / dg b n:=by
  have:=Bj (x:=x) (bl:=pv b n) (Bt r n) ht
  rw[hx,←er,←eb,←hx] at this;exact this
 have hq:r / b≤999999999:=by
  have:r / b<LB:=by rw[Nat.div_lt_iff_lt_mul hb0];exact hrb
  omega
 have hr1:=eN r (n+1)
 have hr0:=eN r n
 have hxl:x≤1000000000000000000:=by rw[hx,hLB];omega
 refine aH Tryz.func296 rfl rfl (by rw[Tryz.ntmps296];simp) fun bl=> ?_
 rw[Tryz.ntmps296,Tryz.results296]
 obtain⟨d1,hd1⟩: ∃d1:Int,d1=dg r (n+1):=⟨_,rfl⟩
 have w0:IntKind.i64.wrap (((lim b).length:Int) - 1)=(n:Int):=by rw[i64_in (by omega) (by omega)];omega
 have w1:IntKind.i64.wrap (d1*1000000000)=d1*1000000000:=i64_in (by omega) (by omega)
 have w2:IntKind.i64.wrap ((dg r n:Int)+d1*1000000000)=x:=by rw[i64_in (by omega) (by omega),hx,hLB];omega
 have w3:IntKind.i64.wrap ((dg b n:Int)+1)=(dg b n:Int)+1:=i64_in (by omega) (by omega)
 have lr:=aY r n (by omega)
 have lb:=aY b n (by omega)
 have q1:(iv (lim r))[(lim b).length]? =if(lim b).length<(lim r).length then some [.int .i64 d1] else none:=by
  split
  ·rename_i h;rw[aY _ _ h,hn,hd1]
  ·rename_i h;rw[List.getElem?_eq_none (by simp;omega)]
 have y1:(x:Int).tdiv ((dg b n:Int)+1)=(x / (dg b n+1):Nat):=by rw[Int.tdiv_eq_ediv_of_nonneg (by omega)];simp
 have y2:(x:Int).tdiv (dg b n:Int)=(x / dg b n:Nat):=by rw[Int.tdiv_eq_ediv_of_nonneg (by omega)];simp
 have y3:=wq (x:=(x:Int)) (n:=(dg b n:Int)+1) (by omega) (by omega) (by omega)
 have y4:=wq (x:=(x:Int)) (n:=(dg b n:Int)) (by omega) (by omega) (by omega)
 rw[y1] at y3
 rw[y2] at y4
 obtain⟨lo0,Zm⟩: ∃l:Int,l=(x / (dg b n+1):Nat):=⟨_,rfl⟩
 obtain⟨hi0,aJB⟩: ∃l:Int,l=(x / dg b n:Nat):=⟨_,rfl⟩
 rw[←Zm] at y1 y3
 rw[←aJB] at y2 y4
 have z1: ¬ (dg b n:Int)+1=0:=by omega
 have z2: ¬ dg b n=0:=by omega
 obtain⟨D,hD⟩: ∃D:Int,D=(r / b:Nat):=⟨_,rfl⟩
 rw[←hD]
 have hD0:0≤D:=by rw[hD];exact Int.natCast_nonneg _
 have hDq:D≤999999999:=by rw[hD];generalize r / b=z at hq ⊢;omega
 have aSM:lo0≤D:=by rw[Zm,hD];generalize r / b=z at hlo ⊢;generalize x / (dg b n+1)=z2 at hlo ⊢;omega
 have aV8:D≤hi0:=by rw[aJB,hD];generalize r / b=z at hhi ⊢;generalize x / dg b n=z2 at hhi ⊢;omega
 have aIE:0≤lo0:=by rw[Zm];exact Int.natCast_nonneg _
 refine aE ?_
 simp
 refine aE ?_
 simp
 refine aE ?_
 simp[w0,lr]
 refine iD (fun _:Unit=> [(0,.sl (iv (lim r))),(1,.sl (iv (lim b))),(5,.int .i64 (lim b).length),(6,.int .i64 x)]) (fun _=>bl) (fun _=>True) 63 ?_ ?_
 ·refine aB ?_
  simp[-binV, -intV]
  refine⟨fun h=> ?_,fun h=> ?_⟩
  ·have q2:(lim r)[(lim b).length]'h=d1:=by rw[gL h,hn,hd1]
   simp[-binV, -intV,q1,h,q2,w1,w2]
   rw[aI]
   exact⟨(),trivial,rfl,by simp,Sub.refl _⟩
  ·have e0:dg r (n+1)=0:=kA (by omega)
   have ex:dg r n=x:=by rw[hx,e0];simp
   rw[aI]
   exact⟨(),trivial,rfl,by simp[ex],Sub.refl _⟩
 rintro _ _
 refine aB ?_
 simp[w0,lb,w3,y1,y2,y3,y4,z1,z2,minV]
 refine aG (fun p:DL2=> [(0,.sl (iv (lim r))),(1,.sl (iv (lim b))),(7,.int .i64 p.lo),(8,.int .i64 p.hi)]) (fun _=>bl) (fun p=>0≤p.lo∧p.lo≤D∧D≤p.hi∧p.hi≤999999999) (fun p=>(p.hi - p.lo).toNat) _ ⟨lo0,if hi0<999999999 then hi0 else 999999999⟩ ⟨aIE,aSM,by simp only;split<;>omega,by simp only;split<;>omega⟩ ⟨rfl,by simp[minV],Sub.refl _⟩ ?_
 rintro⟨lo,hi⟩ ⟨a1,a2,a3,a4⟩
 simp only at a1 a2 a3 a4
 refine aB ?_
 simp
 refine⟨fun h=> ?_,fun h=> ?_⟩
 ·have v1:IntKind.i64.wrap (lo+hi)=lo+hi:=i64_in (by omega) (by omega)
  have v2:IntKind.i64.wrap (lo+hi+1)=lo+hi+1:=i64_in (by omega) (by omega)
  have v3:=wq (x:=lo+hi+1) (n:=2) (by omega) (by omega) (by omega)
  have v4:(lo+hi+1).tdiv 2=(((lo+hi+1) / 2).toNat:Nat):=by rw[Int.tdiv_eq_ediv_of_nonneg (by omega)];omega
  rw[v4] at v3
  obtain⟨q,hqq⟩: ∃q:Nat,q=((lo+hi+1) / 2).toNat:=⟨_,rfl⟩
  rw[←hqq] at v3 v4
  have hq2:(q:Int)=(lo+hi+1) / 2:=by omega
  have aV6:q≤999999999:=by omega
  simp[v1,v2,v3,v4]
  refine aD (fW q (by omega)) ?_
  simp
  have lq:(lim q).length≤3:=tU (by omega)
  refine aD (fH b q (by omega) (by omega)) ?_
  simp
  have lbq:=fS (k:=300002) (l:=3) (show(lim b).length≤300002 by omega) lq
  refine aD (lE _ _ (by omega) (by omega)) ?_
  simp[Gn]
  have hdh:=Cu (r:=r) (q:=q) hb0
  refine⟨fun h2=> ?_,fun h2=> ?_⟩
  ·rw[aA]
   have h3:=hdh.1 h2
   refine⟨⟨q,hi⟩,⟨by simp only;omega,?_,a3,a4⟩,by simp only;omega,rfl,by simp,Sub.refl _⟩
   simp only
   rw[hD]
   generalize r / b=z at h3 ⊢
   omega
  ·have v5:IntKind.i64.wrap ((q:Int) - 1)=(q:Int) - 1:=i64_in (by omega) (by omega)
   simp[v5]
   rw[aA]
   have h3: ¬ q≤r / b:=fun hh=>by have:=hdh.2 hh;omega
   refine⟨⟨lo,(q:Int) - 1⟩,⟨a1,a2,?_,by simp only;omega⟩,by simp only;omega,rfl,by simp,Sub.refl _⟩
   simp only
   rw[hD]
   generalize r / b=z at h3 ⊢
   omega
 ·have:lo=D:=by omega
  rw[this]
  exact aP (by simp) rfl rfl
theorem Lu {r d k:Nat} (hr:(lim r).length≤k) (hd:d<1000000000):(lim (r*1000000000+d)).length≤k+1:=by
 refine aL.2 ?_
 have h5:=aL.1 hr
 have e:LB^(k+1)=LB^k*1000000000:=Nat.pow_succ ..
 rw[e]
 generalize LB^k=P at h5 ⊢
 omega
structure SD where
 g:Int
 i:Nat
 Q:List Int
 r:Nat
theorem wD (a b:Nat) (hb0:0<b) (ha:(lim a).length≤200000) (hbl:(lim b).length≤200000):RO Tryz.prog 286 [.sl (iv (lim a)),.sl (iv (lim b))] (.tup [.sl (iv (lim (a / b))),.sl (iv (lim (a % b)))]):=by
 refine aH Tryz.func286 rfl rfl (by rw[Tryz.ntmps286];simp) fun bl=> ?_
 rw[Tryz.ntmps286,Tryz.results286]
 refine aE ?_
 simp
 refine aE ?_
 simp
 refine⟨fun h1=> ?_,fun h1=> ?_⟩
 ·have h1':(lim b).length=1:=by omega
  obtain⟨b1,b2,b3⟩:=Vd h1'
  simp[aY b 0 (by omega),b1]
  refine aD (Ar a b (by omega) b3 b2) ?_
  have hr:a % b<b:=Nat.mod_lt _ b3
  obtain⟨r,hr2⟩: ∃r,r=a % b:=⟨_,rfl⟩
  rw[←hr2] at hr ⊢
  simp
  refine aD (fW r (by omega)) ?_
  simp
  exact aJ [.sl (iv (lim (a / b))),.sl (iv (lim r))] 1 (by simp) rfl (Sub.refl _)
 have hbz:(lim b).length≠0:=fun h0=>by have:=eJ.1 (List.length_eq_zero_iff.1 h0);omega
 obtain⟨n,hn⟩: ∃n,(lim b).length=n+1:=⟨(lim b).length - 1,by omega⟩
 have w0:IntKind.i64.wrap (((lim a).length:Int) - 1)=((lim a).length:Int) - 1:=i64_in (by omega) (by omega)
 refine aB ?_
 simp
 refine⟨by omega,by unfold maxLen;omega,fun g8 hg8 hb8 g9 hg9 h98 hb9=> ?_⟩
 have er:List.replicate ((lim a).length) [V.int IntKind.i64 0]=iv (List.replicate ((lim a).length) 0):=by simp[iv]
 simp[er,w0]
 have aLO:bl g8=none:=by simpa using hb8
 refine cX 1 9 (.sl (iv (lim 0))) (upd bl g8 (some ⟨1,iv (List.replicate (lim a).length 0)⟩)) (by simp[h98,hb9]) ?_ ?_
 ·rw[aU]
  exact cY hg9 (by simp[h98,hb9]) (by simp;rfl) rfl rfl
 refine aG (fun p:SL=> [(0,.sl (iv (lim a))),(1,.sl (iv (lim b))),(8,.lsl g8 1 0 (lim a).length),(9,.sl (iv (lim p.r.toNat))),(10,.int .i64 ((p.i:Int) - 1))]) (fun p=>upd bl g8 (some ⟨1,iv (List.replicate p.i 0++p.Q)⟩))
  (fun p=>qB a b p.i p.Q p.r.toNat) (fun p=>p.i) _ ⟨(lim a).length,[],0⟩ (qB.start a b hb0) ⟨rfl,by simp,sub_eq (by simp)⟩ ?_
 rintro⟨i,Q,r⟩ hI
 simp only at hI
 have hr:=hI.rlt
 have hle:=hI.le
 have hql:=hI.len
 generalize r.toNat=r at *
 refine aB ?_
 simp
 refine⟨fun h1=> ?_,fun h1=> ?_⟩
 ·obtain⟨m,rfl⟩: ∃m,i=m+1:=⟨i - 1,by omega⟩
  have hm:m<(lim a).length:=by omega
  have hd:=eN a m
  obtain⟨z,hz⟩: ∃z,z=r*1000000000+dg a m:=⟨_,rfl⟩
  have hN:=hI.next (q:=z / b) (r':=z % b) (by rw[hz]) (by rw[hz])
  have e1:((m+1:Nat):Int) - 1=m:=by omega
  have er1:List.range 1= [0]:=rfl
  have hrl:(lim r).length≤200000:=kK (Nat.le_of_lt hr) hbl
  simp[e1,aY _ _ hm]
  refine⟨by omega,?_⟩
  intro g2 hg2 h28 hb2
  have bH:((iv (lim r)).all fun c=>c.length==1 && c.all V.one)=true:=by simp[iv]
  simp[h28,Ne.symm h28,appV,elsV,Int.not_lt.2 hg2,bH,er1]
  refine⟨by omega,fun g3 hg3 hb3=> ?_⟩
  have fV:g3≠g8∧bl g3=none:=by grind
  have hv:val ((dg a m:Int)::lim r)=z:=by
   have hLB:LB=1000000000:=rfl
   rw[val,eX,hLB,hz];simp;omega
  have hD:Dig ((dg a m:Int)::lim r):=fun d hd2=>by
   rcases List.mem_cons.1 hd2 with rfl | hd2
   ·omega
   ·exact gG r d hd2
  refine gZ 1 (upd bl g8 (some ⟨1,iv (List.replicate (m+1) 0++Q)⟩)) _ ?_ (mI (ns:=(dg a m:Int)::lim r) hg3 (by simp[fV.1,fV.2]) (by simp[iv]) (by simp)) (gJ _ hD (by simp;omega)) ?_
  ·intro u y hu
   simp only[aC,aF] at hu ⊢
   grind
  rw[hv]
  have hzr:(lim z).length≤200001:=by rw[hz];exact Lu hrl hd
  simp
  refine aD (lE z b (by omega) (by omega)) ?_
  have w3:IntKind.i64.wrap ((m:Int) - 1)=(m:Int) - 1:=i64_in (by omega) (by omega)
  simp[Gh]
  refine⟨fun h5=> ?_,fun h5=> ?_⟩
  ·rw[Nat.div_eq_of_lt h5,Nat.mod_eq_of_lt h5] at hN
   simp[w3]
   rw[aA]
   refine⟨⟨m,0::Q,z⟩,by simpa using hN,by simp only;omega,rfl,by simp,sub_eq ?_⟩
   rw[←Lo]
  ·have hzb:z<LB*b:=by
    have hLB:LB=1000000000:=rfl
    rw[hLB,hz];omega
   refine aD (As z b n hn h5 hzb (by omega)) ?_
   have q5:(iv (List.replicate (m+1) 0++Q))[m]? =some [.int .i64 0]:=by rw[dN _ _ (by simp;omega)];simp
   have hqq:z / b≤999999999:=by
    have:z / b<LB:=by rw[Nat.div_lt_iff_lt_mul hb0];exact hzb
    have hLB:LB=1000000000:=rfl
    omega
   obtain⟨q,hq⟩: ∃q,q=z / b:=⟨_,rfl⟩
   have aTX:z - b*q=z % b:=by rw[hq];have:=Nat.div_add_mod z b;omega
   have aCG:b*q≤z:=by rw[hq];exact Nat.mul_div_le z b
   rw[←hq] at hqq hN ⊢
   simp[q5,hm]
   refine aD (fW q (by omega)) ?_
   simp
   have lq:(lim q).length≤3:=tU (by omega)
   refine aD (fH b q (by omega) (by omega)) ?_
   simp
   refine aD (vI z (b*q) aCG (by omega)) ?_
   rw[aTX]
   simp[w3]
   rw[aA]
   refine⟨⟨m,(q:Int)::Q,(z % b:Nat)⟩,by simp only[Int.toNat_natCast];exact hN,by simp only;omega,rfl,by simp only[Int.toNat_natCast];simp,sub_eq ?_⟩
   rw[←pQ m _ 0 Q,←fA]
 ·have e:i=0:=by omega
  subst e
  obtain⟨h2,h3⟩:=hI.done
  refine gZ 1 bl _ (by simp[aLO]) (mI (ns:=Q) hg8 aLO (by simp) (by simp[hql])) (gJ _ hI.dig (by omega)) ?_
  rw[h2,h3]
  simp
  exact aJ [.sl (iv (lim (a / b))),.sl (iv (lim (a % b)))] 1 (by simp) rfl (by simp)
theorem rD {bl bl0:Int→Option Blk} {g:Int} {ns:List Int} (h0:0≤g∨ns= []) (hg:bl0 g=none) (hb:bl g=some ⟨1,iv ns⟩):frz (dropB bl bl0) 1 (.lsl g 1 0 ns.length)=some (.sl (iv ns)):=by
 rcases Int.lt_or_le g 0 with h | h
 ·have:ns= []:=by rcases h0 with h0 | h0;omega;exact h0
  subst this
  unfold frz
  rw[if_pos h];rfl
 ·exact cY h hg hb (by simp) (nK ns)
theorem M3 (a b:Nat) (ha:(lim a).length≤200000) (hb:(lim b).length≤200000):RO Tryz.prog 263 [.sl (iv (lim a)),.sl (iv (lim b))] (.sl (iv (lim (Nat.gcd a b)))):=by
 have bH: ∀n:Nat,((iv (lim n)).all fun c=>c.length==1 && c.all V.one)=true:=fun n=>by simp[iv]
 have aO5: ∀n:Nat,iv (lim n)= []→lim n= []:=fun n h=>by simpa [iv] using h
 refine aH Tryz.func263 rfl rfl (by rw[Tryz.ntmps263];simp) fun bl=> ?_
 rw[Tryz.ntmps263,Tryz.results263]
 refine aB ?_
 simp
 intro g0 hg0 hb0
 simp[appV,elsV,bH,Int.not_lt.2 hg0]
 refine⟨by omega,fun g1 hg1 hb1 g2 hg2 n21 hb2=> ?_⟩
 have Av:bl g2=none:=by grind
 have aSG:bl g1=none:=by grind
 try simp[appV,elsV,bH,Int.not_lt.2 hg2]
 refine⟨by omega,fun g3 hg3 hb3=> ?_⟩
 have n31:g3≠g1:=by grind
 have fV:bl g3=none:=by grind
 refine cX 1 5 (.sl (iv (lim a))) (upd bl g3 (some ⟨1,iv (lim b)⟩)) ?_ ?_ ?_
 ·intro u y hu
  simp only[aC,aF] at hu ⊢
  grind
 ·exact rD (hg1.imp id (aO5 a)) (by simp[Ne.symm n31,aSG]) (by simp[n21,Ne.symm n21,n31,Ne.symm n31])
 refine cX 1 6 (.sl (iv (lim b))) bl (by simp[fV]) ?_ ?_
 ·exact rD (hg3.imp id (aO5 b)) fV (by simp)
 refine aG (fun p:Nat×Nat=> [(5,.sl (iv (lim p.1))),(6,.sl (iv (lim p.2)))]) (fun _=>bl) (fun p=>Nat.gcd p.1 p.2=Nat.gcd a b∧(lim p.1).length≤200000∧(lim p.2).length≤200000) (fun p=>p.2) _ (a,b) ⟨rfl,ha,hb⟩ ⟨rfl,by simp,Sub.refl _⟩ ?_
 rintro⟨x,y⟩ ⟨hg,hx,hy⟩
 simp only at hg hx hy
 refine aB ?_
 simp
 refine⟨fun h=> ?_,fun h=> ?_⟩
 ·have hy0:0<y:=(qL y).1 (by simpa using h)
  refine bD [(5,.sl (iv (lim x))),(6,.sl (iv (lim y)))] _ bl 29 (.bool (decide ((lim x).length<3)&& decide ((lim y).length<3))) ⟨rfl,by simp,Sub.refl _⟩ rfl ?_ ?_
  ·simp
   refine⟨fun h3=> ?_,fun h3 h4=>by omega⟩
   rw[Bool.eq_iff_iff];simp;omega
  simp
  refine⟨fun h1 h2=> ?_,fun h1=> ?_⟩
  ·have bx:x≤9223372036854775807:=by
    have:=aL.1 (show(lim x).length≤2 by omega)
    have e:LB^2=1000000000000000000:=by decide+kernel
    omega
   have by':y≤9223372036854775807:=by
    have:=aL.1 (show(lim y).length≤2 by omega)
    have e:LB^2=1000000000000000000:=by decide+kernel
    omega
   refine aD (xS x bx) ?_
   simp
   refine aD (xS y by') ?_
   simp
   refine aD (Cb x y bx by') ?_
   rw[hg]
   simp
   exact aP (by simp) rfl rfl
  ·refine aD (wD x y hy0 hx hy) ?_
   simp
   rw[aA]
   have hlt:=Nat.mod_lt x hy0
   refine⟨(y,x % y),⟨?_,hy,?_⟩,hlt,rfl,by simp,Sub.refl _⟩
   ·rw[←hg,Nat.gcd_comm x y,Nat.gcd_rec y x,Nat.gcd_comm]
   ·exact Nat.le_trans (cA (Nat.le_of_lt hlt)) hy
 ·have h0:y=0:=eJ.1 (by simpa using h)
  subst h0
  rw[Nat.gcd_zero_right] at hg
  rw[←hg]
  exact aP (by simp) rfl rfl

theorem X0 {bl bl0:Int→Option Blk} {g:Int} {ns:List Int} {b:Bool} (h0:0≤g∨ns= []) (hg:bl0 g=none) (hb:bl g=some ⟨1,iv ns⟩):frz (dropB bl bl0) 2 (.agg [.bool b,.lsl g 1 0 ns.length])=some (.agg [.bool b,.sl (iv ns)]):=by
 have h1:=rD h0 hg hb
 have h2:frz (dropB bl bl0) 1 (.bool b)=some (.bool b):=by simp[frz]
 rw[mF]
 simp only[List.mapM_cons,List.mapM_nil,h1,h2]
 rfl
theorem eE (neg:Bool) (m:Nat) (hm:(lim m).length≤60):RO Tryz.prog 254 [.bool neg,.sl (iv (lim m))] (.agg (biC (sg neg m))):=by
 have bH:((iv (lim m)).all fun c=>c.length==1 && c.all V.one)=true:=by simp[iv]
 refine aH Tryz.func254 rfl rfl (by rw[Tryz.ntmps254];simp) fun bl=> ?_
 rw[Tryz.ntmps254,Tryz.results254]
 refine aB ?_
 simp
 intro g hg0 hg
 refine aD (Kx (lim m) (gG m) (by omega)) ?_
 rw[eX,if_pos hm]
 simp
 cases neg
 all_goals
  refine vL (vU ?_)
  simp
  intro g1 hg1 h1g hb1
  simp[h1g,Ne.symm h1g,appV,elsV,Int.not_lt.2 hg1,bH]
  refine⟨by omega,fun g2 hg2 hb2=> ?_⟩
  have h2g:g2≠g:=by grind
  have Av:bl g2=none:=by grind
  have hnn:0≤g2∨lim m= []:=hg2.imp id (fun h=>by simpa [iv] using h)
  simp[h1g,Ne.symm h1g,h2g,Ne.symm h2g]
 ·refine aJ [.agg [.bool false,.lsl g2 1 0 (lim m).length]] 2 (by simp[h1g,Ne.symm h1g,h2g,Ne.symm h2g]) ?_ (by simp[hg,hb1,Av,h1g,h2g])
  rw[N9]
  exact X0 hnn Av (by simp[h2g])
 ·refine aJ [.agg [.bool (decide (0<(lim m).length)),.lsl g2 1 0 (lim m).length]] 2 (by simp[h1g,Ne.symm h1g,h2g,Ne.symm h2g]) ?_ (by simp[hg,hb1,Av,h1g,h2g])
  rw[N9]
  exact X0 hnn Av (by simp[h2g])
theorem Kv (x y:Int) (hx:(lim x.natAbs).length≤1048576) (hy:(lim y.natAbs).length≤1048576):RO Tryz.prog 294 [.agg (biC x),.agg (biC y)] (.int .i64 (hH x y)):=by
 refine aH Tryz.func294 rfl rfl (by rw[Tryz.ntmps294];simp) fun bl=> ?_
 rw[Tryz.ntmps294,Tryz.results294]
 refine aE ?_
 rw[show biC x= [.bool (decide (x<0)),.sl (iv (lim x.natAbs))] from rfl,show biC y= [.bool (decide (y<0)),.sl (iv (lim y.natAbs))] from rfl]
 simp
 intro g hg0 hg g2 hg2 h2g hb2
 refine aB ?_
 simp[h2g,Ne.symm h2g]
 by_cases h1:x<0<;>by_cases h2:y<0
 ·refine bQ [(2,.loc g 2 0 0),(3,.loc g2 2 0 0)] _ (upd (upd bl g (some ⟨2,[[.bool (decide (x<0)),.sl (iv (lim x.natAbs))]]⟩)) g2 (some ⟨2,[[.bool (decide (y<0)),.sl (iv (lim y.natAbs))]]⟩)) 5 (.bool false) (upd (upd bl g (some ⟨2,[[.bool (decide (x<0)),.sl (iv (lim x.natAbs))]]⟩)) g2 (some ⟨2,[[.bool (decide (y<0)),.sl (iv (lim y.natAbs))]]⟩)) ⟨rfl,by simp,Sub.refl _⟩ rfl (by simp[h1,h2,h2g,Ne.symm h2g]) ?_
  simp[h1,h2,h2g,Ne.symm h2g]
  refine bQ [(2,.loc g 2 0 0),(3,.loc g2 2 0 0)] _ (upd (upd bl g (some ⟨2,[[.bool (decide (x<0)),.sl (iv (lim x.natAbs))]]⟩)) g2 (some ⟨2,[[.bool (decide (y<0)),.sl (iv (lim y.natAbs))]]⟩)) 13 (.bool false) (upd (upd bl g (some ⟨2,[[.bool (decide (x<0)),.sl (iv (lim x.natAbs))]]⟩)) g2 (some ⟨2,[[.bool (decide (y<0)),.sl (iv (lim y.natAbs))]]⟩)) ⟨rfl,by simp,sub_eq (by simp[h1,h2])⟩ rfl (by simp[h1,h2,h2g,Ne.symm h2g]) ?_
  simp[h1,h2,h2g,Ne.symm h2g]
  refine aD (lE _ _ hy hx) ?_
  simp
  refine aJ [.int .i64 (hH x y)] 0 ?_ (by simp[frz]) (by simp[hg,hb2])
  have:iX y.natAbs x.natAbs=hH x y:=by unfold iX hH;split<;>split<;>(try split)<;>(try split)<;>omega
  simp[this]
 ·refine bQ [(2,.loc g 2 0 0),(3,.loc g2 2 0 0)] _ (upd (upd bl g (some ⟨2,[[.bool (decide (x<0)),.sl (iv (lim x.natAbs))]]⟩)) g2 (some ⟨2,[[.bool (decide (y<0)),.sl (iv (lim y.natAbs))]]⟩)) 5 (.bool true) (upd (upd bl g (some ⟨2,[[.bool (decide (x<0)),.sl (iv (lim x.natAbs))]]⟩)) g2 (some ⟨2,[[.bool (decide (y<0)),.sl (iv (lim y.natAbs))]]⟩)) ⟨rfl,by simp,Sub.refl _⟩ rfl (by simp[h1,h2,h2g,Ne.symm h2g]) ?_
  simp[h1,h2,h2g,Ne.symm h2g]
  have:hH x y= -1:=by unfold hH;rw[if_pos (by omega)]
  exact aJ [.int .i64 (-1)] 0 (by simp) (by simp[frz,this]) (by simp[hg,hb2])
 ·refine bQ [(2,.loc g 2 0 0),(3,.loc g2 2 0 0)] _ (upd (upd bl g (some ⟨2,[[.bool (decide (x<0)),.sl (iv (lim x.natAbs))]]⟩)) g2 (some ⟨2,[[.bool (decide (y<0)),.sl (iv (lim y.natAbs))]]⟩)) 5 (.bool false) (upd (upd bl g (some ⟨2,[[.bool (decide (x<0)),.sl (iv (lim x.natAbs))]]⟩)) g2 (some ⟨2,[[.bool (decide (y<0)),.sl (iv (lim y.natAbs))]]⟩)) ⟨rfl,by simp,Sub.refl _⟩ rfl (by simp[h1,h2,h2g,Ne.symm h2g]) ?_
  simp[h1,h2,h2g,Ne.symm h2g]
  refine bQ [(2,.loc g 2 0 0),(3,.loc g2 2 0 0)] _ (upd (upd bl g (some ⟨2,[[.bool (decide (x<0)),.sl (iv (lim x.natAbs))]]⟩)) g2 (some ⟨2,[[.bool (decide (y<0)),.sl (iv (lim y.natAbs))]]⟩)) 13 (.bool true) (upd (upd bl g (some ⟨2,[[.bool (decide (x<0)),.sl (iv (lim x.natAbs))]]⟩)) g2 (some ⟨2,[[.bool (decide (y<0)),.sl (iv (lim y.natAbs))]]⟩)) ⟨rfl,by simp,sub_eq (by simp[h1,h2])⟩ rfl (by simp[h1,h2,h2g,Ne.symm h2g]) ?_
  simp[h1,h2,h2g,Ne.symm h2g]
  have:hH x y=1:=by unfold hH;rw[if_neg (by omega),if_neg (by omega)]
  exact aJ [.int .i64 1] 0 (by simp) (by simp[frz,this]) (by simp[hg,hb2])
 ·refine bQ [(2,.loc g 2 0 0),(3,.loc g2 2 0 0)] _ (upd (upd bl g (some ⟨2,[[.bool (decide (x<0)),.sl (iv (lim x.natAbs))]]⟩)) g2 (some ⟨2,[[.bool (decide (y<0)),.sl (iv (lim y.natAbs))]]⟩)) 5 (.bool false) (upd (upd bl g (some ⟨2,[[.bool (decide (x<0)),.sl (iv (lim x.natAbs))]]⟩)) g2 (some ⟨2,[[.bool (decide (y<0)),.sl (iv (lim y.natAbs))]]⟩)) ⟨rfl,by simp,Sub.refl _⟩ rfl (by simp[h1,h2,h2g,Ne.symm h2g]) ?_
  simp[h1,h2,h2g,Ne.symm h2g]
  refine bQ [(2,.loc g 2 0 0),(3,.loc g2 2 0 0)] _ (upd (upd bl g (some ⟨2,[[.bool (decide (x<0)),.sl (iv (lim x.natAbs))]]⟩)) g2 (some ⟨2,[[.bool (decide (y<0)),.sl (iv (lim y.natAbs))]]⟩)) 13 (.bool false) (upd (upd bl g (some ⟨2,[[.bool (decide (x<0)),.sl (iv (lim x.natAbs))]]⟩)) g2 (some ⟨2,[[.bool (decide (y<0)),.sl (iv (lim y.natAbs))]]⟩)) ⟨rfl,by simp,sub_eq (by simp[h1,h2])⟩ rfl (by simp[h1,h2,h2g,Ne.symm h2g]) ?_
  simp[h1,h2,h2g,Ne.symm h2g]
  refine aD (lE _ _ hx hy) ?_
  simp
  refine aJ [.int .i64 (hH x y)] 0 ?_ (by simp[frz]) (by simp[hg,hb2])
  have:iX x.natAbs y.natAbs=hH x y:=by unfold iX hH;split<;>split<;>(try split)<;>(try split)<;>omega
  simp[this]
theorem nP (n:Nat):RO Tryz.prog 262 [.sl (iv (lim n))] (.bool (decide (n=1))):=by
 refine aH Tryz.func262 rfl rfl (by rw[Tryz.ntmps262];simp) fun bl=> ?_
 rw[Tryz.ntmps262,Tryz.results262]
 refine aB ?_
 simp
 refine bD [(0,.sl (iv (lim n)))] _ bl 2 (.bool (decide (n=1))) ⟨rfl,by simp,Sub.refl _⟩ rfl ?_ ?_
 ·simp
  by_cases h:(lim n).length=1
  ·obtain⟨k1,k2,k3⟩:=Vd h
   simp[h,aY n 0 (by omega),k1,uZ]
   rw[gL (by omega),k1]
   omega
  ·have hn:n≠1:=fun e=>h (by rw[e,Dg];rfl)
   have h2: ¬ ((lim n).length:Int)=1:=by omega
   simp[h,h2,hn]
 simp
 exact aP (by simp) rfl rfl
theorem Jm (a b:Rat) (ha:fits a) (hb:fits b):RO Tryz.prog 278 [.agg (rq a).c,.agg (rq b).c] (.int .i64 (G9 a b)):=by
 obtain⟨a1,a2⟩:=ha
 obtain⟨b1,b2⟩:=hb
 have n1:=fS a1 b2
 have n2:=fS b1 a2
 have e1:sg (decide (a.num<0)) (a.num.natAbs*b.den)=a.num*b.den:=by
  have:=sH a.num b.den
  have h0:decide (((b.den:Nat):Int)<0)=false:=decide_eq_false (by omega)
  rw[h0,Bool.bne_false,Int.natAbs_natCast] at this
  exact this
 have e2:sg (decide (b.num<0)) (b.num.natAbs*a.den)=b.num*a.den:=by
  have:=sH b.num a.den
  have h0:decide (((a.den:Nat):Int)<0)=false:=decide_eq_false (by omega)
  rw[h0,Bool.bne_false,Int.natAbs_natCast] at this
  exact this
 refine aH Tryz.func278 rfl rfl (by rw[Tryz.ntmps278];simp) fun bl=> ?_
 rw[Tryz.ntmps278,Tryz.results278]
 refine aE ?_
 rw[gW,gW]
 simp
 intro g hg0 hg g2 hg2 h2g hb2
 refine aB ?_
 simp
 refine bU aM (by kernel_rfl) ?_
 simp[h2g,Ne.symm h2g]
 refine aN (fH _ _ (by omega) (by omega)) ?_
 simp
 refine aN (eE _ _ (by omega)) ?_
 rw[e1]
 simp[h2g,Ne.symm h2g]
 refine aN (fH _ _ (by omega) (by omega)) ?_
 simp
 refine aN (eE _ _ (by omega)) ?_
 rw[e2]
 simp
 refine aN (Kv _ _ (by rw[←e1,qS];omega) (by rw[←e2,qS];omega)) ?_
 simp
 exact aJ [.int .i64 (G9 a b)] 0 (by simp[G9]) (by simp[frz]) (by simp[hg,hb2])
theorem dO (r:RT) (hm:r.m.length≤140737488351232) (hd:r.d.length≤140737488351232):RO Tryz.prog 213 [.agg r.c] (.bool (decide r.ok)):=by
 refine aH Tryz.func213 rfl rfl (by rw[Tryz.ntmps213];simp) fun bl=> ?_
 rw[Tryz.ntmps213,Tryz.results213]
 refine aB ?_
 simp[RT.c]
 intro g hg0 hg
 refine bQ [(1,.loc g 3 0 0)] _ (upd bl g (some ⟨3,[[.bool r.neg,.sl (iv r.m),.sl (iv r.d)]]⟩)) 31 (.bool r.bad) (upd bl g (some ⟨3,[[.bool r.neg,.sl (iv r.m),.sl (iv r.d)]]⟩)) ⟨rfl,by simp,Sub.refl _⟩ rfl ?_ ?_
 ·simp
  refine aD (vY r.neg r.m hm) ?_
  simp[RT.bad]
  refine⟨fun h=>by simp[h],fun h=> ?_⟩
  refine aD (mW r.d hd) ?_
  simp[h]
  refine⟨fun a=>by simp[a],fun a=>⟨fun b=>by simp[b],fun b=>⟨fun c=> .inr (by omega),fun c=> ?_⟩⟩⟩
  have c2: ¬ 24<r.d.length:=by omega
  simp[a,b,c2]
  omega
 simp
 refine⟨fun h=> ?_,fun h=> ?_⟩
 ·refine aJ [.bool false] 0 (by simp) ?_ (by simp[hg])
  have: ¬ r.ok:=fun hk=>by have:=(RT.Qe.1 hk).1;rw[h] at this;cases this
  simp[frz,this]
 ·obtain⟨l1,l2,l3,l4⟩:=RT.aU9 h
  rw[l1,l2]
  refine aD (M3 (val r.m) (val r.d) (by rw[←l1];omega) (by rw[←l2];omega)) ?_
  simp
  refine aD (nP _) ?_
  simp
  refine aJ [.bool (decide (Nat.gcd (val r.m) (val r.d)=1))] 0 (by simp) ?_ (by simp[hg])
  simp[frz,RT.Qe,h]
def sgq (x:Option Rat):Int:=match x with | some q=>q.num.sign | none=>0
theorem Et (r:RT) (hm:r.m.length≤140737488351232) (hd:r.d.length≤140737488351232):RO Tryz.prog 191 [.agg r.c] (.int .i64 (sgq (rd r))):=by
 have key:(decide r.ok=false∨r.m= []→sgq (rd r)=0)∧(r.ok→r.m≠ []→sgq (rd r)=if r.neg then -1 else 1):=by
  have Wj: ¬ r.ok→rd r=none:=fun h=>by unfold rd;rw[if_neg h]
  constructor
  ·rintro(h | h)
   ·rw[Wj (by simpa using h)];rfl
   ·cases hq:rd r with
    | none => rfl
    | some q =>
      obtain⟨hr,_⟩:=rd_some hq
      have:q.num=0:=by
       have:lim q.num.natAbs= []:=by rw[←h,hr];rfl
       have:=eJ.1 this;omega
      simp[sgq,this]
  ·intro h hm
   obtain⟨q,hq⟩: ∃q,rd r=some q:=⟨_,by unfold rd;rw[if_pos h]⟩
   obtain⟨hr,_⟩:=rd_some hq
   rw[hq]
   have h1:q.num≠0:=fun h0=>hm (by rw[hr];show lim q.num.natAbs= [];rw[h0];exact aU)
   have h2:r.neg=decide (q.num<0):=by rw[hr];rfl
   rw[h2]
   by_cases h3:q.num<0
   ·simp[sgq,h3,Int.sign_eq_neg_one_of_neg h3]
   ·simp[sgq,h3,Int.sign_eq_one_of_pos (show 0<q.num by omega)]
 refine aH Tryz.func191 rfl rfl (by rw[Tryz.ntmps191];simp) fun bl=> ?_
 rw[Tryz.ntmps191,Tryz.results191]
 refine aB ?_
 simp[RT.c]
 intro g hg0 hg
 refine bQ [(1,.loc g 3 0 0)] _ (upd bl g (some ⟨3,[[.bool r.neg,.sl (iv r.m),.sl (iv r.d)]]⟩)) 3 (.bool (!decide r.ok || decide (r.m= []))) (upd bl g (some ⟨3,[[.bool r.neg,.sl (iv r.m),.sl (iv r.d)]]⟩)) ⟨rfl,by simp,Sub.refl _⟩ rfl ?_ ?_
 ·simp
  refine aD (dO r hm hd) ?_
  simp[Wh]
  by_cases h:r.ok<;>simp[h]
 simp
 refine⟨fun h=> ?_,fun h1 h2=>⟨fun h3=> ?_,fun h3=> ?_⟩⟩
 ·exact aJ [.int .i64 0] 0 (by simp) (by rw[key.1 (by simpa using h)];simp[frz]) (by simp[hg])
 ·exact aJ [.int .i64 (-1)] 0 (by simp) (by rw[key.2 h1 h2,h3];simp[frz]) (by simp[hg])
 ·exact aJ [.int .i64 1] 0 (by simp) (by rw[key.2 h1 h2,h3];simp[frz]) (by simp[hg])

structure SP where
 lo:RT
 hi:RT
 nl:Bool
 nh:Bool
def SP.c (s:SP):List V:= [.bool s.lo.neg,.sl (iv s.lo.m),.sl (iv s.lo.d),.bool s.hi.neg,.sl (iv s.hi.m),.sl (iv s.hi.d),.bool s.nl,.bool s.nh]
def RT.le (r:RT) (k:Nat):Prop:=r.m.length≤k∧r.d.length≤k
def SP.le (s:SP) (k:Nat):Prop:=s.lo.le k∧s.hi.le k
def aKP (s:SP):Bool:=match rd s.lo,rd s.hi with
 | some a, some b => (s.nl && decide (a.num.sign ≠ 0)) || (s.nh && decide (b.num.sign ≠ 0))
 | _, _ => true
def aC9 (s:SP):Bool:=match rd s.lo,rd s.hi with
 | some a, some b => (s.nl || s.nh) || decide (G9 a b ≤ 0)
 | _, _ => false
def aTQ (s:SP):Bool:= !aKP s && aC9 s

theorem J0 (x y:Int) (hx:(lim x.natAbs).length≤59) (hy:(lim y.natAbs).length≤59):RO Tryz.prog 264 [.agg (biC x),.agg (biC y)] (.agg (biC (x+y))):=by
 have hb:=tI hx hy
 refine aH Tryz.func264 rfl rfl (by rw[Tryz.ntmps264];simp) fun bl=> ?_
 rw[Tryz.ntmps264,Tryz.results264]
 refine aE ?_
 rw[bO x,bO y]
 simp
 intro g hg0 hg g2 hg2 h2g hb2 g3 hg3 h32 h3g hb3
 refine aB ?_
 simp[h2g,Ne.symm h2g,h32,Ne.symm h32,h3g,Ne.symm h3g]
 refine⟨fun hs=> ?_,fun hs=> ?_⟩
 ·refine aW aM (upd (upd bl g (some ⟨2,[[.bool (decide (x<0)),.sl (iv (lim x.natAbs))]]⟩)) g2 (some ⟨2,[[.bool (decide (y<0)),.sl (iv (lim y.natAbs))]]⟩)) (by simp[h32,h3g,hb3]) [0,1,2,3,4,5,6,7] 1 (by kernel_rfl) ?_
  simp[h2g,Ne.symm h2g,h32,Ne.symm h32,h3g,Ne.symm h3g]
  refine aN (Kq _ _ (by omega) (by omega)) ?_
  simp[h2g,Ne.symm h2g,h32,Ne.symm h32,h3g,Ne.symm h3g]
  refine aN (eE _ _ (by omega)) ?_
  simp[h2g,Ne.symm h2g,h32,Ne.symm h32,h3g,Ne.symm h3g]
  refine Dz 8 ?_
  simp[h2g,Ne.symm h2g,h32,Ne.symm h32,h3g,Ne.symm h3g]
  refine⟨by simp[h32,h3g,hb3],Dy ?_⟩
  rw[wV hs]
  simp[h2g,Ne.symm h2g,h32,Ne.symm h32,h3g,Ne.symm h3g]
  exact aJ [.agg (biC (x+y))] 1 (by simp[biC,h2g,Ne.symm h2g,h32,Ne.symm h32,h3g,Ne.symm h3g]) kO (by simp[hg,hb2,hb3])
 refine aD (lE _ _ (by omega) (by omega)) ?_
 simp[h2g,Ne.symm h2g,h32,Ne.symm h32,h3g,Ne.symm h3g,Gw]
 refine⟨fun hle=> ?_,fun hle=> ?_⟩
 ·refine aW aM (upd (upd bl g (some ⟨2,[[.bool (decide (x<0)),.sl (iv (lim x.natAbs))]]⟩)) g2 (some ⟨2,[[.bool (decide (y<0)),.sl (iv (lim y.natAbs))]]⟩)) (by simp[h32,h3g,hb3]) [0,1,2,3,4,5,6,7] 1 (by kernel_rfl) ?_
  simp[h2g,Ne.symm h2g,h32,Ne.symm h32,h3g,Ne.symm h3g]
  refine aN (vI _ _ hle (by omega)) ?_
  simp[h2g,Ne.symm h2g,h32,Ne.symm h32,h3g,Ne.symm h3g]
  refine aN (eE _ _ (kK (Nat.sub_le _ _) (by omega))) ?_
  simp[h2g,Ne.symm h2g,h32,Ne.symm h32,h3g,Ne.symm h3g]
  refine Dz 8 ?_
  simp[h2g,Ne.symm h2g,h32,Ne.symm h32,h3g,Ne.symm h3g]
  refine⟨by simp[h32,h3g,hb3],Dy ?_⟩
  rw[mO hs hle]
  simp[h2g,Ne.symm h2g,h32,Ne.symm h32,h3g,Ne.symm h3g]
  exact aJ [.agg (biC (x+y))] 1 (by simp[biC,h2g,Ne.symm h2g,h32,Ne.symm h32,h3g,Ne.symm h3g]) kO (by simp[hg,hb2,hb3])
 ·refine aW aM (upd (upd bl g (some ⟨2,[[.bool (decide (x<0)),.sl (iv (lim x.natAbs))]]⟩)) g2 (some ⟨2,[[.bool (decide (y<0)),.sl (iv (lim y.natAbs))]]⟩)) (by simp[h32,h3g,hb3]) [0,1,2,3,4,5,6,7] 1 (by kernel_rfl) ?_
  simp[h2g,Ne.symm h2g,h32,Ne.symm h32,h3g,Ne.symm h3g]
  refine aN (vI _ _ (by omega) (by omega)) ?_
  simp[h2g,Ne.symm h2g,h32,Ne.symm h32,h3g,Ne.symm h3g]
  refine aN (eE _ _ (kK (Nat.sub_le _ _) (by omega))) ?_
  simp[h2g,Ne.symm h2g,h32,Ne.symm h32,h3g,Ne.symm h3g]
  refine Dz 8 ?_
  simp[h2g,Ne.symm h2g,h32,Ne.symm h32,h3g,Ne.symm h3g]
  refine⟨by simp[h32,h3g,hb3],Dy ?_⟩
  rw[mO (x:=y) (y:=x) (fun hh=>hs ⟨hh.2,hh.1⟩) (by omega),Int.add_comm y x]
  simp[h2g,Ne.symm h2g,h32,Ne.symm h32,h3g,Ne.symm h3g]
  exact aJ [.agg (biC (x+y))] 1 (by simp[biC,h2g,Ne.symm h2g,h32,Ne.symm h32,h3g,Ne.symm h3g]) kO (by simp[hg,hb2,hb3])
def zG (neg:Bool) (a b:Nat):Option Rat:=if b=0 then none else fit (mkRat (sg neg a) b)
theorem yS {bl bl0:Int→Option Blk} {g:Int} {ns ms:List Int} {b:Bool} (h0:0≤g∨ns= []) (hg:bl0 g=none) (hb:bl g=some ⟨1,iv ns⟩):frz (dropB bl bl0) 2 (.agg [.bool b,.sl (iv ms),.lsl g 1 0 ns.length])=some (.agg [.bool b,.sl (iv ms),.sl (iv ns)]):=by
 have h1:=rD h0 hg hb
 have h2:frz (dropB bl bl0) 1 (.bool b)=some (.bool b):=by simp[frz]
 have h3:frz (dropB bl bl0) 1 (.sl (iv ms))=some (.sl (iv ms)):=by simp[frz]
 rw[mF]
 simp only[List.mapM_cons,List.mapM_nil,h1,h2,h3]
 rfl
theorem aDC (neg:Bool) (a b:Nat) (hb:b≠0):(rq (mkRat (sg neg a) b)).c=biC (sg neg (a / Nat.gcd a b))++ [.sl (iv (lim (b / Nat.gcd a b)))]:=by
 have hg:0<Nat.gcd a b:=Nat.gcd_pos_of_pos_right _ (by omega)
 rw[Hj _ hb,RT.c,qS,bO,qS]
 simp only[List.cons_append,List.nil_append]
 rw[Fk,Fk]
 have:(0<a / Nat.gcd a b) ↔ 0<a:=by
  constructor
  ·intro h;rcases Nat.eq_zero_or_pos a with h0 | h0
   ·rw[h0] at h;simp at h
   ·exact h0
  ·intro h;exact Nat.div_pos (Nat.gcd_le_left _ h) hg
 rw[decide_eq_decide.2 this]
theorem qU (neg:Bool) (a b:Nat) (ha:(lim a).length≤60) (hb:(lim b).length≤60):RO Tryz.prog 265 [.bool neg,.sl (iv (lim a)),.sl (iv (lim b))] (.agg (ro (zG neg a b)).c):=by
 have bH: ∀m,((iv (lim m)).all fun c=>c.length==1 && c.all V.one)=true:=fun m=>by simp[iv]
 refine aH Tryz.func265 rfl rfl (by rw[Tryz.ntmps265];simp) fun bl=> ?_
 rw[Tryz.ntmps265,Tryz.results265]
 refine aE ?_
 simp
 intro g hg0 hg
 refine aE ?_
 simp
 refine aD (gJ (lim a) (gG a) (by omega)) ?_
 rw[eX]
 simp
 refine aE ?_
 simp
 refine aD (gJ (lim b) (gG b) (by omega)) ?_
 rw[eX]
 simp
 refine aE ?_
 simp
 refine⟨fun h=> ?_,fun h=> ?_⟩
 ·have hb0:b=0:=by simpa [eJ] using h
  exact aJ [.agg [.bool false,.nils,.nils]] 1 (by simp) (by simp[frz,zG,hb0,ro,rz,RT.c,V.cl,iv]) (by simp[hg])
 have hb0:b≠0:=fun e=>h (by rw[e,aU])
 have hg1:=Nat.gcd_pos_of_pos_right a (show 0<b by omega)
 refine iD (fun _:Unit=> [(0,.bool neg),(6,.loc g 3 0 0),(7,.sl (iv (lim (a / Nat.gcd a b)))),(8,.sl (iv (lim (b / Nat.gcd a b))))]) (fun _=>upd bl g (some ⟨3,[[.bool false,.nils,.nils]]⟩)) (fun _=>True) 55 ?_ ?_
 ·refine aB ?_
  simp
  refine aD (nP _) ?_
  simp
  refine⟨fun h1=> ?_,fun h1=> ?_⟩
  ·refine aD (M3 _ _ (by omega) (by omega)) ?_
   simp
   refine aD (nP _) ?_
   simp
   refine⟨fun h2=> ?_,fun h2=> ?_⟩
   ·have hgl:=Ig ha hb
    refine aD (wD a (Nat.gcd a b) hg1 (by omega) (by omega)) ?_
    simp
    refine aD (wD b (Nat.gcd a b) hg1 (by omega) (by omega)) ?_
    simp[aI]
    exact⟨rfl,by simp,Sub.refl _⟩
   ·simp[aI]
    exact⟨rfl,by simp[h2],Sub.refl _⟩
  ·have h2:Nat.gcd a b=1:=by rw[h1];exact Nat.gcd_one_right a
   simp[aI]
   exact⟨rfl,by simp[h2],Sub.refl _⟩
 intro _ _
 have e2:=aDC neg a b hb0
 have hx:(lim (a / Nat.gcd a b)).length≤60:=kK (Nat.div_le_self _ _) ha
 have hy:(lim (b / Nat.gcd a b)).length≤60:=kK (Nat.div_le_self _ _) hb
 have hr:ro (zG neg a b)=if(lim (a / Nat.gcd a b)).length≤24∧(lim (b / Nat.gcd a b)).length≤24 then rq (mkRat (sg neg a) b) else rz:=by
  have e3:=Hj (sg neg a) hb0
  have e4:fits (mkRat (sg neg a) b) ↔ (lim (a / Nat.gcd a b)).length≤24∧(lim (b / Nat.gcd a b)).length≤24:=by
   have e5:=congrArg RT.m e3
   have e6:=congrArg RT.d e3
   simp only[rq,qS] at e5 e6
   unfold fits
   rw[e5,e6]
  unfold zG fit
  rw[if_neg hb0]
  by_cases hf:fits (mkRat (sg neg a) b)
  ·rw[if_pos hf,if_pos (e4.1 hf)];rfl
  ·rw[if_neg hf,if_neg (fun h=>hf (e4.2 h))];rfl
 obtain⟨x,ex⟩: ∃x,a / Nat.gcd a b=x:=⟨_,rfl⟩
 obtain⟨y,ey⟩: ∃y,b / Nat.gcd a b=y:=⟨_,rfl⟩
 rw[ex,ey] at hr e2
 rw[ex] at hx
 rw[ey] at hy
 rw[ex,ey,hr]
 refine aB ?_
 simp
 refine bQ [(0,.bool neg),(6,.loc g 3 0 0),(7,.sl (iv (lim x))),(8,.sl (iv (lim y)))] _ _ 46 (.bool (!decide ((lim x).length≤24∧(lim y).length≤24))) (upd bl g (some ⟨3,[[.bool false,.nils,.nils]]⟩)) ⟨rfl,by simp,Sub.refl _⟩ rfl ?_ ?_
 ·simp
  refine⟨fun h=> ?_,fun h=> ?_⟩
  ·omega
  ·rw[Bool.eq_iff_iff]
   simp
   omega
 by_cases hc:(lim x).length≤24∧(lim y).length≤24
 ·simp only[hc,and_self,decide_true,Bool.not_true,if_true]
  simp
  refine aD (eE neg x (by omega)) ?_
  simp
  intro g1 hg1 h1g hb1
  simp[h1g,Ne.symm h1g,appV,elsV,Int.not_lt.2 hg1,bH]
  refine⟨by omega,fun g2 hg2 hb2=> ?_⟩
  have h2g:g2≠g:=by grind
  have Av:bl g2=none:=by grind
  have hnn:0≤g2∨lim y= []:=hg2.imp id (fun h=>by simpa [iv] using h)
  simp[h1g,Ne.symm h1g,h2g,Ne.symm h2g,bO,qS]
  refine aJ [.agg [.bool (decide (sg neg x<0)),.sl (iv (lim x)),.lsl g2 1 0 (lim y).length]] 2 (by simp[h1g,Ne.symm h1g,h2g,Ne.symm h2g]) ?_ (by simp[hg,hb1,Av,h1g,h2g])
  rw[e2,bO,qS]
  exact yS hnn Av (by simp[h2g])
 ·simp only[hc,decide_false,Bool.not_false,if_false]
  simp
  exact aJ [.agg [.bool false,.nils,.nils]] 1 (by simp) (by simp[frz,rz,RT.c,V.cl,iv]) (by simp[hg])
def nm (x:Option Rat):Int:=match x with | some q=>q.num | none=>0
def dn (x:Option Rat):Nat:=match x with | some q=>q.den | none=>0
theorem mY (x:Option Rat):(ro x).c= [.bool (decide (nm x<0)),.sl (iv (lim (nm x).natAbs)),.sl (iv (lim (dn x)))]:=by
 cases x
 ·show rz.c=_
  rw[show nm none=0 from rfl,show dn none=0 from rfl,Int.natAbs_zero,aU];rfl
 ·rfl
theorem tP {x:Option Rat} (h:okQ x):(lim (nm x).natAbs).length≤24∧(lim (dn x)).length≤24:=by
 cases x with
 | none => rw [show nm none = 0 from rfl, show dn none = 0 from rfl, Int.natAbs_zero, aU]; simp
 | some q => exact h q rfl
theorem oM {x:Option Rat} (h:okQ x):okQ (x.map (- ·)):=by
 intro q hq
 cases x with
 | none => cases hq
 | some a =>
   cases hq
   have:=h a rfl
   unfold fits at this ⊢
   rw[show(-a).num= -a.num from rfl,show(-a).den=a.den from rfl,Int.natAbs_neg];exact this
theorem aDB (x:Option Rat):nm (x.map (- ·))= - nm x:=by cases x with | none=>rfl | some q=>rfl
theorem aCN (x:Option Rat):dn (x.map (- ·))=dn x:=by cases x with | none=>rfl | some q=>rfl
theorem vE (x:Option Rat) (hx:okQ x):RO Tryz.prog 202 [.agg (ro x).c] (.agg (ro (x.map (- ·))).c):=by
 obtain⟨hm,hd⟩:=tP hx
 have bH: ∀m,((iv (lim m)).all fun c=>c.length==1 && c.all V.one)=true:=fun m=>by simp[iv]
 refine aH Tryz.func202 rfl rfl (by rw[Tryz.ntmps202];simp) fun bl=> ?_
 rw[Tryz.ntmps202,Tryz.results202]
 refine aE ?_
 rw[mY x]
 simp
 intro g hg0 hg g2 hg2 h2g hb2
 refine aB ?_
 simp
 refine aW aM (upd bl g (some ⟨3,[[.bool (decide (nm x<0)),.sl (iv (lim (nm x).natAbs)),.sl (iv (lim (dn x)))]]⟩)) (by simp[h2g,hb2]) [0,1,2,3,4,5,6,7,9,10] 4 (by kernel_rfl) ?_
 simp[h2g,Ne.symm h2g]
 refine aN (eE _ _ (by omega)) ?_
 rw[Mw]
 simp[h2g,Ne.symm h2g]
 refine Dz 8 ?_
 simp[h2g,Ne.symm h2g]
 intro g3 hg3 h32 h3g hb3
 refine⟨by simp[h2g,Ne.symm h2g,hb2,h3g,h32,hb3],Dz 11 ?_⟩
 simp[h2g,Ne.symm h2g,h3g,Ne.symm h3g,h32,Ne.symm h32,appV,elsV,Int.not_lt.2 hg3,bH]
 refine⟨by omega,fun g4 hg4 hb4=> ?_⟩
 have h4g:g4≠g:=by grind
 have h42:g4≠g2:=by grind
 have kQ:bl g4=none:=by grind
 have hnn:0≤g4∨lim (dn x)= []:=hg4.imp id (fun h=>by simpa [iv] using h)
 refine⟨by simp[h2g,Ne.symm h2g,hb2,h3g,h32,hb3,h4g,h42,kQ],Dz 12 ?_⟩
 simp[h2g,Ne.symm h2g,h3g,Ne.symm h3g,h32,Ne.symm h32,h4g,Ne.symm h4g,h42,Ne.symm h42,bO]
 refine⟨by simp[h2g,Ne.symm h2g,hb2,h3g,h32,hb3,h4g,h42,kQ],Dz 13 ?_⟩
 simp[h2g,Ne.symm h2g,h3g,Ne.symm h3g,h32,Ne.symm h32,h4g,Ne.symm h4g,h42,Ne.symm h42]
 refine⟨by simp[h2g,Ne.symm h2g,hb2,h3g,h32,hb3,h4g,h42,kQ],Dy ?_⟩
 simp
 refine aJ [.agg [.bool (decide (-nm x<0)),.sl (iv (lim (nm x).natAbs)),.lsl g4 1 0 (lim (dn x)).length]] 2 (by simp[h2g,Ne.symm h2g,h4g,Ne.symm h4g,h42,Ne.symm h42]) ?_ (by simp[hg,hb2,hb3,kQ,h2g,h4g,h42])
 rw[mY,aDB,aCN,Int.natAbs_neg]
 exact yS hnn kQ (by simp[h4g,h42])
theorem Kb (x y:Option Rat) (hx:okQ x) (hy:okQ y):RO Tryz.prog 279 [.agg (ro x).c,.agg (ro y).c] (.agg (ro (op2 (· * ·) x y)).c):=by
 obtain⟨hm,hd⟩:=tP hx
 obtain⟨hm2,hd2⟩:=tP hy
 have n1:=fS hm hm2
 have n2:=fS hd hd2
 have e:zG (decide (nm x<0) !=decide (nm y<0)) ((nm x).natAbs*(nm y).natAbs) (dn x*dn y)=op2 (· * ·) x y:=by
  unfold zG op2
  rw[sH]
  cases x with
  | none => simp [dn]
  | some a =>
    cases y with
    | none=>simp[dn]
    | some b=>
      rw[if_neg (show ¬ dn (some a)*dn (some b)=0 from Nat.mul_ne_zero a.den_nz b.den_nz)]
      simp only[nm,dn]
      rw[←Rat.mul_def']
 refine aH Tryz.func279 rfl rfl (by rw[Tryz.ntmps279];simp) fun bl=> ?_
 rw[Tryz.ntmps279,Tryz.results279]
 refine aE ?_
 rw[mY x,mY y]
 simp
 intro g hg0 hg g2 hg2 h2g hb2 g3 hg3 h32 h3g hb3
 refine aB ?_
 simp
 refine aW aM (upd (upd bl g (some ⟨3,[[.bool (decide (nm x<0)),.sl (iv (lim (nm x).natAbs)),.sl (iv (lim (dn x)))]]⟩)) g2 (some ⟨3,[[.bool (decide (nm y<0)),.sl (iv (lim (nm y).natAbs)),.sl (iv (lim (dn y)))]]⟩)) (by simp[h32,h3g,hb3]) [0,1,2,3,4,5,6,7,8,9,10,11,12,13,14,15,16,17,18,19] 1 (by kernel_rfl) ?_
 simp[h2g,Ne.symm h2g,h32,Ne.symm h32,h3g,Ne.symm h3g]
 refine aN (fH _ _ (by omega) (by omega)) ?_
 simp[h2g,Ne.symm h2g,h32,Ne.symm h32,h3g,Ne.symm h3g]
 refine aN (fH _ _ (by omega) (by omega)) ?_
 simp[h2g,Ne.symm h2g,h32,Ne.symm h32,h3g,Ne.symm h3g]
 refine aN (qU _ _ _ (by omega) (by omega)) ?_
 rw[e]
 simp[h2g,Ne.symm h2g,h32,Ne.symm h32,h3g,Ne.symm h3g]
 refine Dz 20 ?_
 rw[mY (op2 _ x y)]
 simp[h2g,Ne.symm h2g,h32,Ne.symm h32,h3g,Ne.symm h3g]
 refine⟨by simp[h32,h3g,hb3],Dy ?_⟩
 simp[h2g,Ne.symm h2g,h32,Ne.symm h32,h3g,Ne.symm h3g]
 exact aJ [.agg (ro (op2 (· * ·) x y)).c] 1 (by rw[mY (op2 _ x y)];simp[h2g,Ne.symm h2g,h32,Ne.symm h32,h3g,Ne.symm h3g]) (by rw[mY (op2 _ x y)];simp[frz,V.cl]) (by simp[hg,hb2,hb3])
theorem qY (x y:Option Rat) (hx:okQ x) (hy:okQ y):RO Tryz.prog 214 [.agg (ro x).c,.agg (ro y).c] (.agg (ro (op2 (· + ·) x y)).c):=by
 obtain⟨hm,hd⟩:=tP hx
 obtain⟨hm2,hd2⟩:=tP hy
 have n1:=fS hm hd2
 have n2:=fS hm2 hd
 have n3:=fS hd hd2
 have e0: ∀(a:Int) (b:Nat),sg (decide (a<0)) (a.natAbs*b)=a*b:=fun a b=>by
  have:=sH a b
  have h0:decide (((b:Nat):Int)<0)=false:=decide_eq_false (by omega)
  rw[h0,Bool.bne_false,Int.natAbs_natCast] at this
  exact this
 have e: ∀n:Int,n=nm x*dn y+nm y*dn x→zG (decide (n<0)) n.natAbs (dn x*dn y)=op2 (· + ·) x y:=fun n hn=>by
  unfold zG op2
  rw[Hc,hn]
  cases x with
  | none => simp [dn]
  | some a =>
    cases y with
    | none=>simp[dn]
    | some b=>
      rw[if_neg (show ¬ dn (some a)*dn (some b)=0 from Nat.mul_ne_zero a.den_nz b.den_nz)]
      simp only[nm,dn]
      rw[←Rat.add_def']
 have o1:=nP (dn x)
 have o2:=nP (dn y)
 refine aH Tryz.func214 rfl rfl (by rw[Tryz.ntmps214];simp) fun bl=> ?_
 rw[Tryz.ntmps214,Tryz.results214]
 refine aE ?_
 rw[mY x,mY y]
 simp
 intro g hg0 hg g2 hg2 h2g hb2 g3 hg3 h32 h3g hb3
 refine aB ?_
 simp
 refine bQ [(2,.loc g 3 0 0),(3,.loc g2 3 0 0),(4,.loc g3 3 0 0)] _ _ 16 (.bool (decide (dn x=1)&& decide (dn y=1))) (upd (upd (upd bl g (some ⟨3,[[.bool (decide (nm x<0)),.sl (iv (lim (nm x).natAbs)),.sl (iv (lim (dn x)))]]⟩)) g2 (some ⟨3,[[.bool (decide (nm y<0)),.sl (iv (lim (nm y).natAbs)),.sl (iv (lim (dn y)))]]⟩)) g3 (some ⟨3,[[.bool false,.nils,.nils]]⟩)) ⟨rfl,by simp,Sub.refl _⟩ rfl ?_ ?_
 ·simp[h2g,Ne.symm h2g,h32,Ne.symm h32,h3g,Ne.symm h3g]
  refine aD o1 ?_
  simp[h2g,Ne.symm h2g,h32,Ne.symm h32,h3g,Ne.symm h3g]
  refine⟨fun h=> ?_,fun h=> ?_⟩
  ·refine aD o2 ?_
   simp[h]
  ·simp[h]
 have w:ro (op2 (· + ·) x y)=ro (op2 (· + ·) x y):=rfl
 by_cases fN:dn x=1∧dn y=1
 ·have e1:=e (nm x+nm y) (by rw[fN.1,fN.2];simp)
  rw[fN.1,fN.2] at e1
  have l1:(lim (nm x+nm y).natAbs).length≤25:=kK (Int.natAbs_add_le _ _) (tI hm hm2)
  simp[fN.1,fN.2,h2g,Ne.symm h2g,h32,Ne.symm h32,h3g,Ne.symm h3g]
  refine aD (J0 (nm x) (nm y) (by omega) (by omega)) ?_
  simp[h2g,Ne.symm h2g,h32,Ne.symm h32,h3g,Ne.symm h3g]
  intro g4 hg4
  intros
  have h4g: ¬ g4=g:=by assumption
  have h42: ¬ g4=g2:=by assumption
  have h43: ¬ g4=g3:=by assumption
  have hb4:bl g4=none:=by assumption
  simp[h2g,Ne.symm h2g,h32,Ne.symm h32,h3g,Ne.symm h3g,h4g,Ne.symm h4g,h42,Ne.symm h42,h43,Ne.symm h43,bO]
  intro g5 hg5
  intros
  have h5g: ¬ g5=g:=by assumption
  have h52: ¬ g5=g2:=by assumption
  have h53: ¬ g5=g3:=by assumption
  have h54: ¬ g5=g4:=by assumption
  have hb5:bl g5=none:=by assumption
  refine gZ 1 (upd (upd (upd (upd bl g (some ⟨3,[[.bool (decide (nm x<0)),.sl (iv (lim (nm x).natAbs)),.sl (iv (lim 1))]]⟩)) g2 (some ⟨3,[[.bool (decide (nm y<0)),.sl (iv (lim (nm y).natAbs)),.sl (iv (lim 1))]]⟩)) g3 (some ⟨3,[[.bool false,.nils,.nils]]⟩)) g4 (some ⟨2,[[.bool (decide (nm x+nm y<0)),.sl (iv (lim (nm x+nm y).natAbs))]]⟩)) [.bool (decide (nm x+nm y<0)),.sl (iv (lim (nm x+nm y).natAbs)),.sl (iv (lim 1))] (by simp[h2g,Ne.symm h2g,h32,Ne.symm h32,h3g,Ne.symm h3g,h4g,Ne.symm h4g,h42,Ne.symm h42,h43,Ne.symm h43,h5g,Ne.symm h5g,h52,Ne.symm h52,h53,Ne.symm h53,h54,Ne.symm h54,hb5]) (by simp[frz,dropB,V.cl,Dg,iv,Int.not_lt.2 hg5,h2g,Ne.symm h2g,h32,Ne.symm h32,h3g,Ne.symm h3g,h4g,Ne.symm h4g,h42,Ne.symm h42,h43,Ne.symm h43,h5g,Ne.symm h5g,h52,Ne.symm h52,h53,Ne.symm h53,h54,Ne.symm h54,hb5]) (qU _ _ 1 (by omega) (by rw[Dg];simp)) ?_
  rw[show zG (decide (nm x+nm y<0)) (nm x+nm y).natAbs 1=op2 (· + ·) x y from e1,mY (op2 _ x y)]
  simp[h2g,Ne.symm h2g,h32,Ne.symm h32,h3g,Ne.symm h3g,h4g,Ne.symm h4g,h42,Ne.symm h42,h43,Ne.symm h43,h5g,Ne.symm h5g,h52,Ne.symm h52,h53,Ne.symm h53,h54,Ne.symm h54]
  exact aJ [.agg (ro (op2 (· + ·) x y)).c] 1 (by rw[mY (op2 _ x y)];simp[h2g,Ne.symm h2g,h32,Ne.symm h32,h3g,Ne.symm h3g,h4g,Ne.symm h4g,h42,Ne.symm h42,h43,Ne.symm h43,h5g,Ne.symm h5g,h52,Ne.symm h52,h53,Ne.symm h53,h54,Ne.symm h54]) (by rw[mY (op2 _ x y)];simp[frz,V.cl]) (by simp[hg,hb2,hb3,hb4,hb5])
 ·have aN2:(decide (dn x=1)&& decide (dn y=1))=false:=by
   rw[Bool.eq_false_iff];simpa using fN
  rw[aN2]
  simp
  refine aW aM (upd (upd (upd bl g (some ⟨3,[[.bool (decide (nm x<0)),.sl (iv (lim (nm x).natAbs)),.sl (iv (lim (dn x)))]]⟩)) g2 (some ⟨3,[[.bool (decide (nm y<0)),.sl (iv (lim (nm y).natAbs)),.sl (iv (lim (dn y)))]]⟩)) g3 (some ⟨3,[[.bool false,.nils,.nils]]⟩)) (Sub.refl _) [0,1,2,3,4,5,6,7,8,9] 2 (by kernel_rfl) ?_
  simp[h2g,Ne.symm h2g,h32,Ne.symm h32,h3g,Ne.symm h3g]
  refine aN (fH _ _ (by omega) (by omega)) ?_
  simp[h2g,Ne.symm h2g,h32,Ne.symm h32,h3g,Ne.symm h3g]
  refine aN (eE _ _ (by omega)) ?_
  rw[e0]
  simp[h2g,Ne.symm h2g,h32,Ne.symm h32,h3g,Ne.symm h3g]
  refine Dz 10 ?_
  simp[h2g,Ne.symm h2g,h32,Ne.symm h32,h3g,Ne.symm h3g]
  intro g4 hg4
  intros
  have h4g: ¬ g4=g:=by assumption
  have h42: ¬ g4=g2:=by assumption
  have h43: ¬ g4=g3:=by assumption
  have hb4:bl g4=none:=by assumption
  refine⟨by simp[h2g,Ne.symm h2g,h32,Ne.symm h32,h3g,Ne.symm h3g,h4g,Ne.symm h4g,h42,Ne.symm h42,h43,Ne.symm h43,hb2,hb3,hb4],Dz 11 ?_⟩
  simp[h2g,Ne.symm h2g,h32,Ne.symm h32,h3g,Ne.symm h3g,h4g,Ne.symm h4g,h42,Ne.symm h42,h43,Ne.symm h43,bO]
  refine⟨by simp[h2g,Ne.symm h2g,h32,Ne.symm h32,h3g,Ne.symm h3g,h4g,Ne.symm h4g,h42,Ne.symm h42,h43,Ne.symm h43,hb2,hb3,hb4],Dy ?_⟩
  simp[h2g,Ne.symm h2g,h32,Ne.symm h32,h3g,Ne.symm h3g,h4g,Ne.symm h4g,h42,Ne.symm h42,h43,Ne.symm h43]
  refine aB ?_
  refine aW aM (upd (upd (upd (upd bl g (some ⟨3,[[.bool (decide (nm x<0)),.sl (iv (lim (nm x).natAbs)),.sl (iv (lim (dn x)))]]⟩)) g2 (some ⟨3,[[.bool (decide (nm y<0)),.sl (iv (lim (nm y).natAbs)),.sl (iv (lim (dn y)))]]⟩)) g3 (some ⟨3,[[.bool false,.nils,.nils]]⟩)) g4 (some ⟨2,[[.bool (decide (nm x*dn y<0)),.sl (iv (lim (nm x*dn y).natAbs))]]⟩)) (Sub.refl _) [0,1,2,3,4,5,6,7,8,9] 2 (by kernel_rfl) ?_
  simp[h2g,Ne.symm h2g,h32,Ne.symm h32,h3g,Ne.symm h3g,h4g,Ne.symm h4g,h42,Ne.symm h42,h43,Ne.symm h43]
  refine aN (fH _ _ (by omega) (by omega)) ?_
  simp[h2g,Ne.symm h2g,h32,Ne.symm h32,h3g,Ne.symm h3g,h4g,Ne.symm h4g,h42,Ne.symm h42,h43,Ne.symm h43]
  refine aN (eE _ _ (by omega)) ?_
  rw[e0]
  simp[h2g,Ne.symm h2g,h32,Ne.symm h32,h3g,Ne.symm h3g,h4g,Ne.symm h4g,h42,Ne.symm h42,h43,Ne.symm h43]
  refine Dz 10 ?_
  simp[h2g,Ne.symm h2g,h32,Ne.symm h32,h3g,Ne.symm h3g,h4g,Ne.symm h4g,h42,Ne.symm h42,h43,Ne.symm h43]
  intro g5 hg5
  intros
  have h5g: ¬ g5=g:=by assumption
  have h52: ¬ g5=g2:=by assumption
  have h53: ¬ g5=g3:=by assumption
  have h54: ¬ g5=g4:=by assumption
  have hb5:bl g5=none:=by assumption
  refine⟨by simp[h2g,Ne.symm h2g,h32,Ne.symm h32,h3g,Ne.symm h3g,h4g,Ne.symm h4g,h42,Ne.symm h42,h43,Ne.symm h43,h5g,Ne.symm h5g,h52,Ne.symm h52,h53,Ne.symm h53,h54,Ne.symm h54,hb2,hb3,hb4,hb5],Dz 11 ?_⟩
  simp[h2g,Ne.symm h2g,h32,Ne.symm h32,h3g,Ne.symm h3g,h4g,Ne.symm h4g,h42,Ne.symm h42,h43,Ne.symm h43,h5g,Ne.symm h5g,h52,Ne.symm h52,h53,Ne.symm h53,h54,Ne.symm h54,bO]
  refine⟨by simp[h2g,Ne.symm h2g,h32,Ne.symm h32,h3g,Ne.symm h3g,h4g,Ne.symm h4g,h42,Ne.symm h42,h43,Ne.symm h43,h5g,Ne.symm h5g,h52,Ne.symm h52,h53,Ne.symm h53,h54,Ne.symm h54,hb2,hb3,hb4,hb5],Dy ?_⟩
  simp[h2g,Ne.symm h2g,h32,Ne.symm h32,h3g,Ne.symm h3g,h4g,Ne.symm h4g,h42,Ne.symm h42,h43,Ne.symm h43,h5g,Ne.symm h5g,h52,Ne.symm h52,h53,Ne.symm h53,h54,Ne.symm h54]
  refine aD (J0 (nm x*dn y) (nm y*dn x) (by rw[Int.natAbs_mul,Int.natAbs_natCast];omega) (by rw[Int.natAbs_mul,Int.natAbs_natCast];omega)) ?_
  simp[h2g,Ne.symm h2g,h32,Ne.symm h32,h3g,Ne.symm h3g,h4g,Ne.symm h4g,h42,Ne.symm h42,h43,Ne.symm h43,h5g,Ne.symm h5g,h52,Ne.symm h52,h53,Ne.symm h53,h54,Ne.symm h54,bO]
  intro g6 hg6
  intros
  have h6g: ¬ g6=g:=by assumption
  have h62: ¬ g6=g2:=by assumption
  have h63: ¬ g6=g3:=by assumption
  have h64: ¬ g6=g4:=by assumption
  have h65: ¬ g6=g5:=by assumption
  have hb6:bl g6=none:=by assumption
  try simp[h2g,Ne.symm h2g,h32,Ne.symm h32,h3g,Ne.symm h3g,h4g,Ne.symm h4g,h42,Ne.symm h42,h43,Ne.symm h43,h5g,Ne.symm h5g,h52,Ne.symm h52,h53,Ne.symm h53,h54,Ne.symm h54,h6g,Ne.symm h6g,h62,Ne.symm h62,h63,Ne.symm h63,h64,Ne.symm h64,h65,Ne.symm h65]
  refine aB ?_
  refine aW aM (upd (upd (upd (upd (upd bl g (some ⟨3,[[.bool (decide (nm x<0)),.sl (iv (lim (nm x).natAbs)),.sl (iv (lim (dn x)))]]⟩)) g2 (some ⟨3,[[.bool (decide (nm y<0)),.sl (iv (lim (nm y).natAbs)),.sl (iv (lim (dn y)))]]⟩)) g4 (some ⟨2,[[.bool (decide (nm x*dn y<0)),.sl (iv (lim (nm x*dn y).natAbs))]]⟩)) g5 (some ⟨2,[[.bool (decide (nm y*dn x<0)),.sl (iv (lim (nm y*dn x).natAbs))]]⟩)) g6 (some ⟨2,[[.bool (decide (nm x*dn y+nm y*dn x<0)),.sl (iv (lim (nm x*dn y+nm y*dn x).natAbs))]]⟩)) (by intro z b hz;simp only[aC] at hz ⊢;grind) [0,1,2,3,4,5,6,7,8,9] 1 (by kernel_rfl) ?_
  simp[h2g,Ne.symm h2g,h32,Ne.symm h32,h3g,Ne.symm h3g,h4g,Ne.symm h4g,h42,Ne.symm h42,h43,Ne.symm h43,h5g,Ne.symm h5g,h52,Ne.symm h52,h53,Ne.symm h53,h54,Ne.symm h54,h6g,Ne.symm h6g,h62,Ne.symm h62,h63,Ne.symm h63,h64,Ne.symm h64,h65,Ne.symm h65]
  refine aN (fH _ _ (by omega) (by omega)) ?_
  simp[h2g,Ne.symm h2g,h32,Ne.symm h32,h3g,Ne.symm h3g,h4g,Ne.symm h4g,h42,Ne.symm h42,h43,Ne.symm h43,h5g,Ne.symm h5g,h52,Ne.symm h52,h53,Ne.symm h53,h54,Ne.symm h54,h6g,Ne.symm h6g,h62,Ne.symm h62,h63,Ne.symm h63,h64,Ne.symm h64,h65,Ne.symm h65]
  refine aN (qU _ _ _ ?_ (by omega)) ?_
  ·exact kK (Int.natAbs_add_le _ _) (by rw[Int.natAbs_mul,Int.natAbs_mul,Int.natAbs_natCast,Int.natAbs_natCast];have:=tI n1 n2;omega)
  rw[e _ rfl,mY (op2 _ x y)]
  simp[h2g,Ne.symm h2g,h32,Ne.symm h32,h3g,Ne.symm h3g,h4g,Ne.symm h4g,h42,Ne.symm h42,h43,Ne.symm h43,h5g,Ne.symm h5g,h52,Ne.symm h52,h53,Ne.symm h53,h54,Ne.symm h54,h6g,Ne.symm h6g,h62,Ne.symm h62,h63,Ne.symm h63,h64,Ne.symm h64,h65,Ne.symm h65]
  refine Dz 10 ?_
  simp[h2g,Ne.symm h2g,h32,Ne.symm h32,h3g,Ne.symm h3g,h4g,Ne.symm h4g,h42,Ne.symm h42,h43,Ne.symm h43,h5g,Ne.symm h5g,h52,Ne.symm h52,h53,Ne.symm h53,h54,Ne.symm h54,h6g,Ne.symm h6g,h62,Ne.symm h62,h63,Ne.symm h63,h64,Ne.symm h64,h65,Ne.symm h65]
  refine⟨by intro z b hz;simp only[aC] at hz ⊢;grind,Dy ?_⟩
  simp[h2g,Ne.symm h2g,h32,Ne.symm h32,h3g,Ne.symm h3g,h4g,Ne.symm h4g,h42,Ne.symm h42,h43,Ne.symm h43,h5g,Ne.symm h5g,h52,Ne.symm h52,h53,Ne.symm h53,h54,Ne.symm h54,h6g,Ne.symm h6g,h62,Ne.symm h62,h63,Ne.symm h63,h64,Ne.symm h64,h65,Ne.symm h65]
  exact aJ [.agg (ro (op2 (· + ·) x y)).c] 1 (by rw[mY (op2 _ x y)];simp[h2g,Ne.symm h2g,h32,Ne.symm h32,h3g,Ne.symm h3g,h4g,Ne.symm h4g,h42,Ne.symm h42,h43,Ne.symm h43,h5g,Ne.symm h5g,h52,Ne.symm h52,h53,Ne.symm h53,h54,Ne.symm h54,h6g,Ne.symm h6g,h62,Ne.symm h62,h63,Ne.symm h63,h64,Ne.symm h64,h65,Ne.symm h65]) (by rw[mY (op2 _ x y)];simp[frz,V.cl]) (by simp[hg,hb2,hb3,hb4,hb5,hb6])
theorem E1 {x:Option Rat} (h:okQ x):rd (ro x)=x:=by
 cases x with
 | none => exact aJ5
 | some q => exact Hz (h q rfl)
theorem Kl (r s:RT) (hr:r.le 1048576) (hs:s.le 1048576):RO Tryz.prog 139 [.agg r.c,.agg s.c] (.agg (ro (op2 (· - ·) (rd r) (rd s))).c):=by
 have k1:=dO r (by have:=hr.1;omega) (by have:=hr.2;omega)
 have k2:=dO s (by have:=hs.1;omega) (by have:=hs.2;omega)
 refine aH Tryz.func139 rfl rfl (by rw[Tryz.ntmps139];simp) fun bl=> ?_
 rw[Tryz.ntmps139,Tryz.results139]
 refine aE ?_
 rw[mY (op2 _ _ _)]
 simp[RT.c]
 intro g hg0 hg g2 hg2 h2g hb2 g3 hg3 h32 h3g hb3
 refine aB ?_
 simp
 refine bQ [(2,.loc g 3 0 0),(3,.loc g2 3 0 0),(4,.loc g3 3 0 0)] _ (upd (upd (upd bl g (some ⟨3,[r.c]⟩)) g2 (some ⟨3,[s.c]⟩)) g3 (some ⟨3,[[.bool false,.nils,.nils]]⟩)) 12 (.bool (!decide r.ok || !decide s.ok)) (upd (upd (upd bl g (some ⟨3,[r.c]⟩)) g2 (some ⟨3,[s.c]⟩)) g3 (some ⟨3,[[.bool false,.nils,.nils]]⟩)) ⟨rfl,by simp,sub_eq (by simp[RT.c])⟩ rfl ?_ ?_
 ·simp[RT.c,h2g,Ne.symm h2g,h32,Ne.symm h32,h3g,Ne.symm h3g]
  refine aD k1 ?_
  simp[h2g,Ne.symm h2g,h32,Ne.symm h32,h3g,Ne.symm h3g]
  refine⟨fun h=> ?_,fun h=> ?_⟩
  ·simp[h]
  ·simp[h,h2g,Ne.symm h2g,h32,Ne.symm h32,h3g,Ne.symm h3g]
   refine aD k2 ?_
   simp[h]
 by_cases h1:r.ok
 ·by_cases h2:s.ok
  ·obtain⟨a,ea⟩: ∃q,rd r=some q:=⟨_,by unfold rd;rw[if_pos h1]⟩
   obtain⟨b,eb⟩: ∃q,rd s=some q:=⟨_,by unfold rd;rw[if_pos h2]⟩
   obtain⟨ra,fa⟩:=rd_some ea
   obtain⟨sb,fb⟩:=rd_some eb
   have oa:okQ (some a):=fun q h=>by cases h;exact fa
   have ob:okQ (some b):=fun q h=>by cases h;exact fb
   have c1:=vE (some b) ob
   have c2:=qY (some a) (some (-b)) oa (oM ob)
   have er:op2 (· + ·) (some a) (some (-b))=op2 (· - ·) (rd r) (rd s):=by
    rw[ea,eb];unfold op2;simp only;rw[Rat.sub_eq_add_neg]
   rw[er] at c2
   clear er
   generalize op2 (· - ·) (rd r) (rd s)=z at c2 ⊢
   rw[mY z] at c2
   rw[show(ro (some b))=s from sb.symm] at c1
   rw[show(ro (some a))=r from ra.symm] at c2
   simp[h1,h2]
   refine aW aM (upd (upd bl g (some ⟨3,[r.c]⟩)) g2 (some ⟨3,[s.c]⟩)) (by simp[RT.c,h2g,Ne.symm h2g,h32,Ne.symm h32,h3g,Ne.symm h3g,hb3]) [0,1,2,3] 1 (by kernel_rfl) ?_
   simp[h2g,Ne.symm h2g,h32,Ne.symm h32,h3g,Ne.symm h3g,RT.c]
   refine aN c1 ?_
   simp[h2g,Ne.symm h2g,h32,Ne.symm h32,h3g,Ne.symm h3g]
   refine aN c2 ?_
   simp[h2g,Ne.symm h2g,h32,Ne.symm h32,h3g,Ne.symm h3g]
   refine Dz 4 ?_
   simp[h2g,Ne.symm h2g,h32,Ne.symm h32,h3g,Ne.symm h3g]
   refine⟨by simp[h32,h3g,hb3],Dy ?_⟩
   simp[h2g,Ne.symm h2g,h32,Ne.symm h32,h3g,Ne.symm h3g]
   exact aJ [.agg [.bool (decide (nm z<0)),.sl (iv (lim (nm z).natAbs)),.sl (iv (lim (dn z)))]] 1 (by simp[h2g,Ne.symm h2g,h32,Ne.symm h32,h3g,Ne.symm h3g]) (by simp[frz,V.cl]) (by simp[hg,hb2,hb3])
  ·have eb:rd s=none:=by unfold rd;rw[if_neg h2]
   have er:op2 (· - ·) (rd r) (rd s)=none:=by rw[eb];cases rd r<;>rfl
   rw[er]
   simp[h1,h2]
   exact aJ [.agg [.bool false,.nils,.nils]] 1 (by simp[h2g,Ne.symm h2g,h32,Ne.symm h32,h3g,Ne.symm h3g]) (by simp[frz,nm,dn,V.cl,iv,aU]) (by simp[hg,hb2,hb3])
 ·have eb:rd r=none:=by unfold rd;rw[if_neg h1]
  have er:op2 (· - ·) (rd r) (rd s)=none:=by rw[eb];rfl
  rw[er]
  simp[h1]
  exact aJ [.agg [.bool false,.nils,.nils]] 1 (by simp[h2g,Ne.symm h2g,h32,Ne.symm h32,h3g,Ne.symm h3g]) (by simp[frz,nm,dn,V.cl,iv,aU]) (by simp[hg,hb2,hb3])

theorem O5 {n:Int} (h0:0≤n) (h1:n≤18446744073709551615):IntKind.u64.wrap n=n:=IntWalk.u64_in _ ⟨by omega,by omega⟩
theorem sN (n:Int) (hn: -9223372036854775808≤n∧n≤9223372036854775807):RO Tryz.prog 160 [.int .i64 n] (.agg (biC n)):=by
 refine aH Tryz.func160 rfl rfl (by rw[Tryz.ntmps160];simp) fun bl=> ?_
 rw[Tryz.ntmps160,Tryz.results160]
 refine aB ?_
 simp
 intro g hg0 hg
 refine⟨fun h=> ?_,fun h=> ?_⟩
 ·have e:IntKind.u64.wrap (IntKind.u64.wrap (IntKind.i64.wrap (-IntKind.i64.wrap (n+1)))+1)=(n.natAbs:Int):=by
   have w1:IntKind.i64.wrap (n+1)=n+1:=i64_in (by omega) (by omega)
   have w2:IntKind.i64.wrap (-(n+1))= -(n+1):=i64_in (by omega) (by omega)
   have w3:IntKind.u64.wrap (-(n+1))= -(n+1):=O5 (by omega) (by omega)
   have w4:IntKind.u64.wrap (-(n+1)+1)= -(n+1)+1:=O5 (by omega) (by omega)
   rw[w1,w2,w3,w4]
   omega
  rw[e]
  refine aD (sL n.natAbs (by omega)) ?_
  simp
  refine aD (gA true n.natAbs) ?_
  have e2:sg true n.natAbs=n:=by unfold sg;simp;omega
  rw[e2,bO]
  simp
  exact aJ [.agg (biC n)] 1 (by simp[bO]) (by simp[frz,bO,V.cl]) (by simp[hg])
 ·have e:IntKind.u64.wrap n=(n.natAbs:Int):=by rw[O5 (by omega) (by omega)];omega
  rw[e]
  refine aD (sL n.natAbs (by omega)) ?_
  simp
  refine aD (gA false n.natAbs) ?_
  have e2:sg false n.natAbs=n:=by unfold sg;simp;omega
  rw[e2,bO]
  simp
  exact aJ [.agg (biC n)] 1 (by simp[bO]) (by simp[frz,bO,V.cl]) (by simp[hg])
theorem Ae (n:Int) (hn: -9223372036854775808<n∧n≤9223372036854775807):RO Tryz.prog 215 [.int .i64 n] (.agg (biC n)):=by
 have hl:(lim n.natAbs).length≤60:=aL.2 (Nat.lt_of_le_of_lt (show n.natAbs≤9223372036854775808 by omega) (by decide+kernel))
 refine aH Tryz.func215 rfl rfl (by rw[Tryz.ntmps215];simp) fun bl=> ?_
 rw[Tryz.ntmps215,Tryz.results215]
 refine aB ?_
 simp
 intro g hg0 hg
 have h0: ¬ n= -9223372036854775808:=by omega
 simp[h0]
 refine⟨fun h=> ?_,fun h=> ?_⟩
 ·have e:IntKind.i64.wrap (-n)=(n.natAbs:Int):=by rw[i64_in (by omega) (by omega)];omega
  try rw[e]
  refine aD (fW n.natAbs (by omega)) ?_
  simp
  refine aD (eE true n.natAbs hl) ?_
  have e2:sg true n.natAbs=n:=by unfold sg;simp;omega
  rw[e2,bO]
  simp
  exact aJ [.agg (biC n)] 1 (by simp[bO]) (by simp[frz,bO,V.cl]) (by simp[hg])
 ·have e:n=(n.natAbs:Int):=by omega
  have hN:=fW n.natAbs (by omega)
  rw[←e] at hN
  refine aD hN ?_
  simp
  refine aD (eE false n.natAbs hl) ?_
  have e2:sg false n.natAbs=n:=by unfold sg;simp;omega
  rw[e2,bO]
  simp
  exact aJ [.agg (biC n)] 1 (by simp[bO]) (by simp[frz,bO,V.cl]) (by simp[hg])
theorem Pk (n:Int):(rq (n:Rat)).c= [.bool (decide (n<0)),.sl (iv (lim n.natAbs)),.sl [[.int .i64 1]]]:=by
 rw[gW]
 show [V.bool (decide (n<0)),V.sl (iv (lim n.natAbs)),V.sl (iv (lim 1))]=_
 rw[Dg];rfl
theorem dP (n:Int) (hn: -9223372036854775808<n∧n≤9223372036854775807):RO Tryz.prog 138 [.int .i64 n] (.agg (ro (some (n:Rat))).c):=by
 refine aH Tryz.func138 rfl rfl (by rw[Tryz.ntmps138];simp) fun bl=> ?_
 rw[Tryz.ntmps138,Tryz.results138]
 refine aB ?_
 rw[show(ro (some (n:Rat))).c=_ from Pk n]
 simp
 intro g hg0 hg
 refine aD (Ae n hn) ?_
 simp[bO]
 intro g1 hg1 h1g hb1
 simp[h1g,Ne.symm h1g]
 refine aJ [.agg [.bool (decide (n<0)),.sl (iv (lim n.natAbs)),.lsl g1 1 0 1]] 2 (by simp[h1g,Ne.symm h1g]) ?_ (by simp[hg,hb1])
 exact yS (ns:= [1]) (.inl hg1) hb1 (by simp[h1g,iv])
theorem C1 (n:Int) (hn: -9223372036854775808≤n∧n≤9223372036854775807):RO Tryz.prog 83 [.int .i64 n] (fv (some (n:Rat))):=by
 refine aH Tryz.func83 rfl rfl (by rw[Tryz.ntmps83];simp) fun bl=> ?_
 rw[Tryz.ntmps83,Tryz.results83]
 refine aB ?_
 rw[show fv (some (n:Rat))= .ptr (rq (n:Rat)).c from rfl,Pk n]
 simp
 refine aD (sN n hn) ?_
 simp[bO]
 intro g1 hg1 hb1 g2 hg2 h21 hb2
 refine aJ [.loc g2 3 0 0] 2 (by simp[h21,Ne.symm h21]) ?_ (by simp[hb1,hb2])
 have h1:=yS (bl0:=bl) (ms:=lim n.natAbs) (b:=decide (n<0)) (ns:= [1]) (g:=g1) (.inl hg1) hb1 (bl:=upd (upd bl g1 (some ⟨1,iv [1]⟩)) g2 (some ⟨3,[[.bool (decide (n<0)),.sl (iv (lim n.natAbs)),.lsl g1 1 0 1]]⟩)) (by simp[h21,Ne.symm h21])
 rw[mF] at h1
 show frz _ 2 (.loc g2 3 0 0)=_
 rw[qQ (e:= [.bool (decide (n<0)),.sl (iv (lim n.natAbs)),.lsl g1 1 0 1]) (by simp[dropB,hb2])]
 obtain⟨e',he,h2⟩:=Option.map_eq_some_iff.1 h1
 cases h2
 exact(congrArg (Option.map V.ptr) he).trans rfl
theorem Jn (r s:RT) (hr:r.le 1048576) (hs:s.le 1048576):RO Tryz.prog 137 [.agg r.c,.agg s.c] (.agg (ro (op2 (· + ·) (rd r) (rd s))).c):=by
 have k1:=dO r (by have:=hr.1;omega) (by have:=hr.2;omega)
 have k2:=dO s (by have:=hs.1;omega) (by have:=hs.2;omega)
 refine aH Tryz.func137 rfl rfl (by rw[Tryz.ntmps137];simp) fun bl=> ?_
 rw[Tryz.ntmps137,Tryz.results137]
 refine aE ?_
 rw[mY (op2 _ _ _)]
 simp[RT.c]
 intro g hg0 hg g2 hg2 h2g hb2 g3 hg3 h32 h3g hb3
 refine aB ?_
 simp
 refine bQ [(2,.loc g 3 0 0),(3,.loc g2 3 0 0),(4,.loc g3 3 0 0)] _ (upd (upd (upd bl g (some ⟨3,[r.c]⟩)) g2 (some ⟨3,[s.c]⟩)) g3 (some ⟨3,[[.bool false,.nils,.nils]]⟩)) 12 (.bool (!decide r.ok || !decide s.ok)) (upd (upd (upd bl g (some ⟨3,[r.c]⟩)) g2 (some ⟨3,[s.c]⟩)) g3 (some ⟨3,[[.bool false,.nils,.nils]]⟩)) ⟨rfl,by simp,sub_eq (by simp[RT.c])⟩ rfl ?_ ?_
 ·simp[RT.c,h2g,Ne.symm h2g,h32,Ne.symm h32,h3g,Ne.symm h3g]
  refine aD k1 ?_
  simp[h2g,Ne.symm h2g,h32,Ne.symm h32,h3g,Ne.symm h3g]
  refine⟨fun h=> ?_,fun h=> ?_⟩
  ·simp[h]
  ·simp[h,h2g,Ne.symm h2g,h32,Ne.symm h32,h3g,Ne.symm h3g]
   refine aD k2 ?_
   simp[h]
 by_cases h1:r.ok
 ·by_cases h2:s.ok
  ·obtain⟨a,ea⟩: ∃q,rd r=some q:=⟨_,by unfold rd;rw[if_pos h1]⟩
   obtain⟨b,eb⟩: ∃q,rd s=some q:=⟨_,by unfold rd;rw[if_pos h2]⟩
   obtain⟨ra,fa⟩:=rd_some ea
   obtain⟨sb,fb⟩:=rd_some eb
   have oa:okQ (some a):=fun q h=>by cases h;exact fa
   have ob:okQ (some b):=fun q h=>by cases h;exact fb
   have c2:=qY (some a) (some b) oa ob
   rw[←ea,←eb] at c2
   generalize op2 (· + ·) (rd r) (rd s)=z at c2 ⊢
   rw[mY z] at c2
   rw[ea,eb,show(ro (some a))=r from ra.symm,show(ro (some b))=s from sb.symm] at c2
   simp[h1,h2,RT.c,h2g,Ne.symm h2g,h32,Ne.symm h32,h3g,Ne.symm h3g]
   refine aD c2 ?_
   simp[h2g,Ne.symm h2g,h32,Ne.symm h32,h3g,Ne.symm h3g]
   exact aJ [.agg [.bool (decide (nm z<0)),.sl (iv (lim (nm z).natAbs)),.sl (iv (lim (dn z)))]] 1 (by simp[h2g,Ne.symm h2g,h32,Ne.symm h32,h3g,Ne.symm h3g]) (by simp[frz,V.cl]) (by simp[hg,hb2,hb3])
  ·have eb:rd s=none:=by unfold rd;rw[if_neg h2]
   have er:op2 (· + ·) (rd r) (rd s)=none:=by rw[eb];cases rd r<;>rfl
   rw[er]
   simp[h1,h2]
   exact aJ [.agg [.bool false,.nils,.nils]] 1 (by simp[h2g,Ne.symm h2g,h32,Ne.symm h32,h3g,Ne.symm h3g]) (by simp[frz,nm,dn,V.cl,iv,aU]) (by simp[hg,hb2,hb3])
 ·have eb:rd r=none:=by unfold rd;rw[if_neg h1]
  have er:op2 (· + ·) (rd r) (rd s)=none:=by rw[eb];rfl
  rw[er]
  simp[h1]
  exact aJ [.agg [.bool false,.nils,.nils]] 1 (by simp[h2g,Ne.symm h2g,h32,Ne.symm h32,h3g,Ne.symm h3g]) (by simp[frz,nm,dn,V.cl,iv,aU]) (by simp[hg,hb2,hb3])

theorem W9 :Tryz.prog.cellsOf 3=1:=by kernel_rfl
theorem K7 :Tryz.prog.cellsOf 4=1:=by kernel_rfl
theorem xV :Tryz.prog.cellsOf 9=1:=by kernel_rfl
theorem Ef :Tryz.prog.cellsOf 207=4:=by kernel_rfl
theorem aU3 {cs:List V} (h:cs.length=2): ∃a b,cs= [a,b]:=by
 match cs,h with
 | [a, b], _ => exact ⟨a, b, rfl⟩
theorem aSQ {cs:List V} (h:cs.length=3): ∃a b c,cs= [a,b,c]:=by
 match cs,h with
 | [a, b, c], _ => exact ⟨a, b, c, rfl⟩
theorem aTP {cs:List V} (h:cs.length=4): ∃a b c d,cs= [a,b,c,d]:=by
 match cs,h with
 | [a, b, c, d], _ => exact ⟨a, b, c, d, rfl⟩
theorem Wp {cs:List V} (h:CO Tryz.prog 207 cs): ∃j:J,cs=j.c∧j.fit:=by
 obtain⟨hl,hf⟩:=vX Tryz.underlying207 h
 rw[Ef] at hl
 obtain⟨a,b,c,d,rfl⟩:=aTP hl
 simp[W9,K7,xV] at hf
 obtain⟨h0,h1,h2,h3⟩:=hf
 obtain⟨s,h0,hs⟩:=aCY Tryz.underlying9 h0
 obtain⟨x,h1,hx⟩:=wM Tryz.underlying3 h1
 obtain⟨y,h2,hy⟩:=wM Tryz.underlying3 h2
 obtain⟨f,h3⟩:=Vj Tryz.underlying4 h3
 cases h0;cases h1;cases h2;cases h3
 exact⟨⟨s,x,y,f⟩,rfl,hs,wf_i64 hx,wf_i64 hy⟩
theorem Jo :Tryz.prog.bytesOf 3=8:=by kernel_rfl
theorem Rm {cs:List V} (h:CO Tryz.prog 27 cs): ∃ns:List Int,cs= [.sl (iv ns)]∧ns.length≤17592186043904∧ ∀n,n∈ns→ -9223372036854775808≤n∧n≤9223372036854775807:=by
 obtain⟨xs,rfl,hx,hl⟩:=C4 Tryz.underlying27 h
 rw[Jo] at hl
 have: ∃ns:List Int,xs=iv ns∧ ∀n,n∈ns→ -9223372036854775808≤n∧n≤9223372036854775807:=by
  clear hl h
  induction xs with
  | nil => exact ⟨[], rfl, fun n hn => by cases hn⟩
  | cons x xs ih =>
    obtain⟨ns,rfl,hns⟩:=ih fun y hy=>hx y (List.mem_cons_of_mem _ hy)
    obtain⟨n,rfl,hn⟩:=wM Tryz.underlying3 (hx x List.mem_cons_self)
    refine⟨n::ns,rfl,fun m hm=> ?_⟩
    rcases List.mem_cons.1 hm with rfl | hm
    ·exact wf_i64 hn
    ·exact hns m hm
 obtain⟨ns,rfl,hns⟩:=this
 exact⟨ns,rfl,by simp at hl;omega,hns⟩

theorem Am :Tryz.prog.cellsOf 217=3:=by kernel_rfl
theorem zR :Tryz.prog.cellsOf 71=2:=by kernel_rfl
theorem Ce :Tryz.prog.cellsOf 68=1:=by kernel_rfl
theorem P0 :Tryz.prog.cellsOf 69=1:=by kernel_rfl
theorem Aa :1≤Tryz.prog.bytesOf 207:=by
 have:Tryz.prog.bytesOf 207=40:=by kernel_rfl
 omega
theorem S9 :1≤Tryz.prog.bytesOf 217:=by
 have:Tryz.prog.bytesOf 217=24:=by kernel_rfl
 omega
def Zc (n:Int):Prop:= -9223372036854775808≤n∧n≤9223372036854775807
structure Mb.fit (m : Mb) : Prop where
 a:Zc m.a
 b:Zc m.b
 kind:Zc m.kind
structure Str.fit (s : Str) : Prop where
 js:s.js.length≤140737488351232
 ms:s.ms.length≤140737488351232
 names: ∀j,j∈s.js→j.name.size≤140737488351232
 aTG: ∀j,j∈s.js→j.fit
 members: ∀m,m∈s.ms→m.fit
theorem Ts {cs:List V} (h:CO Tryz.prog 217 cs): ∃m:Mb,cs=m.c∧m.fit:=by
 obtain⟨hl,hf⟩:=vX Tryz.underlying217 h
 rw[Am] at hl
 obtain⟨a,b,c,rfl⟩:=aSQ hl
 simp[W9,K7,xV] at hf
 obtain⟨h0,h1,h2⟩:=hf
 obtain⟨x,h0,hx⟩:=wM Tryz.underlying3 h0
 obtain⟨y,h1,hy⟩:=wM Tryz.underlying3 h1
 obtain⟨z,h2,hz⟩:=wM Tryz.underlying3 h2
 cases h0;cases h1;cases h2
 exact⟨⟨x,y,z⟩,rfl,wf_i64 hx,wf_i64 hy,wf_i64 hz⟩
theorem aHV {xs:List (List V)} (hx: ∀x,x∈xs→CO Tryz.prog 207 x): ∃js:List J,xs=jv js∧ ∀j,j∈js→j.fit:=by
 induction xs with
 | nil => exact ⟨[], rfl, fun n hn => by cases hn⟩
 | cons x xs ih =>
   obtain⟨ns,rfl,hns⟩:=ih fun y hy=>hx y (List.mem_cons_of_mem _ hy)
   obtain⟨n,rfl,hn⟩:=Wp (hx x List.mem_cons_self)
   refine⟨n::ns,rfl,fun m hm=> ?_⟩
   rcases List.mem_cons.1 hm with rfl | hm
   ·exact hn
   ·exact hns m hm
theorem aOG {xs:List (List V)} (hx: ∀x,x∈xs→CO Tryz.prog 217 x): ∃js:List Mb,xs=mv js∧ ∀j,j∈js→j.fit:=by
 induction xs with
 | nil => exact ⟨[], rfl, fun n hn => by cases hn⟩
 | cons x xs ih =>
   obtain⟨ns,rfl,hns⟩:=ih fun y hy=>hx y (List.mem_cons_of_mem _ hy)
   obtain⟨n,rfl,hn⟩:=Ts (hx x List.mem_cons_self)
   refine⟨n::ns,rfl,fun m hm=> ?_⟩
   rcases List.mem_cons.1 hm with rfl | hm
   ·exact hn
   ·exact hns m hm
theorem Px {xs:List (List V)} {b n:Nat} (hl:xs.length*b≤n) (hb:1≤b):xs.length≤n:=Nat.le_trans (Nat.le_mul_of_pos_right _ hb) hl
theorem Io {cs:List V} (h:CO Tryz.prog 71 cs): ∃s:Str,cs=s.c∧s.fit:=by
 obtain⟨hl,hf⟩:=vX Tryz.underlying71 h
 rw[zR] at hl
 obtain⟨a,b,rfl⟩:=aU3 hl
 simp[Ce,P0] at hf
 obtain⟨h0,h1⟩:=hf
 obtain⟨x,h0,hx,hlx⟩:=C4 Tryz.underlying68 h0
 obtain⟨y,h1,hy,hly⟩:=C4 Tryz.underlying69 h1
 cases h0;cases h1
 obtain⟨js,rfl,hjs⟩:=aHV hx
 obtain⟨ms,rfl,hms⟩:=aOG hy
 exact⟨⟨js,ms⟩,rfl,by simpa using Px hlx Aa,by simpa using Px hly S9,fun j hj=>(hjs j hj).1,hjs,hms⟩

def szR (r:RT) (left:Int):Int:=if less left r.m.length<0 then -1 else less (less left r.m.length) r.d.length
def aXM (s:SP) (left:Int):Int:=if szR s.lo left<0 then -1 else szR s.hi (szR s.lo left)
theorem Ag (neg:Bool) (m:List Int) (hm:m.length≤140737488351232):RO Tryz.prog 207 [.agg [.bool neg,.sl (iv m)],.agg [.bool neg,.sl (iv m)]] (.bool true):=by
 refine aH Tryz.func207 rfl rfl (by rw[Tryz.ntmps207];simp) fun bl=> ?_
 rw[Tryz.ntmps207,Tryz.results207]
 refine aB ?_
 simp
 intro g1 hg1 hb1 g2 hg2 h21 hb2
 try simp[h21,Ne.symm h21]
 refine aD (vK m m hm) ?_
 simp
 exact aJ [.bool true] 0 (by simp) rfl (by simp[hb1,hb2])
theorem Rd (r:RT) (hr:r.le 140737488351232):RO Tryz.prog 130 [.agg r.c,.agg r.c] (.bool true):=by
 refine aH Tryz.func130 rfl rfl (by rw[Tryz.ntmps130];simp) fun bl=> ?_
 rw[Tryz.ntmps130,Tryz.results130]
 refine aB ?_
 simp[RT.c]
 intro g1 hg1 hb1 g2 hg2 h21 hb2
 try simp[h21,Ne.symm h21]
 refine aD (Ag r.neg r.m hr.1) ?_
 simp[h21,Ne.symm h21]
 refine aD (vK r.d r.d hr.2) ?_
 simp
 exact aJ [.bool true] 0 (by simp) rfl (by simp[hb1,hb2])

theorem jO {bl:Int→Option Blk} {d e:D} {vs:List V} {gs:List Int} :OwnL bl [d,e] vs gs ↔ ∃v w g1 g2,vs= [v,w]∧gs=g1++g2∧(∀g,g∈g1→g∉g2)∧OwnD bl d v g1∧OwnD bl e w g2:=by
 rw[OwnL]
 constructor
 ·rintro⟨v,vs',g1,g2,rfl,rfl,h1,h2,h3⟩
  rw[OwnL] at h3
  obtain⟨w,aWB,g3,g4,rfl,rfl,h4,h5,h6⟩:=h3
  rw[OwnL] at h6
  obtain⟨rfl,rfl⟩:=h6
  rw[List.append_nil] at h1 ⊢
  exact⟨v,w,g1,g3,rfl,rfl,h1,h2,h5⟩
 ·rintro⟨v,w,g1,g2,rfl,rfl,h1,h2,h3⟩
  refine⟨v,[w],g1,g2,rfl,rfl,h1,h2,?_⟩
  rw[OwnL]
  exact⟨w,[],g2,[],rfl,by simp,by simp,h3,by rw[OwnL];exact⟨rfl,rfl⟩⟩
theorem OwnD.one {bl:Int→Option Blk} {sz:Nat} {rows:List (List V)} {v:V} {gs:List Int} (h:OwnD bl (fl sz rows) v gs):v.one=true∧v.cells= [v]:=by
 unfold fl at h
 rw[OwnD] at h
 rcases h with ⟨_,rfl,_⟩| ⟨g,els,gs',rfl,_⟩<;>exact⟨rfl,rfl⟩
theorem qG {bl:Int→Option Blk} {ns:List Int} {v:V} {gs:List Int} (h:OwnD bl (fl 1 (iv ns)) v gs) (n:Nat):frz bl (n+1) v=some (.sl (iv ns)):=by
 rw[h.frz (jL _ _ _),aO6]
theorem aLC (ns:List Int):(fl 1 (iv ns)).sc=true:=Xu (aLJ ns)
theorem cP {bl bl':Int→Option Blk} {gs:List Int} (h2: ∀g,g∈gs→bl g=none) (h3: ∀g,g∉gs→bl' g=bl g) {x:Int} {b:Blk} (hx:bl x=some b):bl' x=some b:=
 Made.sub (d:=default) (v:=default) h2 h3 x b hx
theorem OwnD.eG {bl bl':Int→Option Blk} {d:D} {v:V} {gs:List Int} (h:OwnD bl d v gs) (hg: ∀x,x∈gs→ ∀b,bl x=some b→bl' x=some b):OwnD bl' d v gs:=h.frame fun x hx=>by
 obtain⟨b,hb⟩:=h.has x hx
 rw[hb,hg x hx b hb]
theorem OwnL.eG {bl bl':Int→Option Blk} {d:List D} {v:List V} {gs:List Int} (h:OwnL bl d v gs) (hg: ∀x,x∈gs→ ∀b,bl x=some b→bl' x=some b):OwnL bl' d v gs:=h.frame fun x hx=>by
 obtain⟨b,hb⟩:=h.has x hx
 rw[hb,hg x hx b hb]
theorem OwnL.not {bl:Int→Option Blk} {d:List D} {v:List V} {gs:List Int} (h:OwnL bl d v gs) {g:Int} (hg:bl g=none):g∉gs:=fun hh=>by
 obtain⟨b,hb⟩:=h.has g hh
 rw[hg] at hb;cases hb
theorem OwnD.not {bl:Int→Option Blk} {d:D} {v:V} {gs:List Int} (h:OwnD bl d v gs) {g:Int} (hg:bl g=none):g∉gs:=fun hh=>by
 obtain⟨b,hb⟩:=h.has g hh
 rw[hg] at hb;cases hb
theorem OwnR.eG {bl bl':Int→Option Blk} {sz:Nat} {d:List (List D)} {v:List (List V)} {gs:List Int} (h:OwnR bl sz d v gs) (hg: ∀x,x∈gs→ ∀b,bl x=some b→bl' x=some b):OwnR bl' sz d v gs:=h.frame fun x hx=>by
 obtain⟨b,hb⟩:=h.has x hx
 rw[hb,hg x hx b hb]
theorem OwnR.not {bl:Int→Option Blk} {sz:Nat} {d:List (List D)} {v:List (List V)} {gs:List Int} (h:OwnR bl sz d v gs) {g:Int} (hg:bl g=none):g∉gs:=fun hh=>by
 obtain⟨b,hb⟩:=h.has g hh
 rw[hg] at hb;cases hb
theorem OwnR.snoc {bl:Int→Option Blk} {sz:Nat} {r:List D} {e:List V} {g2:List Int} (hr:OwnL bl r e g2) (hl:e.length=sz) (ho:e.all V.one=true): ∀ {rs:List (List D)} {els:List (List V)} {g1:List Int},OwnR bl sz rs els g1→(∀x,x∈g1→x∉g2)→OwnR bl sz (rs++ [r]) (els++ [e]) (g1++g2)
 | [], els, g1, h, hd => by
   rw[OwnR] at h
   obtain⟨rfl,rfl⟩:=h
   show OwnR bl sz [r] [e] g2
   rw[OwnR]
   exact⟨e,[],g2,[],rfl,by simp,by simp,hl,ho,hr,by rw[OwnR];exact⟨rfl,rfl⟩⟩
 | r1 :: rs, els, g1, h, hd => by
   rw[OwnR] at h
   obtain⟨e1,lV,ga,gb,rfl,rfl,h3,h4,h5,h6,h7⟩:=h
   have ih:=OwnR.snoc hr hl ho h7 fun x hx=>hd x (by simp[hx])
   show OwnR bl sz (r1::(rs++ [r])) (e1::(lV++ [e])) (ga++gb++g2)
   rw[OwnR]
   refine⟨e1,lV++ [e],ga,gb++g2,rfl,by simp,fun x hx hx2=> ?_,h4,h5,h6,ih⟩
   rcases List.mem_append.1 hx2 with hx2 | hx2
   ·exact h3 x hx hx2
   ·exact hd x (by simp[hx]) hx2
theorem OwnR.at {bl:Int→Option Blk} {sz:Nat} : ∀ {rs:List (List D)} {els:List (List V)} {gs:List Int} (i:Nat) (hi:i<rs.length),OwnR bl sz rs els gs→
  ∃e gi,els[i]? =some e∧OwnL bl rs[i] e gi∧e.length=sz∧e.all V.one=true∧(∀x,x∈gi→x∈gs)∧
   ∀bl' r' e',OwnL bl' r' e' gi→e'.length=sz→e'.all V.one=true→(∀x,x∈gs→x∉gi→ ∀y,bl x=some y→bl' x=some y)→OwnR bl' sz (rs.set i r') (els.set i e') gs
 | [], els, gs, i, hi, _ => by simp at hi
 | r :: rs, els, gs, 0, hi, h => by
   rw[OwnR] at h
   obtain⟨e,lV,g1,g2,rfl,rfl,h3,h4,h5,h6,h7⟩:=h
   refine⟨e,g1,rfl,h6,h4,h5,fun x hx=>by simp[hx],fun bl' r' e' a1 a2 a3 a4=> ?_⟩
   show OwnR bl' sz (r'::rs) (e'::lV) (g1++g2)
   rw[OwnR]
   exact⟨e',lV,g1,g2,rfl,rfl,h3,a2,a3,a1,h7.eG fun x hx b hb=>a4 x (by simp[hx]) (fun h=>h3 x h hx) b hb⟩
 | r :: rs, els, gs, i + 1, hi, h => by
   rw[OwnR] at h
   obtain⟨e,lV,g1,g2,rfl,rfl,h3,h4,h5,h6,h7⟩:=h
   obtain⟨e2,gi,b1,b2,b3,b4,b5,b6⟩:=OwnR.at (rs:=rs) i (by simpa using hi) h7
   refine⟨e2,gi,by simpa using b1,by simpa using b2,b3,b4,fun x hx=>by simp[b5 x hx],fun bl' r' e' a1 a2 a3 a4=> ?_⟩
   show OwnR bl' sz (r::rs.set i r') (e::lV.set i e') (g1++g2)
   rw[OwnR]
   refine⟨e,lV.set i e',g1,g2,rfl,rfl,h3,h4,h5,h6.eG fun x hx b hb=>a4 x (by simp[hx]) (fun h=>h3 x hx (b5 x h)) b hb,b6 bl' r' e' a1 a2 a3 fun x hx hn y hy=>a4 x (by simp[hx]) hn y hy⟩
theorem Nw (els:List (List V)) (z:List V) (n:Nat) (h:els.length<n):(els++List.replicate (n - els.length) z)[els.length]? =some z:=by
 rw[List.getElem?_append_right (Nat.le_refl _),Nat.sub_self,List.getElem?_replicate,if_pos (by omega)]
theorem Mn (els:List (List V)) (z x:List V) (n:Nat) (h:els.length<n):(els++List.replicate (n - els.length) z).set els.length x=(els++ [x])++List.replicate (n - (els++ [x]).length) z:=by
 rw[List.set_append_right _ _ (Nat.le_refl _),Nat.sub_self]
 obtain⟨m,hm⟩: ∃m,n - els.length=m+1:=⟨n - els.length - 1,by omega⟩
 have h2:n - (els++ [x]).length=m:=by simp;omega
 rw[hm,h2,List.replicate_succ]
 simp
theorem Jj (els:List (List V)) (z x:List V) (n:Nat) (h:els.length<n):els++(List.replicate (n - els.length) z).set 0 x=(els++ [x])++List.replicate (n - (els++ [x]).length) z:=by
 rw[←Mn els z x n h,List.set_append_right _ _ (Nat.le_refl _),Nat.sub_self]
theorem oE {bl:Int→Option Blk} {d:D} {v:V} {gs:List Int} :OwnL bl [d] [v] gs ↔ OwnD bl d v gs:=by
 rw[OwnL]
 constructor
 ·rintro⟨v',vs',g1,g2,h1,rfl,_,h2,h3⟩
  cases h1
  rw[OwnL] at h3
  rw[h3.2,List.append_nil];exact h2
 ·intro h
  exact⟨v,[],gs,[],rfl,by simp,by simp,h,by rw[OwnL];exact⟨rfl,rfl⟩⟩
theorem Of {bl bl':Int→Option Blk} {g:Int} {b:Option Blk} (hg:bl g=none) (hs:Sub bl bl'):Sub bl (upd bl' g b):=hs.upd hg b
structure aUD where
 els:List (List V)
 gs:List Int
 b:Int→Option Blk
theorem lP {bl:Int→Option Blk} {d:D} {ds:List D} {v:V} {vs:List V} {g1 g2:List Int} (h1:OwnD bl d v g1) (h2:OwnL bl ds vs g2) (hd: ∀g,g∈g1→g∉g2):OwnL bl (d::ds) (v::vs) (g1++g2):=by
 rw[OwnL];exact⟨v,vs,g1,g2,rfl,rfl,hd,h1,h2⟩
theorem Ue {bl:Int→Option Blk} :OwnL bl [] [] []:=by rw[OwnL];exact⟨rfl,rfl⟩
theorem Gq {bl:Int→Option Blk} (n:Int):OwnD bl (.c (.int .i64 n)) (.int .i64 n) []:=by rw[OwnD];exact⟨rfl,rfl,rfl⟩
theorem E6 {bl:Int→Option Blk} (b:Bool):OwnD bl (.c (.bool b)) (.bool b) []:=by rw[OwnD];exact⟨rfl,rfl,rfl⟩

def nG (ys xs:List (List V)) (i:Nat):List (List V):=ys.take i++xs.drop i
@[simp] theorem aE2 (ys xs : List (List V)) : nG ys xs 0 = xs := by simp [nG]
theorem kI (ys xs:List (List V)) (i:Nat) (hl:ys.length=xs.length):(nG ys xs i).length=xs.length:=by simp[nG];omega
theorem B4 (ys xs:List (List V)) (i:Nat) (hl:ys.length=xs.length) (hi:xs.length≤i):nG ys xs i=ys:=by
 simp[nG,List.take_of_length_le (show ys.length≤i by omega),List.drop_of_length_le hi]
theorem tZ (ys xs:List (List V)) (i:Nat) (hl:ys.length=xs.length) (hi:i<xs.length):(nG ys xs i)[i]? =some xs[i]:=by
 unfold nG
 rw[List.getElem?_append_right (by simp;omega),List.length_take,Nat.min_eq_left (by omega),Nat.sub_self,List.getElem?_drop]
 simp[hi]
theorem K0 (ys xs:List (List V)) (i:Nat) (hl:ys.length=xs.length) (hi:i<xs.length):(nG ys xs i)[i]'(by rw[kI ys xs i hl];exact hi)=xs[i]:=by
 have:=tZ ys xs i hl hi
 rw[List.getElem?_eq_getElem (by rw[kI ys xs i hl];exact hi)] at this
 exact Option.some.inj this
theorem A4 (ys xs:List (List V)) (i:Nat) (hl:ys.length=xs.length) (hi:i<ys.length) (x:List V) (hx:x=ys[i]):(nG ys xs i).set i x=nG ys xs (i+1):=by
 subst hx
 apply List.ext_getElem?
 intro j
 have hz: ∀k,k≤ys.length→ ∀j,(nG ys xs k)[j]? =if j<k then ys[j]? else xs[j]? :=by
  intro k hk j
  unfold nG
  by_cases hj:j<k
  ·rw[if_pos hj,List.getElem?_append_left (by simp;omega),List.getElem?_take_of_lt hj]
  ·rw[if_neg hj,List.getElem?_append_right (by simp;omega),List.length_take,Nat.min_eq_left hk,List.getElem?_drop]
   congr 1;omega
 rw[List.getElem?_set,hz i (by omega),hz (i+1) (by omega),kI _ _ _ hl]
 by_cases hij:i=j
 ·subst hij;simp[hi];omega
 ·rw[if_neg hij]
  by_cases h1:j<i
  ·simp[h1,show j<i+1 by omega]
  ·simp[h1,show ¬ j<i+1 by omega]
def marks (k:Int) (n:Nat):List Int:=(List.range n).map fun(i:Nat)=>k+i
@[simp] theorem Vf (k : Int) (n : Nat) : (marks k n).length = n := by simp [marks]
@[simp] theorem aCP (k : Int) (n i : Nat) (h : i < (marks k n).length) : (marks k n)[i] = k + i := by simp [marks]
theorem qM {bl:Int→Option Blk} {K:V→(Int→Option Blk)→Prop} (xs:List Int) (k:Int) (v:V) (gs:List Int) (h:OwnD bl (fl 1 (iv xs)) v gs) (hk: -1≤k∧k+xs.length≤4611686018427387904)
  (hK: ∀bl',OwnD bl' (fl 1 (iv (marks k xs.length))) v gs→(∀g,g∉gs→bl' g=bl g)→K (.int .i64 (k+xs.length)) bl'):bY Tryz.prog 57 [v,.int .i64 k] bl K:=by
 refine cJ Tryz.func57 rfl rfl (by rw[Tryz.ntmps57];simp) ?_
 rw[Tryz.ntmps57,Tryz.results57]
 refine aB ?_
 rcases dH.1 h with ⟨rfl,rfl,rfl⟩| ⟨g,rfl,rfl,hb,hg0⟩
 ·simp
  refine aG (fun _:Unit=> [(0,.nils),(1,.int .i64 k),(5,.int .i64 0)]) (fun _=>bl) (fun _=>True) (fun _=>0) _ () trivial ⟨rfl,by simp,Sub.refl _⟩ ?_
  intro _ _
  refine aB ?_
  simp
  rw[bW]
  refine⟨[.int .i64 k],by simp,?_⟩
  have:=hK bl (dH.2 (.inl ⟨rfl,rfl,rfl⟩)) (fun _ _=>rfl)
  simpa using this
 ·simp
  refine aG (fun i:Nat=> [(0,.lsl g 1 0 xs.length),(1,.int .i64 (k+i)),(5,.int .i64 i)]) (fun i=>upd bl g (some ⟨1,nG (iv (marks k xs.length)) (iv xs) i⟩)) (fun i=>i≤xs.length) (fun i=>xs.length - i) _ 0 (Nat.zero_le _) ⟨rfl,by simp,sub_eq ?_⟩ ?_
  ·funext x
   simp only[aC]
   split
   ·rename_i hx;subst hx;simp[hb]
   ·rfl
  intro i hi
  refine aB ?_
  simp
  refine⟨fun h1=> ?_,fun h1=> ?_⟩
  ·have h2:i<(iv xs).length:=by simpa using h1
   have hge:0≤g:=by
    rcases Int.lt_or_le g 0 with hlt | hge
    ·have:=hg0 hlt;subst this;simp at h1
    ·exact hge
   have hgi:=tZ (iv (marks k xs.length)) (iv xs) i (by simp) h2
   simp (disch:=omega) [h1,hgi,i64_in,aA]
   refine⟨i+1,by omega,by omega,rfl,by simp;omega,sub_eq ?_⟩
   rw[A4 _ _ _ (by simp) (by simpa using h1) _ (by simp[marks])]
  ·have hi':i=xs.length:=by omega
   subst hi'
   rw[bW]
   refine⟨[.int .i64 (k+xs.length)],by simp,?_⟩
   refine hK _ (dH.2 (.inr ⟨g,by simp,rfl,?_,fun h=>by have:=hg0 h;subst this;rfl⟩)) (fun g' hg'=> ?_)
   ·simp;rw[B4 _ _ _ (by simp) (by simp)]
   ·simp at hg';simp[hg']
theorem xK (n:Nat) (k:Int) (hk: -1≤k∧k+n≤4611686018427387904):RO Tryz.prog 136 [.sl (iv (marks k n)),.int .i64 k] (.int .i64 (k+n)):=by
 refine aH Tryz.func136 rfl rfl (by rw[Tryz.ntmps136];simp) fun bl=> ?_
 rw[Tryz.ntmps136,Tryz.results136]
 refine aB ?_
 simp
 refine aG (fun i:Nat=> [(0,.sl (iv (marks k n))),(1,.int .i64 (k+i)),(5,.int .i64 i)]) (fun _=>bl) (fun i=>i≤n) (fun i=>n - i) _ 0 (Nat.zero_le _) ⟨rfl,by simp,Sub.refl _⟩ ?_
 intro i hi
 refine aB ?_
 simp
 refine⟨fun h1=> ?_,fun h1=> ?_⟩
 ·have h2:i<(iv (marks k n)).length:=by simpa using h1
  simp (disch:=omega) [h1,i64_in,aA]
  refine⟨i+1,by omega,by omega,rfl,by simp;omega,Sub.refl _⟩
 ·have hi':i=n:=by omega
  subst hi'
  exact aP (by simp) rfl rfl
theorem Ki (a:List Int) (ha:a.length≤1048576):NW Tryz.prog 49 [.sl (iv a)] (fl 1 (iv a)):=by
 refine iQ Tryz.func49 rfl rfl (by rw[Tryz.ntmps49];simp) fun bl=> ?_
 rw[Tryz.ntmps49,Tryz.results49]
 refine aB ?_
 simp
 refine⟨by omega,by unfold maxLen;omega,fun g hg0 hg=> ?_⟩
 refine aG (fun i:Nat=> [(0,.sl (iv a)),(3,.lsl g 1 0 a.length),(4,.int .i64 i)]) (fun i=>upd bl g (some ⟨1,part (iv a) [.int .i64 0] i⟩)) (fun i=>i≤a.length) (fun i=>a.length - i) _ 0 (Nat.zero_le _) ⟨rfl,by simp,sub_eq (by simp)⟩ ?_
 intro i hi
 refine aB ?_
 simp
 refine⟨fun h=> ?_,fun h=> ?_⟩
 ·have hi':i<(iv a).length:=by simpa using h
  simp (disch:=omega) [h,dJ _ _ _ hi',i64_in,aA]
  refine⟨i+1,by omega,by omega,rfl,by simp,sub_eq ?_⟩
  simp only[jJ]
  rw[cI _ _ _ hi']
  simp
 ·refine fJ [.lsl g 1 0 a.length] [g] (by simp) ?_ (by simpa using hg) (by simp[hg])
  rw[eW _ _ _ (by simpa using h)]
  exact dH.2 (.inr ⟨g,rfl,rfl,by simp,by omega⟩)

def dB (neg:Bool) (m:List Int):List D:= [.c (.bool neg),fl 1 (iv m)]
def dR (r:RT):List D:= [.c (.bool r.neg),fl 1 (iv r.m),fl 1 (iv r.d)]
theorem Ml {bl:Int→Option Blk} {neg:Bool} {m:List Int} {v:V} {gs:List Int} :OwnD bl (.a (dB neg m)) v gs ↔ ∃vm,v= .agg [.bool neg,vm]∧OwnD bl (fl 1 (iv m)) vm gs:=by
 rw[OwnD];unfold dB
 constructor
 ·rintro⟨vs,rfl,h⟩
  rw[OwnL] at h
  obtain⟨v,vs',g1,g2,rfl,rfl,_,h1,h2⟩:=h
  rw[OwnD] at h1
  obtain⟨rfl,_,rfl⟩:=h1
  obtain⟨w,rfl⟩: ∃w,vs'= [w]:=by
   have:=h2.length
   match vs',this with
   | [w], _ => exact ⟨w, rfl⟩
  exact⟨w,rfl,oE.1 h2⟩
 ·rintro⟨vm,rfl,h⟩
  exact⟨_,rfl,lP (E6 _) (oE.2 h) (fun x hx=>by cases hx)⟩
theorem uL {bl:Int→Option Blk} {r:RT} {vs:List V} {gs:List Int} :OwnL bl (dR r) vs gs ↔ ∃vm vd gm gd,vs= [.bool r.neg,vm,vd]∧gs=gm++gd∧(∀g,g∈gm→g∉gd)∧OwnD bl (fl 1 (iv r.m)) vm gm∧OwnD bl (fl 1 (iv r.d)) vd gd:=by
 unfold dR
 constructor
 ·intro h
  rw[OwnL] at h
  obtain⟨v,vs',g1,g2,rfl,rfl,_,h1,h2⟩:=h
  rw[OwnD] at h1
  obtain⟨rfl,_,rfl⟩:=h1
  obtain⟨vm,vd,gm,gd,rfl,rfl,hd,h3,h4⟩:=jO.1 h2
  exact⟨vm,vd,gm,gd,rfl,rfl,hd,h3,h4⟩
 ·rintro⟨vm,vd,gm,gd,rfl,rfl,hd,h3,h4⟩
  exact lP (g1:= []) (g2:=gm++gd) (E6 _) (jO.2 ⟨vm,vd,gm,gd,rfl,rfl,hd,h3,h4⟩) (fun x hx=>by cases hx)
theorem Ni {bl:Int→Option Blk} {r:RT} {v:V} {gs:List Int} :OwnD bl (.a (dR r)) v gs ↔ ∃vm vd gm gd,v= .agg [.bool r.neg,vm,vd]∧gs=gm++gd∧(∀g,g∈gm→g∉gd)∧OwnD bl (fl 1 (iv r.m)) vm gm∧OwnD bl (fl 1 (iv r.d)) vd gd:=by
 rw[OwnD]
 constructor
 ·rintro⟨vs,rfl,h⟩
  obtain⟨vm,vd,gm,gd,rfl,h2⟩:=uL.1 h
  exact⟨vm,vd,gm,gd,rfl,h2⟩
 ·rintro⟨vm,vd,gm,gd,rfl,h2⟩
  exact⟨_,rfl,uL.2 ⟨vm,vd,gm,gd,rfl,h2⟩⟩
theorem aOT (r:RT):D.fzL (dR r)=r.c:=by simp[dR,D.fzL,D.fz,RT.c]
theorem aBE (r:RT) (n:Nat):D.depL (n+1) (dR r):=by simp[dR,D.depL,D.dep,jL]
theorem aK7 (r:RT):D.scL (dR r)=true:=by simp[dR,D.scL,D.sc,V.ow,aLC]
theorem Xj {bl:Int→Option Blk} {g:Int} (hg:bl g=none) (b:Option Blk): ∀x y,bl x=some y→upd bl g b x=some y:=fun x y hx=>by rw[aC,if_neg (fun e=>by rw[e,hg] at hx;cases hx)];exact hx
def mkR (k:Nat) (r:RT):RT:=⟨r.neg,marks k r.m.length,marks (k+r.m.length:Nat) r.d.length⟩
def aKZ (k:Nat) (r:RT):Nat:=k+r.m.length+r.d.length
def dS (s:SP):List D:=dR s.lo++(dR s.hi++ [.c (.bool s.nl),.c (.bool s.nh)])
def aWR (k:Nat) (s:SP):Nat:=aKZ (aKZ k s.lo) s.hi

theorem SP.Gd {s:SP} {k l:Nat} (h:s.le k) (hkl:k≤l):s.le l:=⟨⟨by have:=h.1.1;omega,by have:=h.1.2;omega⟩,by have:=h.2.1;omega,by have:=h.2.2;omega⟩
theorem RT.Gd {s:RT} {k l:Nat} (h:s.le k) (hkl:k≤l):s.le l:=⟨by have:=h.1;omega,by have:=h.2;omega⟩

def rv (rs:List RT):List (List V):=rs.map RT.c
@[simp] theorem Lr (rs : List RT) : (rv rs).length = rs.length := by simp [rv]
@[simp] theorem aP6 (rs : List RT) (i : Nat) (h : i < (rv rs).length) : (rv rs)[i] = (rs[i]'(by simpa using h)).c := by simp [rv]
def dRs (rs:List RT):D:= .s 3 (rs.map dR)
theorem Sr (rs:List RT):(dRs rs).fz= .sl (rv rs):=by
 unfold dRs rv
 rw[D.fz,yW,List.map_map]
 congr 1
 refine List.map_congr_left fun r _=> ?_
 show List.map D.fz (dR r)=r.c
 rw[←uC,aOT]
theorem Ht (rs:List RT) (n:Nat):(dRs rs).dep (n+2):=by
 unfold dRs
 rw[D.dep]
 refine⟨by omega,?_⟩
 induction rs with
 | nil => simp [D.depR]
 | cons r rs ih => simp only [List.map_cons, D.depR]; exact ⟨aBE r _, ih⟩
theorem aCW (rs:List RT):(dRs rs).sc=true:=by
 unfold dRs
 rw[D.sc]
 induction rs with
 | nil => simp [D.scR]
 | cons r rs ih => simp only [List.map_cons, D.scR, aK7, ih]; rfl
theorem O0 {bl:Int→Option Blk} {rs:List RT} {v:V} {gs:List Int} (h:OwnD bl (dRs rs) v gs) (n:Nat):frz bl (n+2) v=some (.sl (rv rs)):=by
 rw[h.frz (Ht rs n),Sr]
theorem vH {bl:Int→Option Blk} {rs:List RT} {v:V} {gs:List Int} :OwnD bl (dRs rs) v gs ↔ (rs= []∧v= .nils∧gs= [])∨ ∃g els gs',v= .lsl g 3 0 rs.length∧gs=g::gs'∧g∉gs'∧bl g=some ⟨3,els⟩∧(g<0→els= [])∧OwnR bl 3 (rs.map dR) els gs':=by
 unfold dRs
 rw[OwnD]
 constructor
 ·rintro(⟨h1,h2,h3⟩| ⟨g,els,gs',h1,h2,h3,h4,h5,h6⟩)
  ·exact .inl ⟨by simpa using h1,h2,h3⟩
  ·exact .inr ⟨g,els,gs',by simpa using h1,h2,h3,h4,h5,h6⟩
 ·rintro(⟨h1,h2,h3⟩| ⟨g,els,gs',h1,h2,h3,h4,h5,h6⟩)
  ·exact .inl ⟨by simpa using h1,h2,h3⟩
  ·exact .inr ⟨g,els,gs',by simpa using h1,h2,h3,h4,h5,h6⟩
theorem Wf {bl:Int→Option Blk} {rs:List RT} {v:V} {gs:List Int} (h:OwnD bl (dRs rs) v gs):v.one=true∧v.cells= [v]:=by
 rcases vH.1 h with ⟨_,rfl,_⟩| ⟨g,els,gs',rfl,_⟩<;>exact⟨rfl,rfl⟩
def szTo :List RT→Int→Int
 | [], left => left
 | r :: rs, left => if szR r left < 0 then -1 else szTo rs (szR r left)
def aXO (rs:List RT) (left:Int):Int:=if less left rs.length<0 then -1 else szTo rs (less left rs.length)
def Cv (rs:List RT) (k:Nat):Prop:=rs.length≤k∧ ∀r,r∈rs→r.le k
def uY (rs:List RT):Nat:=(rs.map fun r=>r.m.length+r.d.length).sum
theorem Iu (rs:List RT) (hq:Cv rs 1048576):RO Tryz.prog 61 [.sl (rv rs),.sl (rv rs)] (.bool true):=by
 have hw:=hq.1
 refine aH Tryz.func61 rfl rfl (by rw[Tryz.ntmps61];simp) fun bl=> ?_
 rw[Tryz.ntmps61,Tryz.results61]
 refine aB ?_
 simp
 refine aG (fun i:Nat=> [(0,.sl (rv rs)),(1,.sl (rv rs)),(5,.int .i64 i)]) (fun _=>bl) (fun i=>i≤rs.length) (fun i=>rs.length - i) _ 0 (Nat.zero_le _) ⟨rfl,by simp,Sub.refl _⟩ ?_
 intro i hi
 refine aB ?_
 simp
 refine⟨fun h1=> ?_,fun h1=> ?_⟩
 ·refine bU aM (by kernel_rfl) ?_
  simp[h1,RT.c]
  refine aN (Rd rs[i] (RT.Gd (hq.2 _ (List.getElem_mem h1)) (by omega))) ?_
  simp (disch:=omega) [i64_in,aA]
  exact⟨i+1,by omega,by omega,rfl,by simp,Sub.refl _⟩
 ·exact aP (by simp) rfl rfl
def mkQ (k:Nat) (r:RT):RT:=⟨(k:Int).tmod 3==0,marks (k+1:Nat) r.m.length,marks (k+1+r.m.length:Nat) r.d.length⟩
def xZ (k:Nat) (r:RT):Nat:=k+1+r.m.length+r.d.length
def mkQs :Nat→List RT→List RT
 | _, [] => []
 | k, r :: rs => mkQ k r :: mkQs (xZ k r) rs
def fI (k:Nat) (rs:List RT):Nat:=rs.foldl xZ k
@[simp] theorem xL : ∀ (k : Nat) (rs : List RT), (mkQs k rs).length = rs.length
 | _, [] => rfl
 | k, r :: rs => by rw [mkQs, List.length_cons, List.length_cons, xL]
theorem pI (k:Nat) (rs:List RT) (i:Nat) (h:i<rs.length):fI k (rs.take (i+1))=xZ (fI k (rs.take i)) rs[i]:=by
 unfold fI
 rw[List.take_add_one,List.getElem?_eq_getElem h,Option.toList_some,List.foldl_append];rfl
theorem P7 : ∀(k:Nat) (rs:List RT) (i:Nat) (h:i<rs.length),(mkQs k rs)[i]'(by rw[xL];exact h)=mkQ (fI k (rs.take i)) rs[i]
 | k, r :: rs, 0, h => rfl
 | k, r :: rs, i + 1, h => by
   simp only[mkQs,List.getElem_cons_succ]
   rw[P7 (xZ k r) rs i (by simpa using h)]
   rfl
theorem lF : ∀(k:Nat) (rs:List RT),fI k rs=k+rs.length+uY rs
 | k, [] => by simp [fI, uY]
 | k, r :: rs => by
   have:=lF (xZ k r) rs
   have e:fI k (r::rs)=fI (xZ k r) rs:=rfl
   have e2:uY (r::rs)=(r.m.length+r.d.length)+uY rs:=by unfold uY;rw[List.map_cons,List.sum_cons]
   rw[e,this,e2,List.length_cons]
   unfold xZ
   omega
theorem sM (k:Nat) (rs:List RT) (i:Nat):fI k (rs.take i)≤fI k rs:=by
 rw[lF,lF]
 have h1:(rs.take i).length≤rs.length:=List.length_take_le' i rs
 have h2:uY rs=uY (rs.take i)+uY (rs.drop i):=by
  unfold uY
  rw[←List.sum_append,←List.map_append,List.take_append_drop]
 omega
structure Mk where
 i:Nat
 els:List (List V)
 b:Int→Option Blk
theorem Ip (k:Nat) (rs:List RT) (i:Nat) (h:i<rs.length):((mkQs k rs).take (i+1)++rs.drop (i+1)).map dR=(((mkQs k rs).take i++rs.drop i).map dR).set i (dR (mkQ (fI k (rs.take i)) rs[i])):=by
 have h2:i<(mkQs k rs).length:=by simpa using h
 rw[List.take_add_one,List.getElem?_eq_getElem h2,P7 k rs i h,Option.toList_some,List.drop_eq_getElem_cons h]
 simp only[List.map_append,List.map_cons,List.map_nil]
 rw[List.set_append_right _ _ (by simp;omega)]
 simp[show min i rs.length=i by omega]
theorem Aq {bl:Int→Option Blk} {K:V→(Int→Option Blk)→Prop} (rs:List RT) (k:Nat) (v:V) (gs:List Int) (h:OwnD bl (dRs rs) v gs) (hk:fI k rs≤4611686018427387000)
  (hK: ∀bl',OwnD bl' (dRs (mkQs k rs)) v gs→(∀g,g∉gs→ ∀b,bl g=some b→bl' g=some b)→K (.int .i64 (fI k rs:Nat)) bl'):bY Tryz.prog 62 [v,.int .i64 k] bl K:=by
 refine cJ Tryz.func62 rfl rfl (by rw[Tryz.ntmps62];simp) ?_
 rw[Tryz.ntmps62,Tryz.results62]
 refine aB ?_
 rcases vH.1 h with ⟨rfl,rfl,rfl⟩| ⟨g,els,gs',rfl,rfl,hg,hb,bP,ho⟩
 ·simp
  refine aG (fun _:Unit=> [(0,.nils),(1,.int .i64 k),(5,.int .i64 0)]) (fun _=>bl) (fun _=>True) (fun _=>0) _ () trivial ⟨rfl,by simp,Sub.refl _⟩ ?_
  intro _ _
  refine aB ?_
  simp
  rw[bW]
  refine⟨[.int .i64 k],by simp,?_⟩
  exact hK bl (vH.2 (.inl ⟨rfl,rfl,rfl⟩)) (fun _ _ _ h=>h)
 ·have hlen:=OwnR.length ho
  simp at hlen
  simp
  refine aG (fun p:Mk=> [(0,.lsl g 3 0 rs.length),(1,.int .i64 (fI k (rs.take p.i):Nat)),(5,.int .i64 p.i)]) (fun p=>p.b)
   (fun p=>p.i≤rs.length∧p.els.length=rs.length∧p.b g=some ⟨3,p.els⟩∧OwnR p.b 3 (((mkQs k rs).take p.i++rs.drop p.i).map dR) p.els gs'∧(∀x,x∉g::gs'→ ∀y,bl x=some y→p.b x=some y))
   (fun p=>rs.length - p.i) 38 ⟨0,els,bl⟩ ⟨Nat.zero_le _,hlen,hb,by simpa using ho,fun x _ y h=>h⟩ ⟨rfl,by simp[fI],Sub.refl _⟩ ?_
  rintro⟨i,els,b⟩ ⟨hi,hel,hbg,hor,hfr⟩
  simp only at hi hel hbg hor hfr
  refine aB ?_
  simp
  have hle:=sM k rs i
  have hsm:=lF k rs
  refine⟨fun h1=> ?_,fun h1=> ?_⟩
  ·have hge:0≤g:=by
    rcases Int.lt_or_le g 0 with hlt | hge
    ·have h2:=bP hlt;subst h2;simp at hlen;omega
    ·exact hge
   have hrl:((mkQs k rs).take i++rs.drop i).length=rs.length:=by simp;omega
   have hri:((mkQs k rs).take i++rs.drop i)[i]'(by omega)=rs[i]:=by
    rw[List.getElem_append_right (by simp;omega)]
    simp[show min i rs.length=i by omega]
   obtain⟨e,gi,a1,a2,a3,a4,a5,a6⟩:=hor.at i (by simpa using (by omega:i<((mkQs k rs).take i++rs.drop i).length))
   rw[List.getElem_map,hri] at a2
   obtain⟨vm,vd,gm,gd,rfl,rfl,hd,om,od⟩:=uL.1 a2
   have c1:=om.one.1
   have d1:=od.one.1
   have hs:=pI k rs i h1
   have aCG:=sM k rs (i+1)
   have hst:=Ip k rs i h1
   generalize fI k (rs.take i)=q at *
   have hr:rs[i].m.length+rs[i].d.length+q<4611686018427387904:=by unfold xZ at hs;omega
   have hil:i<els.length:=by omega
   have ea:els[i]= [.bool rs[i].neg,vm,vd]:=by
    rw[List.getElem?_eq_getElem hil] at a1;exact Option.some.inj a1
   have gi1:g∉gm:=fun hh=>hg (a5 g (List.mem_append_left _ hh))
   have gi2:g∉gd:=fun hh=>hg (a5 g (List.mem_append_right _ hh))
   simp[h1,hbg,hil,ea,c1,d1]
   simp (disch:=omega) [i64_in]
   obtain⟨m3,hm3⟩: ∃m3,((q:Int).tmod 3==0)=m3:=⟨_,rfl⟩
   rw[hm3,show(q:Int)+1=(q+1:Nat) by simp]
   have aST:q+1+rs[i].m.length+rs[i].d.length≤fI k rs:=by unfold xZ at hs;omega
   obtain⟨Lk,he2⟩: ∃e,els.set i [.bool m3,vm,vd]=e:=⟨_,rfl⟩
   have ei2:Lk[i]? =some [.bool m3,vm,vd]:=by rw[←he2,List.getElem?_set_self hil]
   have el2:Lk.length=rs.length:=by rw[←he2,List.length_set,hel]
   have es2:Lk.set i [.bool m3,vm,vd]=Lk:=by rw[←he2,List.set_set]
   rw[he2]
   refine qM rs[i].m (q+1:Nat) vm gm (om.frame fun x hx=>by simp[show x≠g from fun e=>gi1 (e▸hx)]) (by omega) fun b1 om1 k1=> ?_
   have eb1:b1 g=some ⟨3,Lk⟩:=by rw[k1 g gi1];simp
   simp[h1,eb1,ei2]
   rw[show(q:Int)+1+rs[i].m.length=(q+1+rs[i].m.length:Nat) by simp]
   refine qM rs[i].d (q+1+rs[i].m.length:Nat) vd gd (od.frame fun x hx=>by
    rw[k1 x (fun hh=>hd x hh hx)]
    simp[show x≠g from fun e=>gi2 (e▸hx)]) (by omega) fun b2 od2 k2=> ?_
   simp (disch:=omega) [i64_in,aA]
   refine⟨⟨i+1,Lk,b2⟩,⟨by simp only;omega,el2,by simp only;rw[k2 g gi2];exact eb1,?_,fun x hx1 hx2 y hy=> ?_⟩,by simp only;omega,rfl,by simp[hs,xZ],Sub.refl _⟩
   ·have:=a6 b2 (dR (mkQ q rs[i])) [.bool m3,vm,vd] (uL.2 ⟨vm,vd,gm,gd,by simp[mkQ,hm3],rfl,hd,om1.frame fun x hx=>k2 x (hd x hx),od2⟩) rfl (by simp[c1,d1]) (fun x hx hn y hy=>by
     simp at hn
     rw[k2 x hn.2,k1 x hn.1,aC,if_neg (fun e:x=g=>hg (e▸hx))];exact hy)
    rw[he2,←hst] at this
    simpa using this
   ·show b2 x=some y
    rw[k2 x (fun h=>hx2 (a5 x (List.mem_append_right _ h))),k1 x (fun h=>hx2 (a5 x (List.mem_append_left _ h))),aC,if_neg hx1]
    exact hfr x (by simp[hx1,hx2]) y hy
  ·have:i=rs.length:=by omega
   subst this
   rw[bW]
   refine⟨[.int .i64 (fI k rs:Nat)],by simp,?_⟩
   have ht:(mkQs k rs).take rs.length=mkQs k rs:=List.take_of_length_le (by simp)
   simp only[ht,List.drop_length,List.append_nil] at hor
   exact hK _ (vH.2 (.inr ⟨g,els,gs',by simp,rfl,hg,hbg,fun hn=>by have:=bP hn;subst this;simp at hlen;exact List.eq_nil_of_length_eq_zero (by omega),hor⟩)) hfr
theorem Bl (rs:List RT) (k:Nat) (hk:fI k rs≤4611686018427387000):RO Tryz.prog 63 [.sl (rv (mkQs k rs)),.int .i64 k] (.int .i64 (fI k rs:Nat)):=by
 refine aH Tryz.func63 rfl rfl (by rw[Tryz.ntmps63];simp) fun bl=> ?_
 rw[Tryz.ntmps63,Tryz.results63]
 refine aB ?_
 simp
 refine aG (fun i:Nat=> [(0,.sl (rv (mkQs k rs))),(1,.int .i64 (fI k (rs.take i):Nat)),(5,.int .i64 i)]) (fun _=>bl) (fun i=>i≤rs.length) (fun i=>rs.length - i) _ 0 (Nat.zero_le _) ⟨rfl,by simp[fI],Sub.refl _⟩ ?_
 intro i hi
 refine aB ?_
 simp
 refine⟨fun h1=> ?_,fun h1=> ?_⟩
 ·have hsm:=lF k rs
  have hs:=pI k rs i h1
  have aCG:=sM k rs (i+1)
  have hat:=P7 k rs i h1
  generalize fI k (rs.take i)=q at *
  have aST:q+1+rs[i].m.length+rs[i].d.length≤fI k rs:=by unfold xZ at hs;omega
  simp[h1,hat,mkQ,RT.c]
  simp (disch:=omega) [i64_in]
  refine aD (xK rs[i].m.length ((q:Int)+1) (by omega)) ?_
  simp[h1,hat,mkQ,RT.c]
  refine⟨fun h=>by omega,fun h=> ?_⟩
  refine aD (xK rs[i].d.length ((q:Int)+1+rs[i].m.length) (by omega)) ?_
  simp[h1,hat,mkQ,RT.c]
  refine⟨fun h=>by omega,fun h=> ?_⟩
  simp (disch:=omega) [i64_in,aA]
  refine⟨i+1,by omega,by omega,rfl,by simp[hs,xZ],Sub.refl _⟩
 ·have:i=rs.length:=by omega
  subst this
  exact aP (by simp) rfl rfl
theorem T7 {bl:Int→Option Blk} {K:V→(Int→Option Blk)→Prop} (xs:List Int) (k:Nat) (v:V) (gs:List Int) (h:OwnD bl (fl 1 (iv xs)) v gs) (hk:k+xs.length≤4611686018427387000)
  (hK: ∀bl',OwnD bl' (fl 1 (iv (marks k xs.length))) v gs→(∀g,g∉gs→ ∀b,bl g=some b→bl' g=some b)→K (.int .i64 (k+xs.length:Nat)) bl'):bY Tryz.prog 57 [v,.int .i64 k] bl K:=
 qM xs k v gs h (by omega) fun bl' o q=>by
  have:=hK bl' o fun g hg b hb=>by rw[q g hg];exact hb
  simpa using this

theorem Si (n:Int) (hn:(lim n.natAbs).length≤60):NW Tryz.prog 173 [.agg (biC n)] (.a (dB (decide (n<0)) (lim n.natAbs))):=by
 refine iQ Tryz.func173 rfl rfl (by rw[Tryz.ntmps173];simp) fun bl=> ?_
 rw[Tryz.ntmps173,Tryz.results173]
 refine aB ?_
 rw[bO]
 simp
 intro g1 hg1 hb1 g2 hg2 h21 hb2
 try simp[h21,Ne.symm h21]
 refine⟨fun h=>by omega,fun h=> ?_⟩
 try simp[h21,Ne.symm h21]
 refine aW aM (upd bl g1 (some ⟨2,[[.bool (decide (n<0)),.sl (iv (lim n.natAbs))]]⟩)) (by simp[h21,hb2]) [0,1,2,3] 3 (by kernel_rfl) ?_
 simp[h21,Ne.symm h21]
 refine Dz 4 ?_
 simp[h21,Ne.symm h21]
 refine fK (mS (lim n.natAbs) (by omega)) fun v gs b o f fr=> ?_
 obtain⟨c1,c2⟩:=o.one
 have e1: ∀x,x∈gs→x≠g1∧x≠g2∧bl x=none:=fun x hx=>by have:=f x hx;simp[aC] at this;grind
 have n1:b g1=_:=fr g1 fun h=>(e1 g1 h).1 rfl
 have n2:b g2=_:=fr g2 fun h=>(e1 g2 h).2.1 rfl
 simp[h21,Ne.symm h21] at n1 n2
 have hs:Sub bl b:=fun x y hy=>by
  have z1:x≠g1:=fun h=>by rw[h,hb1] at hy;cases hy
  have z2:x≠g2:=fun h=>by rw[h,hb2] at hy;cases hy
  exact cP f fr (by simp[aC,z1,z2,hy])
 have hs1:Sub (upd bl g1 (some ⟨2,[[.bool (decide (n<0)),.sl (iv (lim n.natAbs))]]⟩)) b:=fun x y hy=>by
  rw[aC] at hy
  split at hy
  ·rename_i h;subst h;rw[n1];exact hy
  ·exact hs x y hy
 refine⟨hs1,Dz 5 ?_⟩
 simp[h21,Ne.symm h21,n1,n2,c1,c2]
 refine⟨hs1,Dz 6 ?_⟩
 simp[h21,Ne.symm h21,n1,n2,c1,c2]
 refine⟨hs1.upd (by simp[h21,hb2]) _,Dy ?_⟩
 simp[h21,Ne.symm h21,n1,n2,c1,c2]
 refine fJ [.agg [.bool (decide (n<0)),v]] gs (by simp[c1,n1,n2]) ?_ (fun x hx=>(e1 x hx).2.2) (hs.upd hb2 _)
 exact Ml.2 ⟨v,rfl,o.frame fun x hx=>by simp[aC,(e1 x hx).2.1]⟩
theorem Nd (x:Option Rat) (hx:okQ x):NW Tryz.prog 95 [fv x] (.a (dR (ro x))):=by
 cases x with
 | none =>
   refine iQ Tryz.func95 rfl rfl (by rw[Tryz.ntmps95];simp) fun bl=> ?_
   rw[Tryz.ntmps95,Tryz.results95]
   refine aB ?_
   simp[fv]
   intro g2 hg2 hb2
   refine fJ [.agg [.bool false,.nils,.nils]] [] (by simp) ?_ (by simp) (by simp[hb2])
   exact Ni.2 ⟨.nils,.nils,[],[],rfl,rfl,by simp,dH.2 (.inl ⟨rfl,rfl,rfl⟩),dH.2 (.inl ⟨rfl,rfl,rfl⟩)⟩
 | some q =>
   have hf:=hx q rfl
   have hl:=hf.1
   have hl2:=hf.2
   refine iQ Tryz.func95 rfl rfl (by rw[Tryz.ntmps95];simp) fun bl=> ?_
   rw[Tryz.ntmps95,Tryz.results95]
   refine aB ?_
   rw[show fv (some q)= .ptr (rq q).c from rfl,gW]
   simp
   intro g2 hg2 hb2
   refine aW aM bl (by simp[hb2]) [0,1,2,3,5,6,7,8] 4 (by kernel_rfl) ?_
   simp
   refine Dz 4 ?_
   simp
   have hfw:=Si q.num (by omega)
   rw[bO] at hfw
   refine fK hfw fun v gs b o f fr=> ?_
   obtain⟨vm,rfl,om⟩:=Ml.1 o
   obtain⟨c1,c2⟩:=om.one
   have e1: ∀x,x∈gs→x≠g2∧bl x=none:=fun x hx=>by have:=f x hx;simp[aC] at this;exact this
   have n2:b g2=_:=fr g2 fun h=>(e1 g2 h).1 rfl
   simp at n2
   have hs:Sub bl b:=fun x y hy=>by
    have z2:x≠g2:=fun h=>by rw[h,hb2] at hy;cases hy
    exact cP f fr (by simp[aC,z2,hy])
   refine⟨hs,Dz 9 ?_⟩
   simp
   refine fK (mS (lim q.den) (by omega)) fun w gw b2 ow f2 fr2=> ?_
   obtain⟨d1,d2⟩:=ow.one
   have m2:b2 g2=_:=cP f2 fr2 n2
   have hs2:Sub bl b2:=fun x y hy=>cP f2 fr2 (hs x y hy)
   have e3: ∀x,x∈gw→x≠g2:=fun x hx h=>by have:=f2 x hx;rw[h,n2] at this;cases this
   have e4: ∀x,x∈gs→x∉gw:=fun x hx h=>by
    obtain⟨y,hy⟩:=om.has x hx
    rw[f2 x h] at hy;cases hy
   refine⟨hs2,Dz 10 ?_⟩
   simp[m2,c1,c2,d1,d2]
   refine⟨hs2,Dz 11 ?_⟩
   simp[m2,c1,c2,d1,d2]
   refine⟨hs2.upd hb2 _,Dy ?_⟩
   simp[m2,c1,c2,d1,d2]
   refine fJ [.agg [.bool (decide (q.num<0)),vm,w]] (gs++gw) (by simp[c1,d1,m2]) ?_ (fun x hx=> ?_) (hs2.upd hb2 _)
   ·refine Ni.2 ⟨vm,w,gs,gw,rfl,rfl,e4,om.frame fun x hx=> ?_,ow.frame fun x hx=> ?_⟩
    ·simp only[aC];rw[if_neg (e1 x hx).1];exact fr2 x (e4 x hx)
    ·simp only[aC];rw[if_neg (e3 x hx)]
   ·rcases List.mem_append.1 hx with hx | hx
    ·exact(e1 x hx).2
    ·exact bZ hs (f2 x hx)
def dT (r:RT) (b:Bool):D:= .t [.a (dR r),.c (.bool b)]
def aV3 (s:SP):Option Rat:=if aTQ s && !s.nl && !s.nh then op2 (· - ·) (rd s.hi) (rd s.lo) else none
theorem ro_le {x:Option Rat} (h:okQ x):(ro x).m.length≤24∧(ro x).d.length≤24:=by
 cases x with
 | none => simp [ro, rz]
 | some q => exact h q rfl

def fvs (xs:List (Option Rat)):List (List V):=xs.map fun x=> [fv x]
@[simp] theorem aC8 (xs : List (Option Rat)) : (fvs xs).length = xs.length := by simp [fvs]
@[simp] theorem aNS (xs : List (Option Rat)) (i : Nat) (h : i < (fvs xs).length) : (fvs xs)[i] = [fv (xs[i]'(by simpa using h))] := by simp [fvs]
@[simp] theorem aVO (x : Option Rat) : (fv x).cl = true := by cases x <;> rfl
@[simp] theorem aU6 (x : Option Rat) : (fv x).one = true := by cases x <;> rfl
@[simp] theorem aKC (x : Option Rat) : (fv x).cells = [fv x] := by cases x <;> rfl
theorem aCB (xs:List (Option Rat)):(fvs xs).all (fun r=>r.all V.cl)=true:=by simp[fvs]
def okL (xs:List (Option Rat)):Prop:= ∀x,x∈xs→okQ x
def dL (xs:List (Option Rat)) (b:Bool):D:= .t [fl 1 (fvs xs),.c (.bool b)]
theorem S6 {bl:Int→Option Blk} {d:D} {b:Bool} {v:V} {gs:List Int} :OwnD bl (.t [d,.c (.bool b)]) v gs ↔ ∃w,v= .tup [w,.bool b]∧OwnD bl d w gs:=by
 rw[OwnD]
 constructor
 ·rintro⟨vs,rfl,h⟩
  obtain⟨v,w,g1,g2,rfl,rfl,hd,h1,h2⟩:=jO.1 h
  rw[OwnD] at h2
  obtain⟨rfl,_,rfl⟩:=h2
  exact⟨v,rfl,by simpa using h1⟩
 ·rintro⟨w,rfl,h⟩
  exact⟨_,rfl,jO.2 ⟨w,.bool b,gs,[],rfl,by simp,fun x hx h=>(by cases h),h,E6 b⟩⟩
def lL (rs:List RT):Bool:=rs.all fun r=>(rd r).isSome
def cO (rs:List RT):List (Option Rat):=rs.map rd
@[simp] theorem Vy (rs : List RT) : (cO rs).length = rs.length := by simp [cO]
theorem Cc (rs:List RT):okL (cO rs):=by
 intro x hx
 obtain⟨r,_,rfl⟩:=List.mem_map.1 hx
 exact aBB r
def Ly (rs:List RT):Bool:=decide (rs.length≤24)&& lL rs
def cH (xs:List (Option Rat)):Bool:=xs.all Option.isSome
def cL (xs:List (Option Rat)):List RT:=xs.map ro
@[simp] theorem Uz (xs : List (Option Rat)) : (cL xs).length = xs.length := by simp [cL]
def stQ (xs:List (Option Rat)):List RT:=if cH xs=true then cL xs else []
def dV (rs:List RT) (b:Bool):D:= .t [dRs rs,.c (.bool b)]
theorem aAJ (rs:List RT) (b:Bool) (n:Nat):(dV rs b).dep (n+3):=by
 unfold dV;rw[D.dep];exact⟨by omega,by simp[D.depL,D.dep,Ht]⟩
theorem aMP (rs:List RT) (b:Bool):(dV rs b).fz= .tup [.sl (rv rs),.bool b]:=by simp[dV,D.fz,D.fzL,Sr]
theorem aJR (rs:List RT) (b:Bool):(dV rs b).sc=true:=by simp[dV,D.sc,D.scL,aCW,V.ow]
theorem Ta {bl:Int→Option Blk} {rs:List RT} {b:Bool} {v:V} {gs:List Int} (h:OwnD bl (dV rs b) v gs): ∃w,v= .tup [w,.bool b]∧OwnD bl (dRs rs) w gs∧w.one=true∧w.cells= [w]:=by
 obtain⟨w,rfl,o⟩:=S6.1 h
 exact⟨w,rfl,o,Wf o⟩
theorem yQ {bl:Int→Option Blk} (b:Bool):OwnD bl (dV [] b) (.tup [.nils,.bool b]) []:=S6.2 ⟨.nils,rfl,vH.2 (.inl ⟨rfl,rfl,rfl⟩)⟩
theorem Ld (xs:List (Option Rat)) (hx:okL xs) (hw:xs.length≤1048576):NW Tryz.prog 73 [.sl (fvs xs)] (dV (stQ xs) (cH xs)):=by
 refine iQ Tryz.func73 rfl rfl (by rw[Tryz.ntmps73];simp) fun bl=> ?_
 rw[Tryz.ntmps73,Tryz.results73]
 refine aB ?_
 simp
 refine⟨by omega,by unfold maxLen;omega,fun g hg0 hg=> ?_⟩
 refine aG (fun p:aUD=> [(4,.lsl g 3 0 xs.length),(10,.sl (fvs xs)),(11,.int .i64 xs.length),(12,.int .i64 p.els.length)]) (fun p=>p.b)
  (fun p=>p.els.length≤xs.length∧(∀x,x∈xs.take p.els.length→x.isSome=true)∧p.b g=some ⟨3,p.els++List.replicate (xs.length - p.els.length) [.bool false,.nils,.nils]⟩∧OwnR p.b 3 (((cL xs).map dR).take p.els.length) p.els p.gs∧g∉p.gs∧(∀x,x∈p.gs→bl x=none)∧Sub bl p.b)
  (fun p=>xs.length - p.els.length) 26 ⟨[],[],upd bl g (some ⟨3,List.replicate xs.length [.bool false,.nils,.nils]⟩)⟩ ⟨Nat.zero_le _,by simp,by simp,by simp[OwnR],by simp,by simp,by simp[hg]⟩ ⟨rfl,by simp,by simp⟩ ?_
 rintro⟨els,gs,b⟩ ⟨hi,bH,hb,ho,hn,hf,hs⟩
 simp only at hi bH hb ho hn hf hs
 refine aB ?_
 simp
 refine⟨fun h=> ?_,fun h=> ?_⟩
 ·rcases ex:xs[els.length] with _ | q
  ·have hno:cH xs=false:=by
    rw[Bool.eq_false_iff]
    intro hh
    have:=List.all_eq_true.1 hh xs[els.length] (List.getElem_mem h)
    rw[ex] at this;cases this
   have hst:stQ xs= []:=by unfold stQ;rw[hno];rfl
   simp[h,ex,fv]
   rw[hno,hst]
   refine fJ [.nils,.bool false] [] (by simp) (yQ _) (by simp) hs
  ·simp[h,ex,fv]
   have hq0:okQ (some q):=by rw[←ex];exact hx _ (List.getElem_mem h)
   have Mm:=Nd (some q) hq0
   rw[show fv (some q)= .ptr (rq q).c from rfl] at Mm
   refine fK Mm fun v gv b' o f fr=> ?_
   rw[OwnD] at o
   obtain⟨vs,rfl,o⟩:=o
   obtain⟨vm,vd,_,_,rfl,_,_,om,od⟩:=uL.1 o
   have c1:=om.one.1
   have d1:=od.one.1
   have hb':b' g=_:=cP f fr hb
   have hgv:g∉gv:=fun hh=>by have:=f g hh;rw[hb] at this;cases this
   simp[h,hb',Nw els [.bool false,.nils,.nils] xs.length h,c1,d1]
   simp (disch:=omega) [i64_in,aA]
   have gg:=Jj els [.bool false,.nils,.nils] [.bool (ro (some q)).neg,vm,vd] xs.length h
   refine⟨⟨els++ [[.bool (ro (some q)).neg,vm,vd]],gs++gv,upd b' g (some ⟨3,(els++ [[.bool (ro (some q)).neg,vm,vd]])++List.replicate (xs.length - (els++ [[V.bool (ro (some q)).neg,vm,vd]]).length) [.bool false,.nils,.nils]⟩)⟩,⟨by simp;omega,?_,by simp,?_,?_,?_,?_⟩,by simp;omega,rfl,by simp,sub_eq ?_⟩
   ·intro x hx
    simp only[List.length_append,List.length_singleton] at hx
    rw[List.take_add_one,List.getElem?_eq_getElem h] at hx
    rcases List.mem_append.1 hx with hx | hx
    ·exact bH x hx
    ·obtain rfl:x=xs[els.length]:=by simpa using hx
     rw[ex];rfl
   ·have h2:els.length<(cL xs).length:=by simpa using h
    have ht:((cL xs).map dR).take (els++ [[V.bool (ro (some q)).neg,vm,vd]]).length=((cL xs).map dR).take els.length++ [dR (ro (some q))]:=by
     rw[List.length_append,List.length_singleton,List.take_add_one,List.getElem?_map,List.getElem?_eq_getElem h2];simp[cL,ex]
    simp only
    rw[ht]
    refine OwnR.snoc (o.frame fun x hx=>by simp[show x≠g from fun e=>hgv (e▸hx)]) rfl (by simp[c1,d1]) (ho.eG fun x hx y hy=> ?_) fun x hx hx2=> ?_
    ·rw[aC,if_neg (fun e=>hn (by rw[←e];exact hx))];exact cP f fr hy
    ·exact ho.not (f x hx2) hx
   ·simp only[List.mem_append];rintro(h | h)
    ·exact hn h
    ·exact hgv h
   ·intro x hx
    rcases List.mem_append.1 hx with hx | hx
    ·exact hf x hx
    ·exact bZ hs (f x hx)
   ·exact Of hg fun x y hy=>cP f fr (hs x y hy)
   ·exact congrArg (fun e=>upd b' g (some (Blk.mk 3 e))) gg
 ·have hl:els.length=xs.length:=by omega
  have Oy:cH xs=true:=List.all_eq_true.2 fun x hx=>bH x (by rw[hl,List.take_length];exact hx)
  have hst:stQ xs=cL xs:=by unfold stQ;rw[Oy];rfl
  rw[Oy,hst]
  refine fJ [.lsl g 3 0 xs.length,.bool true] (g::gs) (by simp) ?_ (by simpa [hg] using hf) hs
  refine S6.2 ⟨_,rfl,vH.2 (.inr ⟨g,els,gs,by simp,rfl,hn,?_,by omega,?_⟩)⟩
  ·show b g=_
   rw[hb,hl];simp
  ·rw[hl] at ho
   rw[List.take_of_length_le (by simp)] at ho
   exact ho
theorem Rz {bl:Int→Option Blk} {n:Nat} {x y:V} {b:Bool} (h:frz bl n x=some y):frz bl (n+1) (.tup [x,.bool b])=some (.tup [y,.bool b]):=by
 rw[P4]
 simp only[List.mapM_cons,List.mapM_nil,h,show frz bl n (.bool b)=some (.bool b) by cases n<;>simp[frz]]
 rfl
theorem Yi (rs:List RT):(rv rs).all (fun r=>r.all V.cl)=true:=by simp[rv,RT.c,V.cl]
theorem Ji (a b:List RT):rv (a++b)=rv a++rv b:=by simp[rv]
theorem Va {zs:List (Option Rat)} (h:okL zs) (hl:zs.length≤1048576):Cv (stQ zs) 1048576∧uY (stQ zs)≤100000000:=by
 have hle: ∀r,r∈stQ zs→r.m.length≤24∧r.d.length≤24:=by
  intro r hr
  unfold stQ at hr
  split at hr
  ·obtain⟨x,hx,rfl⟩:=List.mem_map.1 hr
   exact ro_le (h x hx)
  ·cases hr
 have hn:(stQ zs).length≤zs.length:=by
  unfold stQ;split
  ·simp
  ·simp
 have hs:uY (stQ zs)≤48*(stQ zs).length:=by
  generalize stQ zs=rs at hle
  clear hn h hl
  unfold uY
  induction rs with
  | nil => simp
  | cons r rs ih =>
    rw[List.map_cons,List.sum_cons,List.length_cons]
    have h1:=hle r List.mem_cons_self
    have h2:=ih fun x hx=>hle x (List.mem_cons_of_mem _ hx)
    omega
 exact⟨⟨by omega,fun r hr=>⟨by have:=(hle r hr).1;omega,by have:=(hle r hr).2;omega⟩⟩,by omega⟩
theorem uP :okL [none]:=by
 intro x hx
 obtain rfl:x=none:=by simpa using hx
 intro q h;cases h

theorem xP (rs:List RT) (hq:Cv rs 1048576):RO Tryz.prog 211 [.sl (rv rs)] (.bool (lL rs)):=by
 have hw:=hq.1
 refine aH Tryz.func211 rfl rfl (by rw[Tryz.ntmps211];simp) fun bl=> ?_
 rw[Tryz.ntmps211,Tryz.results211]
 refine aB ?_
 simp
 refine aG (fun i:Nat=> [(5,.sl (rv rs)),(6,.int .i64 rs.length),(7,.int .i64 i)]) (fun _=>bl) (fun i=>i≤rs.length∧ ∀r,r∈rs.take i→(rd r).isSome=true) (fun i=>rs.length - i) _ 0 ⟨Nat.zero_le _,by simp⟩ ⟨rfl,by simp,Sub.refl _⟩ ?_
 rintro i ⟨hi,bH⟩
 refine aB ?_
 simp
 refine⟨fun h=> ?_,fun h=> ?_⟩
 ·simp[h,RT.c]
  intro g2 hg2 hb2
  have hr:=hq.2 _ (List.getElem_mem h)
  refine aD (dO rs[i] (by have:=hr.1;omega) (by have:=hr.2;omega)) ?_
  simp
  refine⟨fun hok=> ?_,fun hok=> ?_⟩
  ·have hno:lL rs=false:=by
    rw[Bool.eq_false_iff]
    intro hh
    have:=List.all_eq_true.1 hh rs[i] (List.getElem_mem h)
    rw[Gi] at this;exact hok this
   exact aJ [.bool false] 0 (by simp) (by simp[frz,hno]) (by simp[hb2])
  ·simp (disch:=omega) [i64_in,aA]
   refine⟨i+1,⟨by omega,fun r hr=> ?_⟩,by omega,rfl,by simp,by simp[hb2]⟩
   rw[List.take_add_one,List.getElem?_eq_getElem h] at hr
   rcases List.mem_append.1 hr with hr | hr
   ·exact bH r hr
   ·obtain rfl:r=rs[i]:=by simpa using hr
    exact Gi.2 hok
 ·have hi2:i=rs.length:=by omega
  have Oy:lL rs=true:=List.all_eq_true.2 fun r hr=>bH r (by rw[hi2,List.take_length];exact hr)
  exact aP (by simp[Oy]) rfl rfl
def Gs (s:Str) (q:List RT):Bool:=(sOk s && decide (q.length=s.ms.length))&& lL q
def Rb (m:Mb) (x:Option Rat):Bool:=(decide (m.kind=1)&& decide (sgq x<0))|| (decide (m.kind=2)&& decide (0<sgq x))
def aTU (ms:List Mb) (q:List RT) (n:Nat):Prop:= ∀k (h1:k<ms.length) (h2:k<q.length),k<n→Rb ms[k] (rd q[k])=false
def aWL (s:Str) (q:List RT):Bool:=Gs s q && (List.zip s.ms q).all fun p=> !Rb p.1 (rd p.2)

def pTo (e:Mb→Int) (s:Str) (q:List (Option Rat)) (j:Int):Nat→Option Rat
 | 0 => some 0
 | n + 1 => if j = (mat s n).a ∨ j = (mat s n).b then op2 (· + ·) (pTo e s q j n) (op2 (· * ·) (q.getD n none) (some (e (mat s n) : Rat))) else pTo e s q j n
def pX (s:Str) (q:List (Option Rat)) (j:Int):Option Rat:=pTo (eqX s j) s q j s.ms.length
def pY (s:Str) (q:List (Option Rat)) (j:Int):Option Rat:=pTo (eqY s j) s q j s.ms.length
theorem Jq :((0:Int):Rat)=0:=rfl

def Zy (s:Str) (q:List RT) (j:Int):Bool:=Gs s q && (decide (0≤j)&& decide (j<s.js.length))
def pqs (s:Str) (q:List RT) (j:Int):List (Option Rat):=if Zy s q j=true then [pX s (cO q) j,pY s (cO q) j] else [none]
theorem aSL (x y:Option Rat) (hx:okQ x) (hy:okQ y):RO Tryz.prog 137 [.agg (ro x).c,.agg (ro y).c] (.agg (ro (op2 (· + ·) x y)).c):=by
 have h1:=ro_le hx
 have h2:=ro_le hy
 have:=Jn (ro x) (ro y) ⟨by omega,by omega⟩ ⟨by omega,by omega⟩
 rwa [E1 hx,E1 hy] at this

theorem Um (ns:List J): ∀r,r∈jv ns→r.length=4:=by
 intro r hr
 obtain⟨n,_,rfl⟩:=List.mem_map.1 hr
 rfl
theorem Tq (ns:List Mb): ∀r,r∈mv ns→r.length=3:=by
 intro r hr
 obtain⟨n,_,rfl⟩:=List.mem_map.1 hr
 rfl
theorem R1 {bl:Int→Option Blk} {ns:List J} {v:V} {gs:List Int} :OwnD bl (fl 4 (jv ns)) v gs ↔ (ns= []∧v= .nils∧gs= [])∨ ∃g,v= .lsl g 4 0 ns.length∧gs= [g]∧bl g=some ⟨4,jv ns⟩∧(g<0→ns= []):=by
 rw[sV (Yf ns) (Um ns)]
 simp[jv]
theorem U1 {bl:Int→Option Blk} {ns:List Mb} {v:V} {gs:List Int} :OwnD bl (fl 3 (mv ns)) v gs ↔ (ns= []∧v= .nils∧gs= [])∨ ∃g,v= .lsl g 3 0 ns.length∧gs= [g]∧bl g=some ⟨3,mv ns⟩∧(g<0→ns= []):=by
 rw[sV (Yj ns) (Tq ns)]
 simp[mv]
theorem Bk (a:List J) (ha:a.length≤1048576):NW Tryz.prog 118 [.sl (jv a)] (fl 4 (jv a)):=by
 refine iQ Tryz.func118 rfl rfl (by rw[Tryz.ntmps118];simp) fun bl=> ?_
 rw[Tryz.ntmps118,Tryz.results118]
 refine aB ?_
 simp
 refine⟨by omega,by unfold maxLen;omega,fun g hg0 hg=> ?_⟩
 refine aG (fun i:Nat=> [(0,.sl (jv a)),(3,.lsl g 4 0 a.length),(4,.int .i64 i)]) (fun i=>upd bl g (some ⟨4,part (jv a) [.str { data:= #[] },.int .i64 0,.int .i64 0,.bool false] i⟩)) (fun i=>i≤a.length) (fun i=>a.length - i) _ 0 (Nat.zero_le _) ⟨rfl,by simp,sub_eq (by simp)⟩ ?_
 intro i hi
 refine aB ?_
 simp
 refine⟨fun h=> ?_,fun h=> ?_⟩
 ·have hi':i<(jv a).length:=by simpa using h
  simp[h]
  refine aD (zO a[i]) ?_
  simp (disch:=omega) [h,dJ _ _ _ hi',i64_in,aA,J.c]
  refine⟨i+1,by omega,by omega,rfl,by simp,sub_eq ?_⟩
  simp only[jJ]
  rw[cI _ _ _ hi']
  simp[J.c]
 ·refine fJ [.lsl g 4 0 a.length] [g] (by simp) ?_ (by simpa using hg) (by simp[hg])
  rw[eW _ _ _ (by simpa using h)]
  exact R1.2 (.inr ⟨g,rfl,rfl,by simp,by omega⟩)
theorem S7 (a:List Mb) (ha:a.length≤1048576):NW Tryz.prog 119 [.sl (mv a)] (fl 3 (mv a)):=by
 refine iQ Tryz.func119 rfl rfl (by rw[Tryz.ntmps119];simp) fun bl=> ?_
 rw[Tryz.ntmps119,Tryz.results119]
 refine aB ?_
 simp
 refine⟨by omega,by unfold maxLen;omega,fun g hg0 hg=> ?_⟩
 refine aG (fun i:Nat=> [(0,.sl (mv a)),(3,.lsl g 3 0 a.length),(4,.int .i64 i)]) (fun i=>upd bl g (some ⟨3,part (mv a) [.int .i64 0,.int .i64 0,.int .i64 0] i⟩)) (fun i=>i≤a.length) (fun i=>a.length - i) _ 0 (Nat.zero_le _) ⟨rfl,by simp,sub_eq (by simp)⟩ ?_
 intro i hi
 refine aB ?_
 simp
 refine⟨fun h=> ?_,fun h=> ?_⟩
 ·have hi':i<(mv a).length:=by simpa using h
  simp[h]
  refine aD (xG a[i]) ?_
  simp (disch:=omega) [h,dJ _ _ _ hi',i64_in,aA,Mb.c]
  refine⟨i+1,by omega,by omega,rfl,by simp,sub_eq ?_⟩
  simp only[jJ]
  rw[cI _ _ _ hi']
  simp[Mb.c]
 ·refine fJ [.lsl g 3 0 a.length] [g] (by simp) ?_ (by simpa using hg) (by simp[hg])
  rw[eW _ _ _ (by simpa using h)]
  exact U1.2 (.inr ⟨g,rfl,rfl,by simp,by omega⟩)
def G4 (s:Str):List D:= [fl 4 (jv s.js),fl 3 (mv s.ms)]
theorem E3 (s:Str) (hj:s.js.length≤1048576) (hm:s.ms.length≤1048576):NW Tryz.prog 48 [.agg s.c] (.a (G4 s)):=by
 refine iQ Tryz.func48 rfl rfl (by rw[Tryz.ntmps48];simp) fun bl=> ?_
 rw[Tryz.ntmps48,Tryz.results48]
 refine aB ?_
 simp[Str.c]
 intro g1 hg1 hb1 g2 hg2 h21 hb2
 intro g3 hg3 h32 h31 hb3
 simp[h21,h31,h32,Ne.symm h21,Ne.symm h31,Ne.symm h32]
 refine fK (Bk _ hj) fun v1 gs1 b1 o1 f1 fr1=> ?_
 obtain⟨c1,c2⟩:=o1.one
 have e1: ∀g,g∈gs1→g≠g1∧g≠g2∧g≠g3∧bl g=none:=fun g hg=>by have:=f1 g hg;simp[aC] at this;grind
 have n1:b1 g1=_:=fr1 g1 fun h=>(e1 g1 h).1 rfl
 have n2:b1 g2=_:=fr1 g2 fun h=>(e1 g2 h).2.1 rfl
 have n3:b1 g3=_:=fr1 g3 fun h=>(e1 g3 h).2.2.1 rfl
 simp[h21,h31,h32,Ne.symm h21,Ne.symm h31,Ne.symm h32] at n1 n2 n3
 simp[h21,h31,h32,Ne.symm h21,Ne.symm h31,Ne.symm h32,n1,n2,n3,c1,c2]
 refine fK (S7 _ hm) fun v2 gs2 b2 o2 f2 fr2=> ?_
 obtain⟨d1,d2⟩:=o2.one
 have e2: ∀g,g∈gs2→g≠g3∧b1 g=none:=fun g hg=>by have:=f2 g hg;simp[aC] at this;exact this
 have e3: ∀g,g∈gs2→g∉gs1:=fun g hg hg1=>by
  obtain⟨b,hb⟩:=o1.has g hg1
  rw[(e2 g hg).2] at hb;cases hb
 have e4: ∀g,g∈gs2→g≠g2:=fun g hg h=>by have:=(e2 g hg).2;rw[h,n2] at this;cases this
 have m1:b2 g1=_:=fr2 g1 fun h=>by have:=(e2 g1 h).2;rw[n1] at this;cases this
 have m2:b2 g2=_:=fr2 g2 fun h=>by have:=(e2 g2 h).2;rw[n2] at this;cases this
 have m3:b2 g3=_:=fr2 g3 fun h=>(e2 g3 h).1 rfl
 simp[h21,h31,h32,Ne.symm h21,Ne.symm h31,Ne.symm h32,n1,n2] at m1 m2 m3
 simp[h21,h31,h32,Ne.symm h21,Ne.symm h31,Ne.symm h32,m1,m2,m3,d1,d2,c1]
 have k1:OwnD b2 (fl 4 (jv s.js)) v1 gs1:=o1.frame fun g hg=>by
  rw[fr2 g (fun h=>e3 g h hg)]
  simp[aC,(e1 g hg).2.2.1]
 have dM:Sub bl b2:=fun g b hb=>by
  have z1:g≠g1:=fun h=>by rw[h,hb1] at hb;cases hb
  have z2:g≠g2:=fun h=>by rw[h,hb2] at hb;cases hb
  have z3:g≠g3:=fun h=>by rw[h,hb3] at hb;cases hb
  have hn1:g∉gs1:=fun h=>by rw[(e1 g h).2.2.2] at hb;cases hb
  have hb1:b1 g=some b:=by rw[fr1 g hn1];simp[aC,z1,z2,z3,hb]
  have hn2:g∉gs2:=fun h=>by rw[(e2 g h).2] at hb1;cases hb1
  rw[fr2 g hn2]
  simp[aC,z3,hb1]
 refine fJ [.agg [v1,v2]] (gs1++gs2) ?_ ?_ ?_ ?_
 ·simp[h21,h31,h32,Ne.symm h21,Ne.symm h31,Ne.symm h32,m1,m2,m3]
 ·show OwnD _ (.a (G4 s)) (.agg [v1,v2]) (gs1++gs2)
  rw[OwnD]
  refine⟨_,rfl,jO.2 ⟨v1,v2,gs1,gs2,rfl,rfl,fun g h1 h2=>e3 g h2 h1,?_,?_⟩⟩
  ·exact k1.frame fun g hg=>by simp[aC,(e1 g hg).2.1,(e1 g hg).2.2.1]
  ·exact o2.frame fun g hg=>by simp[aC,(e2 g hg).1,e4 g hg]
 ·intro g hg
  rcases List.mem_append.1 hg with hg | hg
  ·exact(e1 g hg).2.2.2
  ·have h2:=(e2 g hg).2
   rw[fr1 g (e3 g hg)] at h2
   simp[aC] at h2
   grind
 ·simp[hb2,hb3];exact dM
structure Str.sz (s : Str) : Prop where
 js:s.js.length≤140737488351232
 ms:s.ms.length≤140737488351232
 nm: ∀j,j∈s.js→j.name.size≤140737488351232
theorem Hd {bl:Int→Option Blk} {s:Str} {vs:List V} {gs:List Int} (h:OwnL bl (G4 s) vs gs) (n:Nat):frz bl (n+2) (.agg vs)=some (.agg s.c):=by
 have h1:OwnD bl (.a (G4 s)) (.agg vs) gs:=by rw[OwnD];exact⟨vs,rfl,h⟩
 rw[h1.frz (n:=n+2) (by rw[D.dep];refine⟨by omega,?_⟩;simp[G4,D.depL,jL])]
 simp[D.fz,G4,D.fzL,Str.c]
theorem Tw {bl:Int→Option Blk} {s:Str} {v:V} {gs:List Int} (h:OwnD bl (.a (G4 s)) v gs): ∃v1 v2,v= .agg [v1,v2]∧OwnL bl (G4 s) [v1,v2] gs∧v1.one=true∧v1.cells= [v1]∧v2.one=true∧v2.cells= [v2]:=by
 rw[OwnD] at h
 obtain⟨vs,rfl,o⟩:=h
 obtain⟨v1,v2,ga,gb,rfl,rfl,hd,o1,o2⟩:=jO.1 o
 exact⟨v1,v2,rfl,o,o1.one.1,o1.one.2,o2.one.1,o2.one.2⟩
end Go.Proofs.YticmgmemnpcbbaaGreat.Vm
