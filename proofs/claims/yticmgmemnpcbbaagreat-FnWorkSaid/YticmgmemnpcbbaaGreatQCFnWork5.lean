import Derived.Test.YticmgmemnpcbbaaGreatQCFnWork4

namespace Go.Proofs.YticmgmemnpcbbaaGreat.Vm
open Go Go.Proofs
set_option linter.unusedSimpArgs false
set_option linter.unusedVariables false
theorem A0 {n:Nat} (h:(lim n).length≤60):iN (lim n)=true:=by unfold iN;simp[h]
theorem Ak :lim 9223372036854775807= [854775807,223372036,9]:=by
 refine Rr ?_ (by decide+kernel) (.inr (by decide+kernel))
 intro d hd
 simp at hd
 omega
theorem Ac {a b:Nat} :iE a b≤0 ↔ a≤b:=by unfold iE;split<;>(try split)<;>omega
theorem K1 (n k:Nat):val ((lim n).drop k)≤n:=by
 rcases Nat.lt_or_ge (lim n).length k with h | h
 ·rw[List.drop_of_length_le (by omega)];exact Nat.zero_le _
 ·have:=iG (lim n) h
  rw[dE] at this
  have hp:1≤LB^k:=Nat.pow_pos gU
  have:=Nat.mul_le_mul_right (val ((lim n).drop k)) hp
  omega
theorem tF (n:Nat) (hn:n≤9223372036854775807):RO Tryz.prog 284 [.sl (iv (lim n))] (.tup [.int .i64 n,.bool true]):=by
 have hL:=qH (show n≤18446744073709551615 by omega)
 refine aI Tryz.func284 rfl rfl (by rw[Tryz.ntmps284];simp) fun bl=> ?_
 rw[Tryz.ntmps284,Tryz.results284]
 refine aC ?_
 simp
 refine Nd [(0,.sl (iv (lim n)))] _ bl 14 (.bool false) ⟨rfl,by simp,Sub.refl _⟩ rfl ?_ ?_
 ·simp
  refine aD (oQ _ (by omega)) ?_
  simp[A0 (show(lim n).length≤60 by omega)]
  intro g hg0 hg
  refine bS 1 (ys:= [.sl (iv (lim n)),.sl (iv (lim 9223372036854775807))]) ?_ (sG n 9223372036854775807 (by omega) (by rw[Ak];simp)) rfl ?_
  ·have er3:List.range 3= [0,1,2]:=rfl
   simp[frzL,frz,Ak,iv,V.cl,Int.not_lt.2 hg0,er3]
  simp[hg]
  have:=Ac.2 hn
  omega
 have w0:IntKind.i64.wrap (((lim n).length:Int) - 1)=((lim n).length:Int) - 1:=i64_in (by omega) (by omega)
 simp[w0]
 refine aK (fun p:Nat×Int=> [(0,.sl (iv (lim n))),(4,.int .i64 p.2),(5,.int .i64 ((p.1:Int) - 1))]) (fun _=>bl) (fun p=>p.1≤(lim n).length∧p.2=(val ((lim n).drop p.1):Nat)) (fun p=>p.1) _ ((lim n).length,0) ⟨Nat.le_refl _,by simp[val]⟩ ⟨rfl,by simp,Sub.refl _⟩ ?_
 rintro⟨k,x⟩ ⟨hk,hx⟩
 simp only at hk hx
 refine aC ?_
 simp[-binV, -intV]
 refine⟨fun h1=> ?_,fun h1=> ?_⟩
 ·obtain⟨m,rfl⟩: ∃m,k=m+1:=⟨k - 1,by omega⟩
  have hm:m<(lim n).length:=by omega
  have e1:((m+1:Nat):Int) - 1=m:=by omega
  have hv:val ((lim n).drop m)=dg n m+LB*val ((lim n).drop (m+1)):=by
   rw[List.drop_eq_getElem_cons hm,val,fA hm,Int.toNat_natCast]
  have hle:=K1 n m
  have hLB:LB=1000000000:=rfl
  rw[hLB] at hv
  have w1:IntKind.i64.wrap (x*1000000000)=x*1000000000:=i64_in (by omega) (by omega)
  have w2:IntKind.i64.wrap (x*1000000000+dg n m)=x*1000000000+dg n m:=i64_in (by omega) (by omega)
  have w3:IntKind.i64.wrap ((m:Int) - 1)=(m:Int) - 1:=i64_in (by omega) (by omega)
  simp[-binV, -intV,e1,bK _ _ hm,w1,w2,w3]
  refine⟨by omega,?_⟩
  rw[aB]
  refine⟨(m,x*1000000000+dg n m),⟨by simp only;omega,by simp only;omega⟩,by simp only;omega,rfl,by simp,Sub.refl _⟩
 ·have e:k=0:=by omega
  subst e
  have hx2:x=n:=by rw[hx];simp
  rw[hx2]
  exact aN [.int .i64 n,.bool true] 1 (by simp) rfl (Sub.refl _)
structure DL2 where
 lo:Int
 hi:Int
theorem M0 (r b n:Nat) (hn:(lim b).length=n+1) (hbr:b≤r) (hrb:r<LB*b) (hl:n≤300000):RO Tryz.prog 296 [.sl (iv (lim r)),.sl (iv (lim b))] (.int .i64 (r / b:Nat)):=by
 have ht:0<dg b n:=D7 hn
 have htl:=dQ b n
 have hb0:0<b:=by
  rcases Nat.eq_zero_or_pos b with h | h
  ·rw[h,aU] at hn;simp at hn
  ·exact h
 have hlr:n+1≤(lim r).length:=by have:=bI hbr;omega
 have hbl:b<LB^(n+1):=aF.1 (by omega)
 have aOE:(lim r).length≤n+2:=by
  refine aF.2 (Nat.lt_of_lt_of_le hrb ?_)
  rw[Nat.pow_succ,Nat.mul_comm]
  exact Nat.mul_le_mul_right _ (Nat.le_of_lt hbl)
 have hLB:LB=1000000000:=rfl
 have er:r=(dg r (n+1)*LB+dg r n)*LB^n+pv r n:=by
  have h1:=cX r n
  have h2:=cX r (n+1)
  rw[gE (by omega)] at h2
  have e1:dg r (n+1)*LB*LB^n=LB^n*LB*dg r (n+1):=by ac_rfl
  have e2:dg r n*LB^n=LB^n*dg r n:=Nat.mul_comm _ _
  rw[Nat.pow_succ] at h2
  rw[Nat.add_mul]
  omega
 have eb:b=dg b n*LB^n+pv b n:=by
  have h1:=cX b n
  rw[gE (by omega)] at h1
  have e2:dg b n*LB^n=LB^n*dg b n:=Nat.mul_comm _ _
  omega
 obtain⟨x,hx⟩: ∃x,x=dg r (n+1)*LB+dg r n:=⟨_,rfl⟩
 have hlo:x / (dg b n+1)≤r / b:=by
  have:=Gz (x:=x) (rl:=pv r n) (O8 b n) ht
  rw[hx,←er,←eb,←hx] at this;exact this
 have hhi:r / b≤x / dg b n:=by
  have:=N4 (x:=x) (bl:=pv b n) (O8 r n) ht
  rw[hx,←er,←eb,←hx] at this;exact this
 have hq:r / b≤999999999:=by
  have:r / b<LB:=by rw[Nat.div_lt_iff_lt_mul hb0];exact hrb
  omega
 have hr1:=dQ r (n+1)
 have hr0:=dQ r n
 have hxl:x≤1000000000000000000:=by rw[hx,hLB];omega
 refine aI Tryz.func296 rfl rfl (by rw[Tryz.ntmps296];simp) fun bl=> ?_
 rw[Tryz.ntmps296,Tryz.results296]
 obtain⟨d1,hd1⟩: ∃d1:Int,d1=dg r (n+1):=⟨_,rfl⟩
 have w0:IntKind.i64.wrap (((lim b).length:Int) - 1)=(n:Int):=by rw[i64_in (by omega) (by omega)];omega
 have w1:IntKind.i64.wrap (d1*1000000000)=d1*1000000000:=i64_in (by omega) (by omega)
 have w2:IntKind.i64.wrap ((dg r n:Int)+d1*1000000000)=x:=by rw[i64_in (by omega) (by omega),hx,hLB];omega
 have w3:IntKind.i64.wrap ((dg b n:Int)+1)=(dg b n:Int)+1:=i64_in (by omega) (by omega)
 have lr:=bK r n (by omega)
 have lb:=bK b n (by omega)
 have q1:(iv (lim r))[(lim b).length]? =if(lim b).length<(lim r).length then some [.int .i64 d1] else none:=by
  split
  ·rename_i h;rw[bK _ _ h,hn,hd1]
  ·rename_i h;rw[List.getElem?_eq_none (by simp;omega)]
 have y1:(x:Int).tdiv ((dg b n:Int)+1)=(x / (dg b n+1):Nat):=by rw[Int.tdiv_eq_ediv_of_nonneg (by omega)];simp
 have y2:(x:Int).tdiv (dg b n:Int)=(x / dg b n:Nat):=by rw[Int.tdiv_eq_ediv_of_nonneg (by omega)];simp
 have y3:=wq (x:=(x:Int)) (n:=(dg b n:Int)+1) (by omega) (by omega) (by omega)
 have y4:=wq (x:=(x:Int)) (n:=(dg b n:Int)) (by omega) (by omega) (by omega)
 rw[y1] at y3
 rw[y2] at y4
 obtain⟨lo0,Vo⟩: ∃l:Int,l=(x / (dg b n+1):Nat):=⟨_,rfl⟩
 obtain⟨hi0,aFD⟩: ∃l:Int,l=(x / dg b n:Nat):=⟨_,rfl⟩
 rw[←Vo] at y1 y3
 rw[←aFD] at y2 y4
 have z1: ¬ (dg b n:Int)+1=0:=by omega
 have z2: ¬ dg b n=0:=by omega
 obtain⟨D,hD⟩: ∃D:Int,D=(r / b:Nat):=⟨_,rfl⟩
 rw[←hD]
 have hD0:0≤D:=by rw[hD];exact Int.natCast_nonneg _
 have hDq:D≤999999999:=by rw[hD];generalize r / b=z at hq ⊢;omega
 have aJ7:lo0≤D:=by rw[Vo,hD];generalize r / b=z at hlo ⊢;generalize x / (dg b n+1)=z2 at hlo ⊢;omega
 have aPK:D≤hi0:=by rw[aFD,hD];generalize r / b=z at hhi ⊢;generalize x / dg b n=z2 at hhi ⊢;omega
 have aFG:0≤lo0:=by rw[Vo];exact Int.natCast_nonneg _
 refine aE ?_
 simp
 refine aE ?_
 simp
 refine aE ?_
 simp[w0,lr]
 refine jY (fun _:Unit=> [(0,.sl (iv (lim r))),(1,.sl (iv (lim b))),(5,.int .i64 (lim b).length),(6,.int .i64 x)]) (fun _=>bl) (fun _=>True) 63 ?_ ?_
 ·refine aC ?_
  simp[-binV, -intV]
  refine⟨fun h=> ?_,fun h=> ?_⟩
  ·have q2:(lim r)[(lim b).length]'h=d1:=by rw[fA h,hn,hd1]
   simp[-binV, -intV,q1,h,q2,w1,w2]
   rw[aG]
   exact⟨(),trivial,rfl,by simp,Sub.refl _⟩
  ·have e0:dg r (n+1)=0:=kV (by omega)
   have ex:dg r n=x:=by rw[hx,e0];simp
   rw[aG]
   exact⟨(),trivial,rfl,by simp[ex],Sub.refl _⟩
 rintro _ _
 refine aC ?_
 simp[w0,lb,w3,y1,y2,y3,y4,z1,z2,minV]
 refine aK (fun p:DL2=> [(0,.sl (iv (lim r))),(1,.sl (iv (lim b))),(7,.int .i64 p.lo),(8,.int .i64 p.hi)]) (fun _=>bl) (fun p=>0≤p.lo∧p.lo≤D∧D≤p.hi∧p.hi≤999999999) (fun p=>(p.hi - p.lo).toNat) _ ⟨lo0,if hi0<999999999 then hi0 else 999999999⟩ ⟨aFG,aJ7,by simp only;split<;>omega,by simp only;split<;>omega⟩ ⟨rfl,by simp[minV],Sub.refl _⟩ ?_
 rintro⟨lo,hi⟩ ⟨a1,a2,a3,a4⟩
 simp only at a1 a2 a3 a4
 refine aC ?_
 simp
 refine⟨fun h=> ?_,fun h=> ?_⟩
 ·have v1:IntKind.i64.wrap (lo+hi)=lo+hi:=i64_in (by omega) (by omega)
  have v2:IntKind.i64.wrap (lo+hi+1)=lo+hi+1:=i64_in (by omega) (by omega)
  have v3:=wq (x:=lo+hi+1) (n:=2) (by omega) (by omega) (by omega)
  have v4:(lo+hi+1).tdiv 2=(((lo+hi+1) / 2).toNat:Nat):=by rw[Int.tdiv_eq_ediv_of_nonneg (by omega)];omega
  rw[v4] at v3
  obtain⟨q,hqq⟩: ∃q:Nat,q=((lo+hi+1) / 2).toNat:=⟨_,rfl⟩
  rw[←hqq] at v3 v4
  have hq2:(q:Int)=(lo+hi+1) / 2:=by omega
  have aO4:q≤999999999:=by omega
  simp[v1,v2,v3,v4]
  refine aD (eL q (by omega)) ?_
  simp
  have lq:(lim q).length≤3:=qH (by omega)
  refine aD (yQ b q (by omega) (by omega)) ?_
  simp
  have lbq:=iU (k:=300002) (l:=3) (show(lim b).length≤300002 by omega) lq
  refine aD (sG _ _ (by omega) (by omega)) ?_
  simp[Ac]
  have hdh:=W0 (r:=r) (q:=q) hb0
  refine⟨fun h2=> ?_,fun h2=> ?_⟩
  ·rw[aB]
   have h3:=hdh.1 h2
   refine⟨⟨q,hi⟩,⟨by simp only;omega,?_,a3,a4⟩,by simp only;omega,rfl,by simp,Sub.refl _⟩
   simp only
   rw[hD]
   generalize r / b=z at h3 ⊢
   omega
  ·have v5:IntKind.i64.wrap ((q:Int) - 1)=(q:Int) - 1:=i64_in (by omega) (by omega)
   simp[v5]
   rw[aB]
   have h3: ¬ q≤r / b:=fun hh=>by have:=hdh.2 hh;omega
   refine⟨⟨lo,(q:Int) - 1⟩,⟨a1,a2,?_,by simp only;omega⟩,by simp only;omega,rfl,by simp,Sub.refl _⟩
   simp only
   rw[hD]
   generalize r / b=z at h3 ⊢
   omega
 ·have:lo=D:=by omega
  rw[this]
  exact aM (by simp) rfl rfl
theorem Co {r d k:Nat} (hr:(lim r).length≤k) (hd:d<1000000000):(lim (r*1000000000+d)).length≤k+1:=by
 refine aF.2 ?_
 have h5:=aF.1 hr
 have e:LB^(k+1)=LB^k*1000000000:=Nat.pow_succ ..
 rw[e]
 generalize LB^k=P at h5 ⊢
 omega
structure SD where
 g:Int
 i:Nat
 Q:List Int
 r:Nat
theorem sA (a b:Nat) (hb0:0<b) (ha:(lim a).length≤200000) (hbl:(lim b).length≤200000):RO Tryz.prog 286 [.sl (iv (lim a)),.sl (iv (lim b))] (.tup [.sl (iv (lim (a / b))),.sl (iv (lim (a % b)))]):=by
 refine aI Tryz.func286 rfl rfl (by rw[Tryz.ntmps286];simp) fun bl=> ?_
 rw[Tryz.ntmps286,Tryz.results286]
 refine aE ?_
 simp
 refine aE ?_
 simp
 refine⟨fun h1=> ?_,fun h1=> ?_⟩
 ·have h1':(lim b).length=1:=by omega
  obtain⟨b1,b2,b3⟩:=Ow h1'
  simp[bK b 0 (by omega),b1]
  refine aD (G3 a b (by omega) b3 b2) ?_
  have hr:a % b<b:=Nat.mod_lt _ b3
  obtain⟨r,hr2⟩: ∃r,r=a % b:=⟨_,rfl⟩
  rw[←hr2] at hr ⊢
  simp
  refine aD (eL r (by omega)) ?_
  simp
  exact aN [.sl (iv (lim (a / b))),.sl (iv (lim r))] 1 (by simp) rfl (Sub.refl _)
 have hbz:(lim b).length≠0:=fun h0=>by have:=cW.1 (List.length_eq_zero_iff.1 h0);omega
 obtain⟨n,hn⟩: ∃n,(lim b).length=n+1:=⟨(lim b).length - 1,by omega⟩
 have w0:IntKind.i64.wrap (((lim a).length:Int) - 1)=((lim a).length:Int) - 1:=i64_in (by omega) (by omega)
 refine aC ?_
 simp
 refine⟨by omega,by unfold maxLen;omega,fun g8 hg8 hb8 g9 hg9 h98 hb9=> ?_⟩
 have er:List.replicate ((lim a).length) [V.int IntKind.i64 0]=iv (List.replicate ((lim a).length) 0):=by simp[iv]
 simp[er,w0]
 have aDI:bl g8=none:=by simpa using hb8
 refine bZ 1 9 (.sl (iv (lim 0))) (upd bl g8 (some ⟨1,iv (List.replicate (lim a).length 0)⟩)) (by simp[h98,hb9]) ?_ ?_
 ·rw[aU]
  exact cM hg9 (by simp[h98,hb9]) (by simp;rfl) rfl rfl
 refine aK (fun p:SL=> [(0,.sl (iv (lim a))),(1,.sl (iv (lim b))),(8,.lsl g8 1 0 (lim a).length),(9,.sl (iv (lim p.r.toNat))),(10,.int .i64 ((p.i:Int) - 1))]) (fun p=>upd bl g8 (some ⟨1,iv (List.replicate p.i 0++p.Q)⟩))
  (fun p=>nE a b p.i p.Q p.r.toNat) (fun p=>p.i) _ ⟨(lim a).length,[],0⟩ (nE.start a b hb0) ⟨rfl,by simp,sub_eq (by simp)⟩ ?_
 rintro⟨i,Q,r⟩ hI
 simp only at hI
 have hr:=hI.rlt
 have hle:=hI.le
 have hql:=hI.len
 generalize r.toNat=r at *
 refine aC ?_
 simp
 refine⟨fun h1=> ?_,fun h1=> ?_⟩
 ·obtain⟨m,rfl⟩: ∃m,i=m+1:=⟨i - 1,by omega⟩
  have hm:m<(lim a).length:=by omega
  have hd:=dQ a m
  obtain⟨z,hz⟩: ∃z,z=r*1000000000+dg a m:=⟨_,rfl⟩
  have hN:=hI.next (q:=z / b) (r':=z % b) (by rw[hz]) (by rw[hz])
  have e1:((m+1:Nat):Int) - 1=m:=by omega
  have er1:List.range 1= [0]:=rfl
  have hrl:(lim r).length≤200000:=mE (Nat.le_of_lt hr) hbl
  simp[e1,bK _ _ hm]
  refine⟨by omega,?_⟩
  intro g2 hg2 h28 hb2
  have cO:((iv (lim r)).all fun c=>c.length==1 && c.all V.one)=true:=by simp[iv]
  simp[h28,Ne.symm h28,appV,elsV,Int.not_lt.2 hg2,cO,er1]
  refine⟨by omega,fun g3 hg3 hb3=> ?_⟩
  have gZ:g3≠g8∧bl g3=none:=by grind
  have hv:val ((dg a m:Int)::lim r)=z:=by
   have hLB:LB=1000000000:=rfl
   rw[val,dE,hLB,hz];simp;omega
  have hD:Dig ((dg a m:Int)::lim r):=fun d hd2=>by
   rcases List.mem_cons.1 hd2 with rfl | hd2
   ·omega
   ·exact eR r d hd2
  refine gK 1 (upd bl g8 (some ⟨1,iv (List.replicate (m+1) 0++Q)⟩)) _ ?_ (jP (ns:=(dg a m:Int)::lim r) hg3 (by simp[gZ.1,gZ.2]) (by simp[iv]) (by simp)) (fB _ hD (by simp;omega)) ?_
  ·intro u y hu
   simp only[aA,aJ] at hu ⊢
   grind
  rw[hv]
  have hzr:(lim z).length≤200001:=by rw[hz];exact Co hrl hd
  simp
  refine aD (sG z b (by omega) (by omega)) ?_
  have w3:IntKind.i64.wrap ((m:Int) - 1)=(m:Int) - 1:=i64_in (by omega) (by omega)
  simp[Ay]
  refine⟨fun h5=> ?_,fun h5=> ?_⟩
  ·rw[Nat.div_eq_of_lt h5,Nat.mod_eq_of_lt h5] at hN
   simp[w3]
   rw[aB]
   refine⟨⟨m,0::Q,z⟩,by simpa using hN,by simp only;omega,rfl,by simp,sub_eq ?_⟩
   rw[←Di]
  ·have hzb:z<LB*b:=by
    have hLB:LB=1000000000:=rfl
    rw[hLB,hz];omega
   refine aD (M0 z b n hn h5 hzb (by omega)) ?_
   have q5:(iv (List.replicate (m+1) 0++Q))[m]? =some [.int .i64 0]:=by rw[cH _ _ (by simp;omega)];simp
   have hqq:z / b≤999999999:=by
    have:z / b<LB:=by rw[Nat.div_lt_iff_lt_mul hb0];exact hzb
    have hLB:LB=1000000000:=rfl
    omega
   obtain⟨q,hq⟩: ∃q,q=z / b:=⟨_,rfl⟩
   have aLG:z - b*q=z % b:=by rw[hq];have:=Nat.div_add_mod z b;omega
   have aLS:b*q≤z:=by rw[hq];exact Nat.mul_div_le z b
   rw[←hq] at hqq hN ⊢
   simp[q5,hm]
   refine aD (eL q (by omega)) ?_
   simp
   have lq:(lim q).length≤3:=qH (by omega)
   refine aD (yQ b q (by omega) (by omega)) ?_
   simp
   refine aD (Dc z (b*q) aLS (by omega)) ?_
   rw[aLG]
   simp[w3]
   rw[aB]
   refine⟨⟨m,(q:Int)::Q,(z % b:Nat)⟩,by simp only[Int.toNat_natCast];exact hN,by simp only;omega,rfl,by simp only[Int.toNat_natCast];simp,sub_eq ?_⟩
   rw[←mS m _ 0 Q,←dP]
 ·have e:i=0:=by omega
  subst e
  obtain⟨h2,h3⟩:=hI.done
  refine gK 1 bl _ (by simp[aDI]) (jP (ns:=Q) hg8 aDI (by simp) (by simp[hql])) (fB _ hI.dig (by omega)) ?_
  rw[h2,h3]
  simp
  exact aN [.sl (iv (lim (a / b))),.sl (iv (lim (a % b)))] 1 (by simp) rfl (by simp)
theorem uG {bl bl0:Int→Option Blk} {g:Int} {ns:List Int} (h0:0≤g∨ns= []) (hg:bl0 g=none) (hb:bl g=some ⟨1,iv ns⟩):frz (dropB bl bl0) 1 (.lsl g 1 0 ns.length)=some (.sl (iv ns)):=by
 rcases Int.lt_or_le g 0 with h | h
 ·have:ns= []:=by rcases h0 with h0 | h0;omega;exact h0
  subst this
  unfold frz
  rw[if_pos h];rfl
 ·exact cM h hg hb (by simp) (lS ns)
theorem Cj (a b:Nat) (ha:(lim a).length≤200000) (hb:(lim b).length≤200000):RO Tryz.prog 263 [.sl (iv (lim a)),.sl (iv (lim b))] (.sl (iv (lim (Nat.gcd a b)))):=by
 have cO: ∀n:Nat,((iv (lim n)).all fun c=>c.length==1 && c.all V.one)=true:=fun n=>by simp[iv]
 have aB1: ∀n:Nat,iv (lim n)= []→lim n= []:=fun n h=>by simpa [iv] using h
 refine aI Tryz.func263 rfl rfl (by rw[Tryz.ntmps263];simp) fun bl=> ?_
 rw[Tryz.ntmps263,Tryz.results263]
 refine aC ?_
 simp
 intro g0 hg0 hb0
 simp[appV,elsV,cO,Int.not_lt.2 hg0]
 refine⟨by omega,fun g1 hg1 hb1 g2 hg2 n21 hb2=> ?_⟩
 have K8:bl g2=none:=by grind
 have aLY:bl g1=none:=by grind
 try simp[appV,elsV,cO,Int.not_lt.2 hg2]
 refine⟨by omega,fun g3 hg3 hb3=> ?_⟩
 have n31:g3≠g1:=by grind
 have gZ:bl g3=none:=by grind
 refine bZ 1 5 (.sl (iv (lim a))) (upd bl g3 (some ⟨1,iv (lim b)⟩)) ?_ ?_ ?_
 ·intro u y hu
  simp only[aA,aJ] at hu ⊢
  grind
 ·exact uG (hg1.imp id (aB1 a)) (by simp[Ne.symm n31,aLY]) (by simp[n21,Ne.symm n21,n31,Ne.symm n31])
 refine bZ 1 6 (.sl (iv (lim b))) bl (by simp[gZ]) ?_ ?_
 ·exact uG (hg3.imp id (aB1 b)) gZ (by simp)
 refine aK (fun p:Nat×Nat=> [(5,.sl (iv (lim p.1))),(6,.sl (iv (lim p.2)))]) (fun _=>bl) (fun p=>Nat.gcd p.1 p.2=Nat.gcd a b∧(lim p.1).length≤200000∧(lim p.2).length≤200000) (fun p=>p.2) _ (a,b) ⟨rfl,ha,hb⟩ ⟨rfl,by simp,Sub.refl _⟩ ?_
 rintro⟨x,y⟩ ⟨hg,hx,hy⟩
 simp only at hg hx hy
 refine aC ?_
 simp
 refine⟨fun h=> ?_,fun h=> ?_⟩
 ·have hy0:0<y:=(mT y).1 (by simpa using h)
  refine aV [(5,.sl (iv (lim x))),(6,.sl (iv (lim y)))] _ bl 29 (.bool (decide ((lim x).length<3)&& decide ((lim y).length<3))) ⟨rfl,by simp,Sub.refl _⟩ rfl ?_ ?_
  ·simp
   refine⟨fun h3=> ?_,fun h3 h4=>by omega⟩
   rw[Bool.eq_iff_iff];simp;omega
  simp
  refine⟨fun h1 h2=> ?_,fun h1=> ?_⟩
  ·have bx:x≤9223372036854775807:=by
    have:=aF.1 (show(lim x).length≤2 by omega)
    have e:LB^2=1000000000000000000:=by decide+kernel
    omega
   have by':y≤9223372036854775807:=by
    have:=aF.1 (show(lim y).length≤2 by omega)
    have e:LB^2=1000000000000000000:=by decide+kernel
    omega
   refine aD (tF x bx) ?_
   simp
   refine aD (tF y by') ?_
   simp
   refine aD (F8 x y bx by') ?_
   rw[hg]
   simp
   exact aM (by simp) rfl rfl
  ·refine aD (sA x y hy0 hx hy) ?_
   simp
   rw[aB]
   have hlt:=Nat.mod_lt x hy0
   refine⟨(y,x % y),⟨?_,hy,?_⟩,hlt,rfl,by simp,Sub.refl _⟩
   ·rw[←hg,Nat.gcd_comm x y,Nat.gcd_rec y x,Nat.gcd_comm]
   ·exact Nat.le_trans (bI (Nat.le_of_lt hlt)) hy
 ·have h0:y=0:=cW.1 (by simpa using h)
  subst h0
  rw[Nat.gcd_zero_right] at hg
  rw[←hg]
  exact aM (by simp) rfl rfl

theorem M8 {bl bl0:Int→Option Blk} {g:Int} {ns:List Int} {b:Bool} (h0:0≤g∨ns= []) (hg:bl0 g=none) (hb:bl g=some ⟨1,iv ns⟩):frz (dropB bl bl0) 2 (.agg [.bool b,.lsl g 1 0 ns.length])=some (.agg [.bool b,.sl (iv ns)]):=by
 have h1:=uG h0 hg hb
 have h2:frz (dropB bl bl0) 1 (.bool b)=some (.bool b):=by simp[frz]
 rw[uP]
 simp only[List.mapM_cons,List.mapM_nil,h1,h2]
 rfl
theorem pQ (neg:Bool) (m:Nat) (hm:(lim m).length≤60):RO Tryz.prog 254 [.bool neg,.sl (iv (lim m))] (.agg (biC (sg neg m))):=by
 have cO:((iv (lim m)).all fun c=>c.length==1 && c.all V.one)=true:=by simp[iv]
 refine aI Tryz.func254 rfl rfl (by rw[Tryz.ntmps254];simp) fun bl=> ?_
 rw[Tryz.ntmps254,Tryz.results254]
 refine aC ?_
 simp
 intro g hg0 hg
 refine aD (Ea (lim m) (eR m) (by omega)) ?_
 rw[dE,if_pos hm]
 simp
 cases neg
 all_goals
  refine sX (sB ?_)
  simp
  intro g1 hg1 h1g hb1
  simp[h1g,Ne.symm h1g,appV,elsV,Int.not_lt.2 hg1,cO]
  refine⟨by omega,fun g2 hg2 hb2=> ?_⟩
  have h2g:g2≠g:=by grind
  have K8:bl g2=none:=by grind
  have hnn:0≤g2∨lim m= []:=hg2.imp id (fun h=>by simpa [iv] using h)
  simp[h1g,Ne.symm h1g,h2g,Ne.symm h2g]
 ·refine aN [.agg [.bool false,.lsl g2 1 0 (lim m).length]] 2 (by simp[h1g,Ne.symm h1g,h2g,Ne.symm h2g]) ?_ (by simp[hg,hb1,K8,h1g,h2g])
  rw[D0]
  exact M8 hnn K8 (by simp[h2g])
 ·refine aN [.agg [.bool (decide (0<(lim m).length)),.lsl g2 1 0 (lim m).length]] 2 (by simp[h1g,Ne.symm h1g,h2g,Ne.symm h2g]) ?_ (by simp[hg,hb1,K8,h1g,h2g])
  rw[D0]
  exact M8 hnn K8 (by simp[h2g])
theorem zH (n:Nat):RO Tryz.prog 262 [.sl (iv (lim n))] (.bool (decide (n=1))):=by
 refine aI Tryz.func262 rfl rfl (by rw[Tryz.ntmps262];simp) fun bl=> ?_
 rw[Tryz.ntmps262,Tryz.results262]
 refine aC ?_
 simp
 refine aV [(0,.sl (iv (lim n)))] _ bl 2 (.bool (decide (n=1))) ⟨rfl,by simp,Sub.refl _⟩ rfl ?_ ?_
 ·simp
  by_cases h:(lim n).length=1
  ·obtain⟨k1,k2,k3⟩:=Ow h
   simp[h,bK n 0 (by omega),k1,mN]
   rw[fA (by omega),k1]
   omega
  ·have hn:n≠1:=fun e=>h (by rw[e,Y1];rfl)
   have h2: ¬ ((lim n).length:Int)=1:=by omega
   simp[h,h2,hn]
 simp
 exact aM (by simp) rfl rfl
def sgq (x:Option Rat):Int:=match x with | some q=>q.num.sign | none=>0

structure SP where
 lo:RT
 hi:RT
 nl:Bool
 nh:Bool
def SP.c (s:SP):List V:= [.bool s.lo.neg,.sl (iv s.lo.m),.sl (iv s.lo.d),.bool s.hi.neg,.sl (iv s.hi.m),.sl (iv s.hi.d),.bool s.nl,.bool s.nh]
def RT.le (r:RT) (k:Nat):Prop:=r.m.length≤k∧r.d.length≤k
def SP.le (s:SP) (k:Nat):Prop:=s.lo.le k∧s.hi.le k
def aB6 (s:SP):Bool:=match rd s.lo,rd s.hi with
 | some a, some b => (s.nl && decide (a.num.sign ≠ 0)) || (s.nh && decide (b.num.sign ≠ 0))
 | _, _ => true
def Sx (s:SP):Bool:=match rd s.lo,rd s.hi with
 | some a, some b => (s.nl || s.nh) || decide (aK5 a b ≤ 0)
 | _, _ => false
def aKO (s:SP):Bool:= !aB6 s && Sx s

def J2 (neg:Bool) (a b:Nat):Option Rat:=if b=0 then none else fit (mkRat (sg neg a) b)
theorem Be {bl bl0:Int→Option Blk} {g:Int} {ns ms:List Int} {b:Bool} (h0:0≤g∨ns= []) (hg:bl0 g=none) (hb:bl g=some ⟨1,iv ns⟩):frz (dropB bl bl0) 2 (.agg [.bool b,.sl (iv ms),.lsl g 1 0 ns.length])=some (.agg [.bool b,.sl (iv ms),.sl (iv ns)]):=by
 have h1:=uG h0 hg hb
 have h2:frz (dropB bl bl0) 1 (.bool b)=some (.bool b):=by simp[frz]
 have h3:frz (dropB bl bl0) 1 (.sl (iv ms))=some (.sl (iv ms)):=by simp[frz]
 rw[uP]
 simp only[List.mapM_cons,List.mapM_nil,h1,h2,h3]
 rfl
theorem Tk (neg:Bool) (a b:Nat) (hb:b≠0):(rq (mkRat (sg neg a) b)).c=biC (sg neg (a / Nat.gcd a b))++ [.sl (iv (lim (b / Nat.gcd a b)))]:=by
 have hg:0<Nat.gcd a b:=Nat.gcd_pos_of_pos_right _ (by omega)
 rw[Ap _ hb,RT.c,sJ,bA,sJ]
 simp only[List.cons_append,List.nil_append]
 rw[T5,T5]
 have:(0<a / Nat.gcd a b) ↔ 0<a:=by
  constructor
  ·intro h;rcases Nat.eq_zero_or_pos a with h0 | h0
   ·rw[h0] at h;simp at h
   ·exact h0
  ·intro h;exact Nat.div_pos (Nat.gcd_le_left _ h) hg
 rw[decide_eq_decide.2 this]
theorem Cp (neg:Bool) (a b:Nat) (ha:(lim a).length≤60) (hb:(lim b).length≤60):RO Tryz.prog 265 [.bool neg,.sl (iv (lim a)),.sl (iv (lim b))] (.agg (ro (J2 neg a b)).c):=by
 have cO: ∀m,((iv (lim m)).all fun c=>c.length==1 && c.all V.one)=true:=fun m=>by simp[iv]
 refine aI Tryz.func265 rfl rfl (by rw[Tryz.ntmps265];simp) fun bl=> ?_
 rw[Tryz.ntmps265,Tryz.results265]
 refine aE ?_
 simp
 intro g hg0 hg
 refine aE ?_
 simp
 refine aD (fB (lim a) (eR a) (by omega)) ?_
 rw[dE]
 simp
 refine aE ?_
 simp
 refine aD (fB (lim b) (eR b) (by omega)) ?_
 rw[dE]
 simp
 refine aE ?_
 simp
 refine⟨fun h=> ?_,fun h=> ?_⟩
 ·have hb0:b=0:=by simpa [cW] using h
  exact aN [.agg [.bool false,.nils,.nils]] 1 (by simp) (by simp[frz,J2,hb0,ro,rz,RT.c,V.cl,iv]) (by simp[hg])
 have hb0:b≠0:=fun e=>h (by rw[e,aU])
 have hg1:=Nat.gcd_pos_of_pos_right a (show 0<b by omega)
 refine jY (fun _:Unit=> [(0,.bool neg),(6,.loc g 3 0 0),(7,.sl (iv (lim (a / Nat.gcd a b)))),(8,.sl (iv (lim (b / Nat.gcd a b))))]) (fun _=>upd bl g (some ⟨3,[[.bool false,.nils,.nils]]⟩)) (fun _=>True) 55 ?_ ?_
 ·refine aC ?_
  simp
  refine aD (zH _) ?_
  simp
  refine⟨fun h1=> ?_,fun h1=> ?_⟩
  ·refine aD (Cj _ _ (by omega) (by omega)) ?_
   simp
   refine aD (zH _) ?_
   simp
   refine⟨fun h2=> ?_,fun h2=> ?_⟩
   ·have hgl:=E7 ha hb
    refine aD (sA a (Nat.gcd a b) hg1 (by omega) (by omega)) ?_
    simp
    refine aD (sA b (Nat.gcd a b) hg1 (by omega) (by omega)) ?_
    simp[aG]
    exact⟨rfl,by simp,Sub.refl _⟩
   ·simp[aG]
    exact⟨rfl,by simp[h2],Sub.refl _⟩
  ·have h2:Nat.gcd a b=1:=by rw[h1];exact Nat.gcd_one_right a
   simp[aG]
   exact⟨rfl,by simp[h2],Sub.refl _⟩
 intro _ _
 have e2:=Tk neg a b hb0
 have hx:(lim (a / Nat.gcd a b)).length≤60:=mE (Nat.div_le_self _ _) ha
 have hy:(lim (b / Nat.gcd a b)).length≤60:=mE (Nat.div_le_self _ _) hb
 have hr:ro (J2 neg a b)=if(lim (a / Nat.gcd a b)).length≤24∧(lim (b / Nat.gcd a b)).length≤24 then rq (mkRat (sg neg a) b) else rz:=by
  have e3:=Ap (sg neg a) hb0
  have e4:fits (mkRat (sg neg a) b) ↔ (lim (a / Nat.gcd a b)).length≤24∧(lim (b / Nat.gcd a b)).length≤24:=by
   have e5:=congrArg RT.m e3
   have e6:=congrArg RT.d e3
   simp only[rq,sJ] at e5 e6
   unfold fits
   rw[e5,e6]
  unfold J2 fit
  rw[if_neg hb0]
  by_cases hf:fits (mkRat (sg neg a) b)
  ·rw[if_pos hf,if_pos (e4.1 hf)];rfl
  ·rw[if_neg hf,if_neg (fun h=>hf (e4.2 h))];rfl
 obtain⟨x,ex⟩: ∃x,a / Nat.gcd a b=x:=⟨_,rfl⟩
 obtain⟨y,ey⟩: ∃y,b / Nat.gcd a b=y:=⟨_,rfl⟩
 rw[ex,ey] at hr e2
 rw[ex] at hx
 rw[ey] at hy
 rw[ex,ey,hr]
 refine aC ?_
 simp
 refine dN [(0,.bool neg),(6,.loc g 3 0 0),(7,.sl (iv (lim x))),(8,.sl (iv (lim y)))] _ _ 46 (.bool (!decide ((lim x).length≤24∧(lim y).length≤24))) (upd bl g (some ⟨3,[[.bool false,.nils,.nils]]⟩)) ⟨rfl,by simp,Sub.refl _⟩ rfl ?_ ?_
 ·simp
  refine⟨fun h=> ?_,fun h=> ?_⟩
  ·omega
  ·rw[Bool.eq_iff_iff]
   simp
   omega
 by_cases hc:(lim x).length≤24∧(lim y).length≤24
 ·simp only[hc,and_self,decide_true,Bool.not_true,if_true]
  simp
  refine aD (pQ neg x (by omega)) ?_
  simp
  intro g1 hg1 h1g hb1
  simp[h1g,Ne.symm h1g,appV,elsV,Int.not_lt.2 hg1,cO]
  refine⟨by omega,fun g2 hg2 hb2=> ?_⟩
  have h2g:g2≠g:=by grind
  have K8:bl g2=none:=by grind
  have hnn:0≤g2∨lim y= []:=hg2.imp id (fun h=>by simpa [iv] using h)
  simp[h1g,Ne.symm h1g,h2g,Ne.symm h2g,bA,sJ]
  refine aN [.agg [.bool (decide (sg neg x<0)),.sl (iv (lim x)),.lsl g2 1 0 (lim y).length]] 2 (by simp[h1g,Ne.symm h1g,h2g,Ne.symm h2g]) ?_ (by simp[hg,hb1,K8,h1g,h2g])
  rw[e2,bA,sJ]
  exact Be hnn K8 (by simp[h2g])
 ·simp only[hc,decide_false,Bool.not_false,if_false]
  simp
  exact aN [.agg [.bool false,.nils,.nils]] 1 (by simp) (by simp[frz,rz,RT.c,V.cl,iv]) (by simp[hg])
def nm (x:Option Rat):Int:=match x with | some q=>q.num | none=>0
def dn (x:Option Rat):Nat:=match x with | some q=>q.den | none=>0
theorem Ab {x:Option Rat} (h:okQ x):okQ (x.map (- ·)):=by
 intro q hq
 cases x with
 | none => cases hq
 | some a =>
   cases hq
   have:=h a rfl
   unfold fits at this ⊢
   rw[show(-a).num= -a.num from rfl,show(-a).den=a.den from rfl,Int.natAbs_neg];exact this
theorem L2 {x:Option Rat} (h:okQ x):rd (ro x)=x:=by
 cases x with
 | none => exact aG8
 | some q => exact aF7 (h q rfl)

theorem C5 {n:Int} (h0:0≤n) (h1:n≤18446744073709551615):IntKind.u64.wrap n=n:=IntWalk.u64_in _ ⟨by omega,by omega⟩
theorem pS (n:Int) (hn: -9223372036854775808≤n∧n≤9223372036854775807):RO Tryz.prog 160 [.int .i64 n] (.agg (biC n)):=by
 refine aI Tryz.func160 rfl rfl (by rw[Tryz.ntmps160];simp) fun bl=> ?_
 rw[Tryz.ntmps160,Tryz.results160]
 refine aC ?_
 simp
 intro g hg0 hg
 refine⟨fun h=> ?_,fun h=> ?_⟩
 ·have e:IntKind.u64.wrap (IntKind.u64.wrap (IntKind.i64.wrap (-IntKind.i64.wrap (n+1)))+1)=(n.natAbs:Int):=by
   have w1:IntKind.i64.wrap (n+1)=n+1:=i64_in (by omega) (by omega)
   have w2:IntKind.i64.wrap (-(n+1))= -(n+1):=i64_in (by omega) (by omega)
   have w3:IntKind.u64.wrap (-(n+1))= -(n+1):=C5 (by omega) (by omega)
   have w4:IntKind.u64.wrap (-(n+1)+1)= -(n+1)+1:=C5 (by omega) (by omega)
   rw[w1,w2,w3,w4]
   omega
  rw[e]
  refine aD (pH n.natAbs (by omega)) ?_
  simp
  refine aD (eK true n.natAbs) ?_
  have e2:sg true n.natAbs=n:=by unfold sg;simp;omega
  rw[e2,bA]
  simp
  exact aN [.agg (biC n)] 1 (by simp[bA]) (by simp[frz,bA,V.cl]) (by simp[hg])
 ·have e:IntKind.u64.wrap n=(n.natAbs:Int):=by rw[C5 (by omega) (by omega)];omega
  rw[e]
  refine aD (pH n.natAbs (by omega)) ?_
  simp
  refine aD (eK false n.natAbs) ?_
  have e2:sg false n.natAbs=n:=by unfold sg;simp;omega
  rw[e2,bA]
  simp
  exact aN [.agg (biC n)] 1 (by simp[bA]) (by simp[frz,bA,V.cl]) (by simp[hg])
theorem tG (n:Int) (hn: -9223372036854775808<n∧n≤9223372036854775807):RO Tryz.prog 215 [.int .i64 n] (.agg (biC n)):=by
 have hl:(lim n.natAbs).length≤60:=aF.2 (Nat.lt_of_le_of_lt (show n.natAbs≤9223372036854775808 by omega) (by decide+kernel))
 refine aI Tryz.func215 rfl rfl (by rw[Tryz.ntmps215];simp) fun bl=> ?_
 rw[Tryz.ntmps215,Tryz.results215]
 refine aC ?_
 simp
 intro g hg0 hg
 have h0: ¬ n= -9223372036854775808:=by omega
 simp[h0]
 refine⟨fun h=> ?_,fun h=> ?_⟩
 ·have e:IntKind.i64.wrap (-n)=(n.natAbs:Int):=by rw[i64_in (by omega) (by omega)];omega
  try rw[e]
  refine aD (eL n.natAbs (by omega)) ?_
  simp
  refine aD (pQ true n.natAbs hl) ?_
  have e2:sg true n.natAbs=n:=by unfold sg;simp;omega
  rw[e2,bA]
  simp
  exact aN [.agg (biC n)] 1 (by simp[bA]) (by simp[frz,bA,V.cl]) (by simp[hg])
 ·have e:n=(n.natAbs:Int):=by omega
  have hN:=eL n.natAbs (by omega)
  rw[←e] at hN
  refine aD hN ?_
  simp
  refine aD (pQ false n.natAbs hl) ?_
  have e2:sg false n.natAbs=n:=by unfold sg;simp;omega
  rw[e2,bA]
  simp
  exact aN [.agg (biC n)] 1 (by simp[bA]) (by simp[frz,bA,V.cl]) (by simp[hg])
theorem Rt (n:Int):(rq (n:Rat)).c= [.bool (decide (n<0)),.sl (iv (lim n.natAbs)),.sl [[.int .i64 1]]]:=by
 rw[fF]
 show [V.bool (decide (n<0)),V.sl (iv (lim n.natAbs)),V.sl (iv (lim 1))]=_
 rw[Y1];rfl
theorem uC {n:Int} (hn: -9223372036854775808≤n∧n≤9223372036854775807):okQ (some (n:Rat)):=fun q h=>by
 cases h;exact fits_int (by omega)
theorem jG (n:Int) (hn: -9223372036854775808≤n∧n≤9223372036854775807):RO Tryz.prog 83 [.int .i64 n] (fv (some (n:Rat))):=by
 refine aI Tryz.func83 rfl rfl (by rw[Tryz.ntmps83];simp) fun bl=> ?_
 rw[Tryz.ntmps83,Tryz.results83]
 refine aC ?_
 rw[show fv (some (n:Rat))= .ptr (rq (n:Rat)).c from rfl,Rt n]
 simp
 refine aD (pS n hn) ?_
 simp[bA]
 intro g1 hg1 hb1 g2 hg2 h21 hb2
 refine aN [.loc g2 3 0 0] 2 (by simp[h21,Ne.symm h21]) ?_ (by simp[hb1,hb2])
 have h1:=Be (bl0:=bl) (ms:=lim n.natAbs) (b:=decide (n<0)) (ns:= [1]) (g:=g1) (.inl hg1) hb1 (bl:=upd (upd bl g1 (some ⟨1,iv [1]⟩)) g2 (some ⟨3,[[.bool (decide (n<0)),.sl (iv (lim n.natAbs)),.lsl g1 1 0 1]]⟩)) (by simp[h21,Ne.symm h21])
 rw[uP] at h1
 show frz _ 2 (.loc g2 3 0 0)=_
 rw[kH (e:= [.bool (decide (n<0)),.sl (iv (lim n.natAbs)),.lsl g1 1 0 1]) (by simp[dropB,hb2])]
 obtain⟨e',he,h2⟩:=Option.map_eq_some_iff.1 h1
 cases h2
 exact(congrArg (Option.map V.ptr) he).trans rfl

end Go.Proofs.YticmgmemnpcbbaaGreat.Vm

namespace Go.Proofs.YticmgmemnpcbbaaGreat.Vm
open Go Go.Proofs
set_option linter.unusedSimpArgs false
set_option linter.unusedVariables false
def Sf (n:Int):Prop:= -9223372036854775808≤n∧n≤9223372036854775807
structure Mb.fit (m : Mb) : Prop where
 a:Sf m.a
 b:Sf m.b
 kind:Sf m.kind
structure Str.fit (s : Str) : Prop where
 js:s.js.length≤140737488351232
 ms:s.ms.length≤140737488351232
 names: ∀j,j∈s.js→j.name.size≤140737488351232
 aLP: ∀j,j∈s.js→j.fit
 members: ∀m,m∈s.ms→m.fit

def szR (r:RT) (left:Int):Int:=if less left r.m.length<0 then -1 else less (less left r.m.length) r.d.length
def aOD (s:SP) (left:Int):Int:=if szR s.lo left<0 then -1 else szR s.hi (szR s.lo left)

theorem kF {bl:Int→Option Blk} {d e:D} {vs:List V} {gs:List Int} :OwnL bl [d,e] vs gs ↔ ∃v w g1 g2,vs= [v,w]∧gs=g1++g2∧(∀g,g∈g1→g∉g2)∧OwnD bl d v g1∧OwnD bl e w g2:=by
 rw[OwnL]
 constructor
 ·rintro⟨v,vs',g1,g2,rfl,rfl,h1,h2,h3⟩
  rw[OwnL] at h3
  obtain⟨w,aOV,g3,g4,rfl,rfl,h4,h5,h6⟩:=h3
  rw[OwnL] at h6
  obtain⟨rfl,rfl⟩:=h6
  rw[List.append_nil] at h1 ⊢
  exact⟨v,w,g1,g3,rfl,rfl,h1,h2,h5⟩
 ·rintro⟨v,w,g1,g2,rfl,rfl,h1,h2,h3⟩
  refine⟨v,[w],g1,g2,rfl,rfl,h1,h2,?_⟩
  rw[OwnL]
  exact⟨w,[],g2,[],rfl,by simp,by simp,h3,by rw[OwnL];exact⟨rfl,rfl⟩⟩
theorem OwnD.one {bl:Int→Option Blk} {sz:Nat} {rows:List (List V)} {v:V} {gs:List Int} (h:OwnD bl (fl sz rows) v gs):v.one=true∧v.cells= [v]:=by
 unfold fl at h
 rw[OwnD] at h
 rcases h with ⟨_,rfl,_⟩| ⟨g,els,gs',rfl,_⟩<;>exact⟨rfl,rfl⟩
theorem dC {bl bl':Int→Option Blk} {gs:List Int} (h2: ∀g,g∈gs→bl g=none) (h3: ∀g,g∉gs→bl' g=bl g) {x:Int} {b:Blk} (hx:bl x=some b):bl' x=some b:=
 Made.sub (d:=default) (v:=default) h2 h3 x b hx
theorem OwnD.gL {bl bl':Int→Option Blk} {d:D} {v:V} {gs:List Int} (h:OwnD bl d v gs) (hg: ∀x,x∈gs→ ∀b,bl x=some b→bl' x=some b):OwnD bl' d v gs:=h.frame fun x hx=>by
 obtain⟨b,hb⟩:=h.has x hx
 rw[hb,hg x hx b hb]
theorem OwnL.gL {bl bl':Int→Option Blk} {d:List D} {v:List V} {gs:List Int} (h:OwnL bl d v gs) (hg: ∀x,x∈gs→ ∀b,bl x=some b→bl' x=some b):OwnL bl' d v gs:=h.frame fun x hx=>by
 obtain⟨b,hb⟩:=h.has x hx
 rw[hb,hg x hx b hb]
theorem OwnL.not {bl:Int→Option Blk} {d:List D} {v:List V} {gs:List Int} (h:OwnL bl d v gs) {g:Int} (hg:bl g=none):g∉gs:=fun hh=>by
 obtain⟨b,hb⟩:=h.has g hh
 rw[hg] at hb;cases hb
theorem OwnD.not {bl:Int→Option Blk} {d:D} {v:V} {gs:List Int} (h:OwnD bl d v gs) {g:Int} (hg:bl g=none):g∉gs:=fun hh=>by
 obtain⟨b,hb⟩:=h.has g hh
 rw[hg] at hb;cases hb
theorem OwnR.gL {bl bl':Int→Option Blk} {sz:Nat} {d:List (List D)} {v:List (List V)} {gs:List Int} (h:OwnR bl sz d v gs) (hg: ∀x,x∈gs→ ∀b,bl x=some b→bl' x=some b):OwnR bl' sz d v gs:=h.frame fun x hx=>by
 obtain⟨b,hb⟩:=h.has x hx
 rw[hb,hg x hx b hb]
theorem OwnR.not {bl:Int→Option Blk} {sz:Nat} {d:List (List D)} {v:List (List V)} {gs:List Int} (h:OwnR bl sz d v gs) {g:Int} (hg:bl g=none):g∉gs:=fun hh=>by
 obtain⟨b,hb⟩:=h.has g hh
 rw[hg] at hb;cases hb
theorem OwnR.snoc {bl:Int→Option Blk} {sz:Nat} {r:List D} {e:List V} {g2:List Int} (hr:OwnL bl r e g2) (hl:e.length=sz) (ho:e.all V.one=true): ∀ {rs:List (List D)} {els:List (List V)} {g1:List Int},OwnR bl sz rs els g1→(∀x,x∈g1→x∉g2)→OwnR bl sz (rs++ [r]) (els++ [e]) (g1++g2)
 | [], els, g1, h, hd => by
   rw[OwnR] at h
   obtain⟨rfl,rfl⟩:=h
   show OwnR bl sz [r] [e] g2
   rw[OwnR]
   exact⟨e,[],g2,[],rfl,by simp,by simp,hl,ho,hr,by rw[OwnR];exact⟨rfl,rfl⟩⟩
 | r1 :: rs, els, g1, h, hd => by
   rw[OwnR] at h
   obtain⟨e1,jK,ga,gb,rfl,rfl,h3,h4,h5,h6,h7⟩:=h
   have ih:=OwnR.snoc hr hl ho h7 fun x hx=>hd x (by simp[hx])
   show OwnR bl sz (r1::(rs++ [r])) (e1::(jK++ [e])) (ga++gb++g2)
   rw[OwnR]
   refine⟨e1,jK++ [e],ga,gb++g2,rfl,by simp,fun x hx hx2=> ?_,h4,h5,h6,ih⟩
   rcases List.mem_append.1 hx2 with hx2 | hx2
   ·exact h3 x hx hx2
   ·exact hd x (by simp[hx]) hx2
theorem OwnR.at {bl:Int→Option Blk} {sz:Nat} : ∀ {rs:List (List D)} {els:List (List V)} {gs:List Int} (i:Nat) (hi:i<rs.length),OwnR bl sz rs els gs→
  ∃e gi,els[i]? =some e∧OwnL bl rs[i] e gi∧e.length=sz∧e.all V.one=true∧(∀x,x∈gi→x∈gs)∧
   ∀bl' r' e',OwnL bl' r' e' gi→e'.length=sz→e'.all V.one=true→(∀x,x∈gs→x∉gi→ ∀y,bl x=some y→bl' x=some y)→OwnR bl' sz (rs.set i r') (els.set i e') gs
 | [], els, gs, i, hi, _ => by simp at hi
 | r :: rs, els, gs, 0, hi, h => by
   rw[OwnR] at h
   obtain⟨e,jK,g1,g2,rfl,rfl,h3,h4,h5,h6,h7⟩:=h
   refine⟨e,g1,rfl,h6,h4,h5,fun x hx=>by simp[hx],fun bl' r' e' a1 a2 a3 a4=> ?_⟩
   show OwnR bl' sz (r'::rs) (e'::jK) (g1++g2)
   rw[OwnR]
   exact⟨e',jK,g1,g2,rfl,rfl,h3,a2,a3,a1,h7.gL fun x hx b hb=>a4 x (by simp[hx]) (fun h=>h3 x h hx) b hb⟩
 | r :: rs, els, gs, i + 1, hi, h => by
   rw[OwnR] at h
   obtain⟨e,jK,g1,g2,rfl,rfl,h3,h4,h5,h6,h7⟩:=h
   obtain⟨e2,gi,b1,b2,b3,b4,b5,b6⟩:=OwnR.at (rs:=rs) i (by simpa using hi) h7
   refine⟨e2,gi,by simpa using b1,by simpa using b2,b3,b4,fun x hx=>by simp[b5 x hx],fun bl' r' e' a1 a2 a3 a4=> ?_⟩
   show OwnR bl' sz (r::rs.set i r') (e::jK.set i e') (g1++g2)
   rw[OwnR]
   refine⟨e,jK.set i e',g1,g2,rfl,rfl,h3,h4,h5,h6.gL fun x hx b hb=>a4 x (by simp[hx]) (fun h=>h3 x hx (b5 x h)) b hb,b6 bl' r' e' a1 a2 a3 fun x hx hn y hy=>a4 x (by simp[hx]) hn y hy⟩
theorem Iz (els:List (List V)) (z:List V) (n:Nat) (h:els.length<n):(els++List.replicate (n - els.length) z)[els.length]? =some z:=by
 rw[List.getElem?_append_right (Nat.le_refl _),Nat.sub_self,List.getElem?_replicate,if_pos (by omega)]
theorem Es (els:List (List V)) (z x:List V) (n:Nat) (h:els.length<n):(els++List.replicate (n - els.length) z).set els.length x=(els++ [x])++List.replicate (n - (els++ [x]).length) z:=by
 rw[List.set_append_right _ _ (Nat.le_refl _),Nat.sub_self]
 obtain⟨m,hm⟩: ∃m,n - els.length=m+1:=⟨n - els.length - 1,by omega⟩
 have h2:n - (els++ [x]).length=m:=by simp;omega
 rw[hm,h2,List.replicate_succ]
 simp
theorem Bu (els:List (List V)) (z x:List V) (n:Nat) (h:els.length<n):els++(List.replicate (n - els.length) z).set 0 x=(els++ [x])++List.replicate (n - (els++ [x]).length) z:=by
 rw[←Es els z x n h,List.set_append_right _ _ (Nat.le_refl _),Nat.sub_self]
theorem lK {bl:Int→Option Blk} {d:D} {v:V} {gs:List Int} :OwnL bl [d] [v] gs ↔ OwnD bl d v gs:=by
 rw[OwnL]
 constructor
 ·rintro⟨v',vs',g1,g2,h1,rfl,_,h2,h3⟩
  cases h1
  rw[OwnL] at h3
  rw[h3.2,List.append_nil];exact h2
 ·intro h
  exact⟨v,[],gs,[],rfl,by simp,by simp,h,by rw[OwnL];exact⟨rfl,rfl⟩⟩
theorem Hy {bl bl':Int→Option Blk} {g:Int} {b:Option Blk} (hg:bl g=none) (hs:Sub bl bl'):Sub bl (upd bl' g b):=hs.upd hg b
structure aLI where
 els:List (List V)
 gs:List Int
 b:Int→Option Blk
theorem jB {bl:Int→Option Blk} {d:D} {ds:List D} {v:V} {vs:List V} {g1 g2:List Int} (h1:OwnD bl d v g1) (h2:OwnL bl ds vs g2) (hd: ∀g,g∈g1→g∉g2):OwnL bl (d::ds) (v::vs) (g1++g2):=by
 rw[OwnL];exact⟨v,vs,g1,g2,rfl,rfl,hd,h1,h2⟩
theorem Nc {bl:Int→Option Blk} :OwnL bl [] [] []:=by rw[OwnL];exact⟨rfl,rfl⟩
theorem Ai {bl:Int→Option Blk} (n:Int):OwnD bl (.c (.int .i64 n)) (.int .i64 n) []:=by rw[OwnD];exact⟨rfl,rfl,rfl⟩
theorem qN {bl:Int→Option Blk} (b:Bool):OwnD bl (.c (.bool b)) (.bool b) []:=by rw[OwnD];exact⟨rfl,rfl,rfl⟩

def aA6 (ys xs:List (List V)) (i:Nat):List (List V):=ys.take i++xs.drop i
def marks (k:Int) (n:Nat):List Int:=(List.range n).map fun(i:Nat)=>k+i

def dB (neg:Bool) (m:List Int):List D:= [.c (.bool neg),fl 1 (iv m)]
def dR (r:RT):List D:= [.c (.bool r.neg),fl 1 (iv r.m),fl 1 (iv r.d)]
theorem Fh {bl:Int→Option Blk} {neg:Bool} {m:List Int} {v:V} {gs:List Int} :OwnD bl (.a (dB neg m)) v gs ↔ ∃vm,v= .agg [.bool neg,vm]∧OwnD bl (fl 1 (iv m)) vm gs:=by
 rw[OwnD];unfold dB
 constructor
 ·rintro⟨vs,rfl,h⟩
  rw[OwnL] at h
  obtain⟨v,vs',g1,g2,rfl,rfl,_,h1,h2⟩:=h
  rw[OwnD] at h1
  obtain⟨rfl,_,rfl⟩:=h1
  obtain⟨w,rfl⟩: ∃w,vs'= [w]:=by
   have:=h2.length
   match vs',this with
   | [w], _ => exact ⟨w, rfl⟩
  exact⟨w,rfl,lK.1 h2⟩
 ·rintro⟨vm,rfl,h⟩
  exact⟨_,rfl,jB (qN _) (lK.2 h) (fun x hx=>by cases hx)⟩
theorem jV {bl:Int→Option Blk} {r:RT} {vs:List V} {gs:List Int} :OwnL bl (dR r) vs gs ↔ ∃vm vd gm gd,vs= [.bool r.neg,vm,vd]∧gs=gm++gd∧(∀g,g∈gm→g∉gd)∧OwnD bl (fl 1 (iv r.m)) vm gm∧OwnD bl (fl 1 (iv r.d)) vd gd:=by
 unfold dR
 constructor
 ·intro h
  rw[OwnL] at h
  obtain⟨v,vs',g1,g2,rfl,rfl,_,h1,h2⟩:=h
  rw[OwnD] at h1
  obtain⟨rfl,_,rfl⟩:=h1
  obtain⟨vm,vd,gm,gd,rfl,rfl,hd,h3,h4⟩:=kF.1 h2
  exact⟨vm,vd,gm,gd,rfl,rfl,hd,h3,h4⟩
 ·rintro⟨vm,vd,gm,gd,rfl,rfl,hd,h3,h4⟩
  exact jB (g1:= []) (g2:=gm++gd) (qN _) (kF.2 ⟨vm,vd,gm,gd,rfl,rfl,hd,h3,h4⟩) (fun x hx=>by cases hx)
theorem vQ {bl:Int→Option Blk} {r:RT} {v:V} {gs:List Int} :OwnD bl (.a (dR r)) v gs ↔ ∃vm vd gm gd,v= .agg [.bool r.neg,vm,vd]∧gs=gm++gd∧(∀g,g∈gm→g∉gd)∧OwnD bl (fl 1 (iv r.m)) vm gm∧OwnD bl (fl 1 (iv r.d)) vd gd:=by
 rw[OwnD]
 constructor
 ·rintro⟨vs,rfl,h⟩
  obtain⟨vm,vd,gm,gd,rfl,h2⟩:=jV.1 h
  exact⟨vm,vd,gm,gd,rfl,h2⟩
 ·rintro⟨vm,vd,gm,gd,rfl,h2⟩
  exact⟨_,rfl,jV.2 ⟨vm,vd,gm,gd,rfl,h2⟩⟩
theorem Qh (r:RT):D.fzL (dR r)=r.c:=by simp[dR,D.fzL,D.fz,RT.c]
theorem U2 (r:RT) (n:Nat):D.depL (n+1) (dR r):=by simp[dR,D.depL,D.dep,kT]
theorem Av (r:RT) (n:Nat):(D.a (dR r)).dep (n+2):=by rw[D.dep];exact⟨by omega,U2 r n⟩
def mkR (k:Nat) (r:RT):RT:=⟨r.neg,marks k r.m.length,marks (k+r.m.length:Nat) r.d.length⟩
def Tm (k:Nat) (r:RT):Nat:=k+r.m.length+r.d.length
def dS (s:SP):List D:=dR s.lo++(dR s.hi++ [.c (.bool s.nl),.c (.bool s.nh)])
def aPI (k:Nat) (s:SP):Nat:=Tm (Tm k s.lo) s.hi

end Go.Proofs.YticmgmemnpcbbaaGreat.Vm

namespace Go.Proofs.YticmgmemnpcbbaaGreat.Vm
open Go Go.Proofs
set_option linter.unusedSimpArgs false
set_option linter.unusedVariables false
def rv (rs:List RT):List (List V):=rs.map RT.c
@[simp] theorem Br (rs : List RT) : (rv rs).length = rs.length := by simp [rv]
@[simp] theorem Bd (rs : List RT) (i : Nat) (h : i < (rv rs).length) : (rv rs)[i] = (rs[i]'(by simpa using h)).c := by simp [rv]
def dRs (rs:List RT):D:= .s 3 (rs.map dR)
theorem We (rs:List RT):(dRs rs).fz= .sl (rv rs):=by
 unfold dRs rv
 rw[D.fz,uI,List.map_map]
 congr 1
 refine List.map_congr_left fun r _=> ?_
 show List.map D.fz (dR r)=r.c
 rw[←qA,Qh]
theorem Me (rs:List RT) (n:Nat):(dRs rs).dep (n+2):=by
 unfold dRs
 rw[D.dep]
 refine⟨by omega,?_⟩
 induction rs with
 | nil => simp [D.depR]
 | cons r rs ih => simp only [List.map_cons, D.depR]; exact ⟨U2 r _, ih⟩
theorem V6 {bl:Int→Option Blk} {rs:List RT} {v:V} {gs:List Int} :OwnD bl (dRs rs) v gs ↔ (rs= []∧v= .nils∧gs= [])∨ ∃g els gs',v= .lsl g 3 0 rs.length∧gs=g::gs'∧g∉gs'∧bl g=some ⟨3,els⟩∧(g<0→els= [])∧OwnR bl 3 (rs.map dR) els gs':=by
 unfold dRs
 rw[OwnD]
 constructor
 ·rintro(⟨h1,h2,h3⟩| ⟨g,els,gs',h1,h2,h3,h4,h5,h6⟩)
  ·exact .inl ⟨by simpa using h1,h2,h3⟩
  ·exact .inr ⟨g,els,gs',by simpa using h1,h2,h3,h4,h5,h6⟩
 ·rintro(⟨h1,h2,h3⟩| ⟨g,els,gs',h1,h2,h3,h4,h5,h6⟩)
  ·exact .inl ⟨by simpa using h1,h2,h3⟩
  ·exact .inr ⟨g,els,gs',by simpa using h1,h2,h3,h4,h5,h6⟩
theorem Nv {bl:Int→Option Blk} {rs:List RT} {v:V} {gs:List Int} (h:OwnD bl (dRs rs) v gs):v.one=true∧v.cells= [v]:=by
 rcases V6.1 h with ⟨_,rfl,_⟩| ⟨g,els,gs',rfl,_⟩<;>exact⟨rfl,rfl⟩
def szTo :List RT→Int→Int
 | [], left => left
 | r :: rs, left => if szR r left < 0 then -1 else szTo rs (szR r left)
def aOB (rs:List RT) (left:Int):Int:=if less left rs.length<0 then -1 else szTo rs (less left rs.length)
def tV (rs:List RT) (k:Nat):Prop:=rs.length≤k∧ ∀r,r∈rs→r.le k
def aKK (rs:List RT):Nat:=(rs.map fun r=>r.m.length+r.d.length).sum
def mkQ (k:Nat) (r:RT):RT:=⟨(k:Int).tmod 3==0,marks (k+1:Nat) r.m.length,marks (k+1+r.m.length:Nat) r.d.length⟩
def aC4 (k:Nat) (r:RT):Nat:=k+1+r.m.length+r.d.length
def mkQs :Nat→List RT→List RT
 | _, [] => []
 | k, r :: rs => mkQ k r :: mkQs (aC4 k r) rs
def aM5 (k:Nat) (rs:List RT):Nat:=rs.foldl aC4 k
structure Mk where
 i:Nat
 els:List (List V)
 b:Int→Option Blk

theorem Fa (n:Int) (hn:(lim n.natAbs).length≤60):NW Tryz.prog 173 [.agg (biC n)] (.a (dB (decide (n<0)) (lim n.natAbs))):=by
 refine iQ Tryz.func173 rfl rfl (by rw[Tryz.ntmps173];simp) fun bl=> ?_
 rw[Tryz.ntmps173,Tryz.results173]
 refine aC ?_
 rw[bA]
 simp
 intro g1 hg1 hb1 g2 hg2 h21 hb2
 try simp[h21,Ne.symm h21]
 refine⟨fun h=>by omega,fun h=> ?_⟩
 try simp[h21,Ne.symm h21]
 refine bY aQ (upd bl g1 (some ⟨2,[[.bool (decide (n<0)),.sl (iv (lim n.natAbs))]]⟩)) (by simp[h21,hb2]) [0,1,2,3] 3 (by kernel_rfl) ?_
 simp[h21,Ne.symm h21]
 refine Dz 4 ?_
 simp[h21,Ne.symm h21]
 refine gG (kB (lim n.natAbs) (by omega)) fun v gs b o f fr=> ?_
 obtain⟨c1,c2⟩:=o.one
 have e1: ∀x,x∈gs→x≠g1∧x≠g2∧bl x=none:=fun x hx=>by have:=f x hx;simp[aA] at this;grind
 have n1:b g1=_:=fr g1 fun h=>(e1 g1 h).1 rfl
 have n2:b g2=_:=fr g2 fun h=>(e1 g2 h).2.1 rfl
 simp[h21,Ne.symm h21] at n1 n2
 have hs:Sub bl b:=fun x y hy=>by
  have z1:x≠g1:=fun h=>by rw[h,hb1] at hy;cases hy
  have z2:x≠g2:=fun h=>by rw[h,hb2] at hy;cases hy
  exact dC f fr (by simp[aA,z1,z2,hy])
 have hs1:Sub (upd bl g1 (some ⟨2,[[.bool (decide (n<0)),.sl (iv (lim n.natAbs))]]⟩)) b:=fun x y hy=>by
  rw[aA] at hy
  split at hy
  ·rename_i h;subst h;rw[n1];exact hy
  ·exact hs x y hy
 refine⟨hs1,Dz 5 ?_⟩
 simp[h21,Ne.symm h21,n1,n2,c1,c2]
 refine⟨hs1,Dz 6 ?_⟩
 simp[h21,Ne.symm h21,n1,n2,c1,c2]
 refine⟨hs1.upd (by simp[h21,hb2]) _,Dy ?_⟩
 simp[h21,Ne.symm h21,n1,n2,c1,c2]
 refine eE [.agg [.bool (decide (n<0)),v]] gs (by simp[c1,n1,n2]) ?_ (fun x hx=>(e1 x hx).2.2) (hs.upd hb2 _)
 exact Fh.2 ⟨v,rfl,o.frame fun x hx=>by simp[aA,(e1 x hx).2.1]⟩
theorem qU (x:Option Rat) (hx:okQ x):NW Tryz.prog 95 [fv x] (.a (dR (ro x))):=by
 cases x with
 | none =>
   refine iQ Tryz.func95 rfl rfl (by rw[Tryz.ntmps95];simp) fun bl=> ?_
   rw[Tryz.ntmps95,Tryz.results95]
   refine aC ?_
   simp[fv]
   intro g2 hg2 hb2
   refine eE [.agg [.bool false,.nils,.nils]] [] (by simp) ?_ (by simp) (by simp[hb2])
   exact vQ.2 ⟨.nils,.nils,[],[],rfl,rfl,by simp,fZ.2 (.inl ⟨rfl,rfl,rfl⟩),fZ.2 (.inl ⟨rfl,rfl,rfl⟩)⟩
 | some q =>
   have hf:=hx q rfl
   have hl:=hf.1
   have hl2:=hf.2
   refine iQ Tryz.func95 rfl rfl (by rw[Tryz.ntmps95];simp) fun bl=> ?_
   rw[Tryz.ntmps95,Tryz.results95]
   refine aC ?_
   rw[show fv (some q)= .ptr (rq q).c from rfl,fF]
   simp
   intro g2 hg2 hb2
   refine bY aQ bl (by simp[hb2]) [0,1,2,3,5,6,7,8] 4 (by kernel_rfl) ?_
   simp
   refine Dz 4 ?_
   simp
   have hfw:=Fa q.num (by omega)
   rw[bA] at hfw
   refine gG hfw fun v gs b o f fr=> ?_
   obtain⟨vm,rfl,om⟩:=Fh.1 o
   obtain⟨c1,c2⟩:=om.one
   have e1: ∀x,x∈gs→x≠g2∧bl x=none:=fun x hx=>by have:=f x hx;simp[aA] at this;exact this
   have n2:b g2=_:=fr g2 fun h=>(e1 g2 h).1 rfl
   simp at n2
   have hs:Sub bl b:=fun x y hy=>by
    have z2:x≠g2:=fun h=>by rw[h,hb2] at hy;cases hy
    exact dC f fr (by simp[aA,z2,hy])
   refine⟨hs,Dz 9 ?_⟩
   simp
   refine gG (kB (lim q.den) (by omega)) fun w gw b2 ow f2 fr2=> ?_
   obtain⟨d1,d2⟩:=ow.one
   have m2:b2 g2=_:=dC f2 fr2 n2
   have hs2:Sub bl b2:=fun x y hy=>dC f2 fr2 (hs x y hy)
   have e3: ∀x,x∈gw→x≠g2:=fun x hx h=>by have:=f2 x hx;rw[h,n2] at this;cases this
   have e4: ∀x,x∈gs→x∉gw:=fun x hx h=>by
    obtain⟨y,hy⟩:=om.has x hx
    rw[f2 x h] at hy;cases hy
   refine⟨hs2,Dz 10 ?_⟩
   simp[m2,c1,c2,d1,d2]
   refine⟨hs2,Dz 11 ?_⟩
   simp[m2,c1,c2,d1,d2]
   refine⟨hs2.upd hb2 _,Dy ?_⟩
   simp[m2,c1,c2,d1,d2]
   refine eE [.agg [.bool (decide (q.num<0)),vm,w]] (gs++gw) (by simp[c1,d1,m2]) ?_ (fun x hx=> ?_) (hs2.upd hb2 _)
   ·refine vQ.2 ⟨vm,w,gs,gw,rfl,rfl,e4,om.frame fun x hx=> ?_,ow.frame fun x hx=> ?_⟩
    ·simp only[aA];rw[if_neg (e1 x hx).1];exact fr2 x (e4 x hx)
    ·simp only[aA];rw[if_neg (e3 x hx)]
   ·rcases List.mem_append.1 hx with hx | hx
    ·exact(e1 x hx).2
    ·exact cP hs (f2 x hx)
def dT (r:RT) (b:Bool):D:= .t [.a (dR r),.c (.bool b)]
theorem vS {bl:Int→Option Blk} {r:RT} {b:Bool} {v:V} {gs:List Int} :OwnD bl (dT r b) v gs ↔ ∃vs,v= .tup [.agg vs,.bool b]∧OwnL bl (dR r) vs gs:=by
 unfold dT
 rw[OwnD]
 constructor
 ·rintro⟨vs,rfl,h⟩
  obtain⟨v,w,g1,g2,rfl,rfl,hd,h1,h2⟩:=kF.1 h
  rw[OwnD] at h2
  obtain⟨rfl,_,rfl⟩:=h2
  rw[OwnD] at h1
  obtain⟨vs,rfl,h1⟩:=h1
  exact⟨vs,rfl,by simpa using h1⟩
 ·rintro⟨vs,rfl,h⟩
  refine⟨_,rfl,kF.2 ⟨.agg vs,.bool b,gs,[],rfl,by simp,fun x hx h=>(by cases h),by rw[OwnD];exact⟨vs,rfl,h⟩,qN b⟩⟩
theorem Mw (x:Option Rat) (hx:okQ x):NW Tryz.prog 96 [fv x] (dT (ro x) x.isSome):=by
 cases x with
 | none =>
   refine iQ Tryz.func96 rfl rfl (by rw[Tryz.ntmps96];simp) fun bl=> ?_
   rw[Tryz.ntmps96,Tryz.results96]
   refine aC ?_
   simp[fv]
   intro g2 hg2 hb2
   refine eE [.agg [.bool false,.nils,.nils],.bool false] [] (by simp) ?_ (by simp) (by simp[hb2])
   exact vS.2 ⟨_,rfl,jV.2 ⟨.nils,.nils,[],[],rfl,rfl,by simp,fZ.2 (.inl ⟨rfl,rfl,rfl⟩),fZ.2 (.inl ⟨rfl,rfl,rfl⟩)⟩⟩
 | some q =>
   refine iQ Tryz.func96 rfl rfl (by rw[Tryz.ntmps96];simp) fun bl=> ?_
   rw[Tryz.ntmps96,Tryz.results96]
   refine aC ?_
   simp[fv]
   intro g2 hg2 hb2
   refine gG (qU (some q) hx) fun v gs b o f fr=> ?_
   obtain⟨vm,vd,ga,gb,rfl,rfl,hd,om,od⟩:=vQ.1 o
   obtain⟨c1,c2⟩:=om.one
   obtain⟨d1,d2⟩:=od.one
   have e1: ∀x,x∈ga++gb→x≠g2∧bl x=none:=fun x hx=>by have:=f x hx;simp only[aA] at this;split at this<;>simp_all
   have n2:b g2=some ⟨3,[[.bool false,.nils,.nils]]⟩:=dC f fr (by simp)
   have hs:Sub bl b:=fun x y hy=>by
    have z2:x≠g2:=fun h=>by rw[h,hb2] at hy;cases hy
    exact dC f fr (by simp[aA,z2,hy])
   simp[n2,c1,d1]
   refine eE [.agg [.bool (ro (some q)).neg,vm,vd],.bool true] (ga++gb) (by simp[c1,d1]) ?_ (fun x hx=>(e1 x hx).2) (hs.upd hb2 _)
   refine vS.2 ⟨_,rfl,(jV.2 ⟨vm,vd,ga,gb,rfl,rfl,hd,om,od⟩).frame fun x hx=>by simp[aA,(e1 x hx).1]⟩
def aPN (s:SP):Option Rat:=if aKO s && !s.nl && !s.nh then op2 (· - ·) (rd s.hi) (rd s.lo) else none
theorem aGY {x:Option Rat} (h:okQ x):decide (ro x).ok=x.isSome:=by
 have:=aEI (r:=ro x)
 rw[L2 h] at this
 rw[Bool.eq_iff_iff,decide_eq_true_iff,this]
theorem ro_le {x:Option Rat} (h:okQ x):(ro x).m.length≤24∧(ro x).d.length≤24:=by
 cases x with
 | none => simp [ro, rz]
 | some q => exact h q rfl

def fvs (xs:List (Option Rat)):List (List V):=xs.map fun x=> [fv x]
@[simp] theorem Vk (xs : List (Option Rat)) : (fvs xs).length = xs.length := by simp [fvs]
@[simp] theorem aDR (xs : List (Option Rat)) (i : Nat) (h : i < (fvs xs).length) : (fvs xs)[i] = [fv (xs[i]'(by simpa using h))] := by simp [fvs]
@[simp] theorem aGH (x : Option Rat) : (fv x).cl = true := by cases x <;> rfl
@[simp] theorem aMX (x : Option Rat) : (fv x).one = true := by cases x <;> rfl
@[simp] theorem aHE (x : Option Rat) : (fv x).cells = [fv x] := by cases x <;> rfl
theorem Y2 (xs:List (Option Rat)):(fvs xs).all (fun r=>r.all V.cl)=true:=by simp[fvs]
theorem Eu (xs:List (Option Rat)): ∀r,r∈fvs xs→r.length=1:=by
 intro r hr
 obtain⟨n,_,rfl⟩:=List.mem_map.1 hr
 rfl
theorem Z7 {bl:Int→Option Blk} {xs:List (Option Rat)} {v:V} {gs:List Int} :OwnD bl (fl 1 (fvs xs)) v gs ↔ (xs= []∧v= .nils∧gs= [])∨ ∃g,v= .lsl g 1 0 xs.length∧gs= [g]∧bl g=some ⟨1,fvs xs⟩∧(g<0→xs= []):=by
 rw[wV (Y2 xs) (Eu xs)]
 simp[fvs]
def okL (xs:List (Option Rat)):Prop:= ∀x,x∈xs→okQ x
def dL (xs:List (Option Rat)) (b:Bool):D:= .t [fl 1 (fvs xs),.c (.bool b)]
theorem qS {bl:Int→Option Blk} {d:D} {b:Bool} {v:V} {gs:List Int} :OwnD bl (.t [d,.c (.bool b)]) v gs ↔ ∃w,v= .tup [w,.bool b]∧OwnD bl d w gs:=by
 rw[OwnD]
 constructor
 ·rintro⟨vs,rfl,h⟩
  obtain⟨v,w,g1,g2,rfl,rfl,hd,h1,h2⟩:=kF.1 h
  rw[OwnD] at h2
  obtain⟨rfl,_,rfl⟩:=h2
  exact⟨v,rfl,by simpa using h1⟩
 ·rintro⟨w,rfl,h⟩
  exact⟨_,rfl,kF.2 ⟨w,.bool b,gs,[],rfl,by simp,fun x hx h=>(by cases h),h,qN b⟩⟩
theorem Rz (xs:List (Option Rat)) (b:Bool) (n:Nat):(dL xs b).dep (n+2):=by
 unfold dL;rw[D.dep];exact⟨by omega,by simp[D.depL,D.dep,kT]⟩
theorem aB4 (xs:List (Option Rat)) (b:Bool):(dL xs b).fz= .tup [.sl (fvs xs),.bool b]:=by simp[dL,D.fz,D.fzL]
def gI (rs:List RT):Bool:=rs.all fun r=>(rd r).isSome
def bW (rs:List RT):List (Option Rat):=rs.map rd
@[simp] theorem Ms (rs : List RT) : (bW rs).length = rs.length := by simp [bW]
theorem Ih (rs:List RT):okL (bW rs):=by
 intro x hx
 obtain⟨r,_,rfl⟩:=List.mem_map.1 hx
 exact Uy r
theorem Hi (rs:List RT) (hq:tV rs 1048576):NW Tryz.prog 152 [.sl (rv rs)] (dL (if gI rs=true then bW rs else []) (gI rs)):=by
 have hw:=hq.1
 refine iQ Tryz.func152 rfl rfl (by rw[Tryz.ntmps152];simp) fun bl=> ?_
 rw[Tryz.ntmps152,Tryz.results152]
 refine aC ?_
 simp
 refine⟨by omega,by unfold maxLen;omega,fun g hg0 hg=> ?_⟩
 refine aK (fun i:Nat=> [(4,.lsl g 1 0 rs.length),(10,.sl (rv rs)),(11,.int .i64 rs.length),(12,.int .i64 i)]) (fun i=>upd bl g (some ⟨1,part (fvs (bW rs)) [.nilp] i⟩)) (fun i=>i≤rs.length∧ ∀r,r∈rs.take i→(rd r).isSome=true) (fun i=>rs.length - i) _ 0 ⟨Nat.zero_le _,by simp⟩ ⟨rfl,by simp,sub_eq (by simp)⟩ ?_
 rintro i ⟨hi,cO⟩
 refine aC ?_
 simp
 refine⟨fun h=> ?_,fun h=> ?_⟩
 ·have hi':i<(fvs (bW rs)).length:=by simpa using h
  simp[h,RT.c]
  intro g2 hg2 h2g hb2
  try simp[h2g,Ne.symm h2g]
  have hr:=hq.2 _ (List.getElem_mem h)
  refine aD (Al rs[i] (by have:=hr.1;omega) (by have:=hr.2;omega)) ?_
  have hpl:i<(part (fvs (bW rs)) [.nilp] i).length:=by simp[part];omega
  have hpi:(part (fvs (bW rs)) [.nilp] i)[i]? =some [.nilp]:=eI _ _ _ hi'
  have hpe:(part (fvs (bW rs)) [.nilp] i)[i]= [.nilp]:=by
   rw[List.getElem?_eq_getElem hpl] at hpi;exact Option.some.inj hpi
  rcases ev:rd rs[i] with _ | a
  ·have hno:gI rs=false:=by
    rw[Bool.eq_false_iff]
    intro hh
    have:=List.all_eq_true.1 hh rs[i] (List.getElem_mem h)
    rw[ev] at this;cases this
   simp[h,ev,fv,hpl,hpe,h2g,Ne.symm h2g,hno]
   refine eE [.nils,.bool false] [] (by simp) ?_ (by simp) (by simp[hg,hb2])
   exact qS.2 ⟨.nils,rfl,Z7.2 (.inl ⟨rfl,rfl,rfl⟩)⟩
  ·have E0:(part (fvs (bW rs)) [.nilp] i).set i [fv (some a)]=part (fvs (bW rs)) [.nilp] (i+1):=by
    rw[cE _ _ _ hi']
    simp[bW,ev]
   simp[h,ev,fv,hpl,hpe,h2g,Ne.symm h2g]
   simp (disch:=omega) [i64_in,aB]
   refine⟨i+1,⟨by omega,fun r hr=> ?_⟩,by omega,rfl,by simp,?_⟩
   ·rw[List.take_add_one,List.getElem?_eq_getElem h] at hr
    rcases List.mem_append.1 hr with hr | hr
    ·exact cO r hr
    ·obtain rfl:r=rs[i]:=by simpa using hr
     rw[ev];rfl
   ·have e2:=E0
    simp only[fv] at e2
    intro z y hz
    simp only[aA,e2] at hz ⊢
    grind
 ·have hi2:i=rs.length:=by omega
  have Ee:gI rs=true:=List.all_eq_true.2 fun r hr=>cO r (by rw[hi2,List.take_length];exact hr)
  simp[Ee]
  refine eE [.lsl g 1 0 rs.length,.bool true] [g] (by simp) ?_ (by simpa using hg) (by simp[hg])
  rw[fL _ _ _ (by simpa using h)]
  exact qS.2 ⟨_,rfl,Z7.2 (.inr ⟨g,by simp,rfl,by simp,by omega⟩)⟩
theorem Ji (rs:List RT) (hq:tV rs 1048576):RO Tryz.prog 152 [.sl (rv rs)] (.tup [.sl (fvs (if gI rs=true then bW rs else [])),.bool (gI rs)]):=by
 have:=eH 2 (Hi rs hq) (Rz _ _ 0)
 rwa [aB4] at this
def Jv (rs:List RT):Bool:=decide (rs.length≤24)&& gI rs
def dF (xs:List (Option Rat)):Bool:=xs.all Option.isSome
def cV (xs:List (Option Rat)):List RT:=xs.map ro
@[simp] theorem Oy (xs : List (Option Rat)) : (cV xs).length = xs.length := by simp [cV]
def stQ (xs:List (Option Rat)):List RT:=if dF xs=true then cV xs else []
def dV (rs:List RT) (b:Bool):D:= .t [dRs rs,.c (.bool b)]
theorem Sj (rs:List RT) (b:Bool) (n:Nat):(dV rs b).dep (n+3):=by
 unfold dV;rw[D.dep];exact⟨by omega,by simp[D.depL,D.dep,Me]⟩
theorem aDL (rs:List RT) (b:Bool):(dV rs b).fz= .tup [.sl (rv rs),.bool b]:=by simp[dV,D.fz,D.fzL,We]
theorem Ud {bl:Int→Option Blk} {rs:List RT} {b:Bool} {v:V} {gs:List Int} (h:OwnD bl (dV rs b) v gs): ∃w,v= .tup [w,.bool b]∧OwnD bl (dRs rs) w gs∧w.one=true∧w.cells= [w]:=by
 obtain⟨w,rfl,o⟩:=qS.1 h
 exact⟨w,rfl,o,Nv o⟩
theorem uM {bl:Int→Option Blk} (b:Bool):OwnD bl (dV [] b) (.tup [.nils,.bool b]) []:=qS.2 ⟨.nils,rfl,V6.2 (.inl ⟨rfl,rfl,rfl⟩)⟩
theorem Bq (xs:List (Option Rat)) (hx:okL xs) (hw:xs.length≤1048576):NW Tryz.prog 73 [.sl (fvs xs)] (dV (stQ xs) (dF xs)):=by
 refine iQ Tryz.func73 rfl rfl (by rw[Tryz.ntmps73];simp) fun bl=> ?_
 rw[Tryz.ntmps73,Tryz.results73]
 refine aC ?_
 simp
 refine⟨by omega,by unfold maxLen;omega,fun g hg0 hg=> ?_⟩
 refine aK (fun p:aLI=> [(4,.lsl g 3 0 xs.length),(10,.sl (fvs xs)),(11,.int .i64 xs.length),(12,.int .i64 p.els.length)]) (fun p=>p.b)
  (fun p=>p.els.length≤xs.length∧(∀x,x∈xs.take p.els.length→x.isSome=true)∧p.b g=some ⟨3,p.els++List.replicate (xs.length - p.els.length) [.bool false,.nils,.nils]⟩∧OwnR p.b 3 (((cV xs).map dR).take p.els.length) p.els p.gs∧g∉p.gs∧(∀x,x∈p.gs→bl x=none)∧Sub bl p.b)
  (fun p=>xs.length - p.els.length) 26 ⟨[],[],upd bl g (some ⟨3,List.replicate xs.length [.bool false,.nils,.nils]⟩)⟩ ⟨Nat.zero_le _,by simp,by simp,by simp[OwnR],by simp,by simp,by simp[hg]⟩ ⟨rfl,by simp,by simp⟩ ?_
 rintro⟨els,gs,b⟩ ⟨hi,cO,hb,ho,hn,hf,hs⟩
 simp only at hi cO hb ho hn hf hs
 refine aC ?_
 simp
 refine⟨fun h=> ?_,fun h=> ?_⟩
 ·rcases ex:xs[els.length] with _ | q
  ·have hno:dF xs=false:=by
    rw[Bool.eq_false_iff]
    intro hh
    have:=List.all_eq_true.1 hh xs[els.length] (List.getElem_mem h)
    rw[ex] at this;cases this
   have hst:stQ xs= []:=by unfold stQ;rw[hno];rfl
   simp[h,ex,fv]
   rw[hno,hst]
   refine eE [.nils,.bool false] [] (by simp) (uM _) (by simp) hs
  ·simp[h,ex,fv]
   have hq0:okQ (some q):=by rw[←ex];exact hx _ (List.getElem_mem h)
   have Iw:=qU (some q) hq0
   rw[show fv (some q)= .ptr (rq q).c from rfl] at Iw
   refine gG Iw fun v gv b' o f fr=> ?_
   rw[OwnD] at o
   obtain⟨vs,rfl,o⟩:=o
   obtain⟨vm,vd,_,_,rfl,_,_,om,od⟩:=jV.1 o
   have c1:=om.one.1
   have d1:=od.one.1
   have hb':b' g=_:=dC f fr hb
   have hgv:g∉gv:=fun hh=>by have:=f g hh;rw[hb] at this;cases this
   simp[h,hb',Iz els [.bool false,.nils,.nils] xs.length h,c1,d1]
   simp (disch:=omega) [i64_in,aB]
   have gg:=Bu els [.bool false,.nils,.nils] [.bool (ro (some q)).neg,vm,vd] xs.length h
   refine⟨⟨els++ [[.bool (ro (some q)).neg,vm,vd]],gs++gv,upd b' g (some ⟨3,(els++ [[.bool (ro (some q)).neg,vm,vd]])++List.replicate (xs.length - (els++ [[V.bool (ro (some q)).neg,vm,vd]]).length) [.bool false,.nils,.nils]⟩)⟩,⟨by simp;omega,?_,by simp,?_,?_,?_,?_⟩,by simp;omega,rfl,by simp,sub_eq ?_⟩
   ·intro x hx
    simp only[List.length_append,List.length_singleton] at hx
    rw[List.take_add_one,List.getElem?_eq_getElem h] at hx
    rcases List.mem_append.1 hx with hx | hx
    ·exact cO x hx
    ·obtain rfl:x=xs[els.length]:=by simpa using hx
     rw[ex];rfl
   ·have h2:els.length<(cV xs).length:=by simpa using h
    have ht:((cV xs).map dR).take (els++ [[V.bool (ro (some q)).neg,vm,vd]]).length=((cV xs).map dR).take els.length++ [dR (ro (some q))]:=by
     rw[List.length_append,List.length_singleton,List.take_add_one,List.getElem?_map,List.getElem?_eq_getElem h2];simp[cV,ex]
    simp only
    rw[ht]
    refine OwnR.snoc (o.frame fun x hx=>by simp[show x≠g from fun e=>hgv (e▸hx)]) rfl (by simp[c1,d1]) (ho.gL fun x hx y hy=> ?_) fun x hx hx2=> ?_
    ·rw[aA,if_neg (fun e=>hn (by rw[←e];exact hx))];exact dC f fr hy
    ·exact ho.not (f x hx2) hx
   ·simp only[List.mem_append];rintro(h | h)
    ·exact hn h
    ·exact hgv h
   ·intro x hx
    rcases List.mem_append.1 hx with hx | hx
    ·exact hf x hx
    ·exact cP hs (f x hx)
   ·exact Hy hg fun x y hy=>dC f fr (hs x y hy)
   ·exact congrArg (fun e=>upd b' g (some (Blk.mk 3 e))) gg
 ·have hl:els.length=xs.length:=by omega
  have Ee:dF xs=true:=List.all_eq_true.2 fun x hx=>cO x (by rw[hl,List.take_length];exact hx)
  have hst:stQ xs=cV xs:=by unfold stQ;rw[Ee];rfl
  rw[Ee,hst]
  refine eE [.lsl g 3 0 xs.length,.bool true] (g::gs) (by simp) ?_ (by simpa [hg] using hf) hs
  refine qS.2 ⟨_,rfl,V6.2 (.inr ⟨g,els,gs,by simp,rfl,hn,?_,by omega,?_⟩)⟩
  ·show b g=_
   rw[hb,hl];simp
  ·rw[hl] at ho
   rw[List.take_of_length_le (by simp)] at ho
   exact ho
theorem Jz {bl:Int→Option Blk} {n:Nat} {x y:V} {b:Bool} (h:frz bl n x=some y):frz bl (n+1) (.tup [x,.bool b])=some (.tup [y,.bool b]):=by
 rw[A4]
 simp only[List.mapM_cons,List.mapM_nil,h,show frz bl n (.bool b)=some (.bool b) by cases n<;>simp[frz]]
 rfl
theorem aEN (rs:List RT):(rv rs).all (fun r=>r.all V.cl)=true:=by simp[rv,RT.c,V.cl]
theorem Cb (a b:List RT):rv (a++b)=rv a++rv b:=by simp[rv]
theorem wW :okL [none]:=by
 intro x hx
 obtain rfl:x=none:=by simpa using hx
 intro q h;cases h

def Af (s:Str) (q:List RT):Bool:=(sOk s && decide (q.length=s.ms.length))&& gI q
def Ky (m:Mb) (x:Option Rat):Bool:=(decide (m.kind=1)&& decide (sgq x<0))|| (decide (m.kind=2)&& decide (0<sgq x))
def aL0 (ms:List Mb) (q:List RT) (n:Nat):Prop:= ∀k (h1:k<ms.length) (h2:k<q.length),k<n→Ky ms[k] (rd q[k])=false
def aO3 (s:Str) (q:List RT):Bool:=Af s q && (List.zip s.ms q).all fun p=> !Ky p.1 (rd p.2)

def pTo (e:Mb→Int) (s:Str) (q:List (Option Rat)) (j:Int):Nat→Option Rat
 | 0 => some 0
 | n + 1 => if j = (mat s n).a ∨ j = (mat s n).b then op2 (· + ·) (pTo e s q j n) (op2 (· * ·) (q.getD n none) (some (e (mat s n) : Rat))) else pTo e s q j n
def pX (s:Str) (q:List (Option Rat)) (j:Int):Option Rat:=pTo (eqX s j) s q j s.ms.length
def pY (s:Str) (q:List (Option Rat)) (j:Int):Option Rat:=pTo (eqY s j) s q j s.ms.length
theorem vZ (s:Str) (i:Nat) (h:i<s.ms.length):mat s i=s.ms[i]:=by simp[mat,h]
theorem R9 {s:Str} (hs:SOk s) {m:Mb} (hm:m∈s.ms):(-100≤vx s m∧vx s m≤100)∧(-100≤vy s m∧vy s m≤100):=by
 obtain⟨⟨a1,a2⟩,⟨b1,b2⟩⟩:=hs.ix _ hm
 have ha:=hs.pl m.a.toNat (by omega)
 have hb:=hs.pl m.b.toNat (by omega)
 unfold vx vy jat
 omega
theorem Dm :((0:Int):Rat)=0:=rfl

def Sd (s:Str) (q:List RT) (j:Int):Bool:=Af s q && (decide (0≤j)&& decide (j<s.js.length))
def pqs (s:Str) (q:List RT) (j:Int):List (Option Rat):=if Sd s q j=true then [pX s (bW q) j,pY s (bW q) j] else [none]

def aOX (s:Str):List D:= [fl 4 (jv s.js),fl 3 (mv s.ms)]
structure Str.sz (s : Str) : Prop where
 js:s.js.length≤140737488351232
 ms:s.ms.length≤140737488351232
 nm: ∀j,j∈s.js→j.name.size≤140737488351232

def aBY (k:Nat) (out:ByteArray):ByteArray:=if h:k=0 then out else aBY (k / 10) (uN [IntKind.u8.wrap (IntKind.i64.wrap (48+(k:Int).tmod 10))]++out)
termination_by k
decreasing_by omega
def aFJ (k:Nat):ByteArray:=if k=0 then { data:= #[109,48] } else({ data:= #[109] } :ByteArray)++aBY k { data:= #[] }
def mkJ (k n:Nat):List J:=(List.range n).map fun i=>⟨aFJ (k+4*i),(k+4*i+1:Nat),(k+4*i+2:Nat),((k+4*i+3:Nat):Int).tmod 3==0⟩
def mkM (k n:Nat):List Mb:=(List.range n).map fun i=>⟨(k+3*i:Nat),(k+3*i+1:Nat),(k+3*i+2:Nat)⟩
def mkS (k:Nat) (s:Str):Str:=⟨mkJ k s.js.length,mkM (k+4*s.js.length) s.ms.length⟩
def mkN (k:Nat) (s:Str):Nat:=k+4*s.js.length+3*s.ms.length

end Go.Proofs.YticmgmemnpcbbaaGreat.Vm

namespace Go.Proofs.YticmgmemnpcbbaaGreat.Vm
open Go Go.Proofs
set_option linter.unusedSimpArgs false
set_option linter.unusedVariables false
def aLO (s:Str):List Int:=if sOk s=true then List.replicate (2*s.js.length) 0 else []

def aNO (s:Str):List Int:=if sOk s=true then aH s.js else []
theorem kC (s:Str) (hj:s.js.length≤1048576):RO Tryz.prog 74 [.ptr s.c] (.sl (iv (aH s.js))):=by
 have:=eH 1 (xS s hj) (kT _ _ 0)
 simpa using this
theorem T2 (s:Str) (hj:s.js.length≤1048576):NW Tryz.prog 93 [.agg s.c] (fl 1 (iv (aH s.js))):=by
 refine iQ Tryz.func93 rfl rfl (by rw[Tryz.ntmps93];simp) fun bl=> ?_
 rw[Tryz.ntmps93,Tryz.results93]
 refine aC ?_
 simp[Str.c]
 intro gs Of hgs g00 oN aBJ aMC
 simp[aBJ,Ne.symm aBJ]
 refine aK (fun p:Nat×Int=> [(3,.lsl p.2 1 0 (aS s.js p.1).length),(8,.sl (jv s.js)),(9,.int .i64 s.js.length),(10,.int .i64 p.1)]) (fun p=>upd bl p.2 (some ⟨1,iv (aS s.js p.1)⟩)) (fun p=>p.1≤s.js.length∧bl p.2=none∧(p.2<0→aS s.js p.1= [])) (fun p=>s.js.length - p.1) _ (0,g00) ⟨Nat.zero_le _,aMC,fun _=>rfl⟩ (by refine⟨rfl,by simp[aS],?_⟩;exact eP (by simp[aS,iv]) (by simp[hgs])) ?_
 rintro⟨i,g⟩ ⟨hi,hg,h0⟩
 simp only at hi hg h0
 have hl:=eW s.js i
 refine aC ?_
 simp
 refine⟨fun h=> ?_,fun h=> ?_⟩
 ·simp[h,J.c]
  intro g1 hg1 h1g hb1
  refine⟨fun hf=> ?_,fun hf=> ?_⟩
  ·intro g2 hg2 h21 h2g hb2
   simp[h1g,h21,h2g,Ne.symm h1g,Ne.symm h21,Ne.symm h2g,appV,elsV,Int.not_lt.2 hg2]
   refine⟨by omega,fun g3 hg3 hb3=> ?_⟩
   have gZ:bl g3=none:=by grind
   simp (disch:=omega) [i64_in,aB]
   have hjf:(s.js.getD i default).fixed=false:=by simpa [h] using hf
   have hs1:aS s.js (i+1)=aS s.js i++ [(i:Int)]:=by rw[dI,hjf];rfl
   refine⟨i+1,g3,⟨by omega,gZ,by omega⟩,by omega,rfl,by simp[hs1],?_⟩
   rw[hs1,eM]
   exact eP (by rw[eV];rfl) (by simp[hg,hb1,hb2,h1g,h21,h2g])
  ·simp (disch:=omega) [i64_in,aB]
   have hjf:(s.js.getD i default).fixed=true:=by simpa [h] using hf
   have hs1:aS s.js (i+1)=aS s.js i:=by rw[dI,hjf];simp
   refine⟨i+1,g,⟨by omega,hg,by rw[hs1];exact h0⟩,by omega,rfl,by simp[hs1],?_⟩
   rw[hs1]
   simp[hb1,h1g]
 ·have hi:i=s.js.length:=by omega
  subst hi
  refine eE [.lsl g 1 0 (aS s.js s.js.length).length] [g] (by simp) ?_ (by simpa using hg) (by simp[hg])
  refine fZ.2 (.inr ⟨g,rfl,rfl,by simp[aH],h0⟩)
theorem U9 (s:Str) (hj:s.js.length≤1048576):RO Tryz.prog 93 [.agg s.c] (.sl (iv (aH s.js))):=by
 have:=eH 1 (T2 s hj) (kT _ _ 0)
 simpa using this
def aNZ (s:Str):Int:=if sOk s=true then s.ms.length - 2*(aH s.js).length else 0
end Go.Proofs.YticmgmemnpcbbaaGreat.Vm

namespace Go.Proofs.YticmgmemnpcbbaaGreat.Vm
open Go Go.RowKit
set_option linter.unusedSimpArgs false
set_option linter.unusedVariables false
def HStep (P:Program) (ops:Array Oper) (blK:Int→Option Blk) (i:Nat) (K:St→Prop) (σ:St):Prop:=match ops[i]? with
 | some o => ∃ v, DY P ops blK o σ v ∧ K (σ.put o.dst v)
 | none => False
theorem pP {P:Program} {id:Nat} {ops:Array Oper} {K:Ex→St→Prop} {σ:St} (hm:P.follows .mixedOrders=true) (blK:Int→Option Blk) (hs:Sub blK σ.bl) (is:List Nat) (fuel n:Nat) (hn:(ops.size==fuel+is.length && is.all (fun i=>decide (i<ops.size))&& hoistB ops is (Array.replicate ops.size false)&& yO ops (fun j=>decide (n≤j)) is)=true)
  (h:HoistF P (ops.toList.map (·.dst)) blK (is.filterMap fun i=>ops[i]?) (iM P ops blK (fun j=>decide (n≤j)) (K .normal) fuel (gA is (Array.replicate ops.size false))) σ):AW P (.region id ops true) K σ:=by
 simp only[Bool.and_eq_true,beq_iff_eq] at hn
 exact iH hm is fuel blK hs hn.1.1.1 hn.1.2 (tl:=fun j=>decide (n≤j)) (jC hn.2) (iO _ is σ (filter_some is hn.1.1.2) h)
end Go.Proofs.YticmgmemnpcbbaaGreat.Vm

namespace Go.Proofs.YticmgmemnpcbbaaGreat.Vm
open Go Go.Proofs
set_option linter.unusedSimpArgs false
set_option linter.unusedVariables false
def lN (l:List Int) (k:Nat):Int:=l.getD k 0
def fX (s:Str) (l:List Int) (q:List (Option Rat)) (i:Nat):Option Rat:=op2 (· + ·) (pX s q i) (some (lN l (2*i):Rat))
def fY (s:Str) (l:List Int) (q:List (Option Rat)) (i:Nat):Option Rat:=op2 (· + ·) (pY s q i) (some (lN l (2*i+1):Rat))
def isZ (x:Option Rat):Bool:=x.isSome && decide (sgq x=0)
def aMK (s:Str) (l:List Int) (q:List (Option Rat)) (i:Nat):Bool:=isZ (fX s l q i)&& isZ (fY s l q i)
def aNT (s:Str) (l:List Int) (q:List RT):Bool:=(Af s q && jJ s.js l)&& (aH s.js).all fun j=>aMK s l (bW q) j.toNat
theorem Eh (js:List J) (t:Nat) (h:t<(aH js).length): ∃i:Nat,(aH js)[t]=i∧i<js.length:=by
 have hm:(aH js)[t]∈aH js:=List.getElem_mem h
 generalize (aH js)[t]=x at hm ⊢
 unfold aH aS at hm
 obtain⟨i,hi,rfl⟩:=List.mem_map.1 hm
 have:=List.mem_filter.1 hi
 exact⟨i,rfl,by simpa using this.1⟩
def aN8 (s:Str) (l:List Int) (q:List RT) (i:Nat):List RT:=if dF [pX s (bW q) i,pY s (bW q) i]=true then [ro (fX s l (bW q) i),ro (fY s l (bW q) i)] else []
def aPJ (s:Str) (l:List Int) (q:List RT) (i:Nat):Bool:=dF [fX s l (bW q) i,fY s l (bW q) i]

theorem Rk (x:Option Rat):RO Tryz.prog 103 [fv x] (fv (x.map (- ·))):=by
 cases x with
 | none =>
   refine aI Tryz.func103 rfl rfl (by rw[Tryz.ntmps103];simp) fun bl=> ?_
   rw[Tryz.ntmps103,Tryz.results103]
   refine aC ?_
   simp[fv]
   exact aM (by simp) rfl rfl
 | some q =>
   have hop:=jT q.num
   rw[bA,bA,Int.natAbs_neg] at hop
   refine aI Tryz.func103 rfl rfl (by rw[Tryz.ntmps103];simp) fun bl=> ?_
   rw[Tryz.ntmps103,Tryz.results103]
   refine aC ?_
   rw[show fv (some q)= .ptr (rq q).c from rfl,fF,show fv ((some q).map (- ·))= .ptr [.bool (decide (-q.num<0)),.sl (iv (lim q.num.natAbs)),.sl (iv (lim q.den))] by
    show V.ptr (rq (-q)).c=_
    rw[fF]
    show V.ptr [.bool (decide (-q.num<0)),.sl (iv (lim (-q.num).natAbs)),.sl (iv (lim q.den))]=_
    rw[Int.natAbs_neg]]
   simp
   refine bY aQ bl (Sub.refl _) [0,1,2,3,4,5,6,7,8] 3 (by kernel_rfl) ?_
   simp
   refine aO hop ?_
   simp
   refine Dz 9 ?_
   simp
   refine Dz 10 ?_
   simp
   intro g hg0 hg
   refine⟨by simp[hg],Dz 11 ?_⟩
   simp
   refine⟨by simp[hg],Dy ?_⟩
   simp
   refine aN [.loc g 3 0 0] 1 (by simp) ?_ (by simp[hg])
   show frz _ 1 (.loc g 3 0 0)=_
   rw[kH (e:= [.bool (decide (0<q.num)),.sl (iv (lim q.num.natAbs)),.sl (iv (lim q.den))]) (by simp[dropB,hg])]
   rfl
def aKR (s:Str) (l:List Int) (q:List RT) (j:Int):Bool:=(Af s q && jJ s.js l)&& ((decide (0≤j)&& decide (j<s.js.length))&& (s.js.getD j.toNat default).fixed)
def aPD (s:Str) (l:List Int) (q:List RT) (j:Int):List (Option Rat):=if aKR s l q j=true then [(fX s l (bW q) j.toNat).map (- ·),(fY s l (bW q) j.toNat).map (- ·)] else [none]

def idx (js:List J) (i:Nat):Nat:=(aS js i).length
def fxd (js:List J) (i:Nat):Bool:=(js.getD i default).fixed
theorem D2 (js:List J): ∀n i,i<n→fxd js i=false→(aS js n)[idx js i]? =some (i:Int):=by
 intro n
 induction n with
 | zero => intro i h; omega
 | succ n ih =>
   intro i hi hf
   rw[dI]
   by_cases h:i<n
   ·have h1:=ih i h hf
    have hl:idx js i<(aS js n).length:=by
     rcases Nat.lt_or_ge (idx js i) (aS js n).length with h2 | h2
     ·exact h2
     ·rw[List.getElem?_eq_none h2] at h1;cases h1
    rw[List.getElem?_append_left hl];exact h1
   ·obtain rfl:i=n:=by omega
    unfold fxd at hf
    rw[hf,show idx js i=(aS js i).length from rfl,List.getElem?_append_right (Nat.le_refl _)]
    simp
theorem Ut (js:List J): ∀n t,t<(aS js n).length→ ∃i,i<n∧fxd js i=false∧idx js i=t∧(aS js n)[t]? =some (i:Int):=by
 intro n
 induction n with
 | zero => intro t h; simp [aS] at h
 | succ n ih =>
   intro t ht
   by_cases h:t<(aS js n).length
   ·obtain⟨i,h1,h2,h3,h4⟩:=ih t h
    exact⟨i,by omega,h2,h3,by rw[dI,List.getElem?_append_left h];exact h4⟩
   ·rw[dI] at ht ⊢
    cases hf:(js.getD n default).fixed
    ·rw[hf] at ht
     rw[List.length_append] at ht
     simp at ht
     obtain rfl:t=(aS js n).length:=by omega
     exact⟨n,by omega,hf,rfl,by rw[List.getElem?_append_right (Nat.le_refl _)];simp⟩
    ·rw[hf] at ht
     simp at ht;omega
theorem Np {js:List J} {i k:Nat} (hi:i<js.length) (hk:k<js.length) (fi:fxd js i=false) (fk:fxd js k=false) (h:idx js i=idx js k):i=k:=by
 have h1:=D2 js js.length i hi fi
 have h2:=D2 js js.length k hk fk
 rw[h] at h1
 rw[h1] at h2
 have:=Option.some.inj h2
 omega
theorem uO {js:List J} {i:Nat} (hi:i<js.length) (fi:fxd js i=false):idx js i<(aH js).length:=by
 have h1:=D2 js js.length i hi fi
 rcases Nat.lt_or_ge (idx js i) (aH js).length with h2 | h2
 ·exact h2
 ·rw[List.getElem?_eq_none (show(aS js js.length).length≤_ from h2)] at h1;cases h1
theorem Fk (js:List J) (t:Nat) (h:t<(aH js).length): ∃i:Nat,(aH js)[t]=i∧i<js.length∧fxd js i=false∧idx js i=t:=by
 obtain⟨i,h1,h2,h3,h4⟩:=Ut js js.length t h
 refine⟨i,?_,h1,h2,h3⟩
 have:(aH js)[t]? =some (i:Int):=h4
 rw[List.getElem?_eq_getElem h] at this
 exact Option.some.inj this
def dAt (js:List J) (d:List (Option Rat)) (t p:Nat):Option Rat:=if fxd js (p / 2)=true then some 0 else if idx js (p / 2)<t then d.getD (2*idx js (p / 2)+p % 2) none else some 0
def dsp (js:List J) (d:List (Option Rat)) (t:Nat):List (Option Rat):=(List.range (2*js.length)).map (dAt js d t)
@[simp] theorem T8 (js : List J) (d : List (Option Rat)) (t : Nat) : (dsp js d t).length = 2 * js.length := by simp [dsp]
theorem qQ (js:List J) (d:List (Option Rat)) (t p:Nat) (h:p<(dsp js d t).length):(dsp js d t)[p]=dAt js d t p:=by simp[dsp]
theorem Kj (js:List J) (d:List (Option Rat)) (p:Nat):dAt js d 0 p=some 0:=by unfold dAt;split<;>simp
theorem Gt (js:List J) (d:List (Option Rat)) (t i:Nat) (hi:i<js.length) (hf:fxd js i=false) (ht:idx js i=t):((dsp js d t).set (2*i) (d.getD (2*t) none)).set (2*i+1) (d.getD (2*t+1) none)=dsp js d (t+1):=by
 apply List.ext_getElem (by simp)
 intro p h1 h2
 have hp:p<2*js.length:=by simpa using h2
 rw[List.getElem_set,List.getElem_set,qQ,qQ]
 by_cases e1:2*i+1=p
 ·subst e1
  rw[if_pos rfl]
  unfold dAt
  rw[show(2*i+1) / 2=i by omega,show(2*i+1) % 2=1 by omega,hf,ht]
  simp
 rw[if_neg e1]
 by_cases e2:2*i=p
 ·subst e2
  rw[if_pos rfl]
  unfold dAt
  rw[show(2*i) / 2=i by omega,show(2*i) % 2=0 by omega,hf,ht]
  simp
 rw[if_neg e2]
 unfold dAt
 cases hq:fxd js (p / 2)
 ·have hne:idx js (p / 2)≠t:=fun h=>by
   have:=Np (i:=p / 2) (k:=i) (by omega) hi hq hf (by rw[h,ht])
   omega
  by_cases h3:idx js (p / 2)<t
  ·rw[if_pos h3,if_pos (show idx js (p / 2)<t+1 by omega)]
  ·rw[if_neg h3,if_neg (show ¬ idx js (p / 2)<t+1 by omega)]
 ·rfl
def rW (js:List J) (d:List (Option Rat)):List (Option Rat):=dsp js d (aH js).length
@[simp] theorem Qv (js : List J) (d : List (Option Rat)) : (rW js d).length = 2 * js.length := T8 _ _ _
def dX (js:List J) (d:List (Option Rat)) (i:Nat):Option Rat:=if fxd js i=true then some 0 else d.getD (2*idx js i) none
def dY (js:List J) (d:List (Option Rat)) (i:Nat):Option Rat:=if fxd js i=true then some 0 else d.getD (2*idx js i+1) none
theorem Jh (js:List J) (d:List (Option Rat)) (i:Nat) (hi:i<js.length) (h:2*i<(rW js d).length):(rW js d)[2*i]=dX js d i:=by
 unfold rW at h ⊢
 rw[qQ]
 unfold dAt dX
 rw[show(2*i) / 2=i by omega,show(2*i) % 2=0 by omega]
 cases hf:fxd js i
 ·have:=uO hi hf
  simp[this]
 ·rfl
theorem Kk (js:List J) (d:List (Option Rat)) (i:Nat) (hi:i<js.length) (h:2*i+1<(rW js d).length):(rW js d)[2*i+1]=dY js d i:=by
 unfold rW at h ⊢
 rw[qQ]
 unfold dAt dY
 rw[show(2*i+1) / 2=i by omega,show(2*i+1) % 2=1 by omega]
 cases hf:fxd js i
 ·have:=uO hi hf
  simp[this]
 ·rfl
theorem C8 {d:List (Option Rat)} (hd:okL d) (i:Nat):okQ (d.getD i none):=by
 rcases Nat.lt_or_ge i d.length with h | h
 ·rw[jQ _ _ _ h];exact hd _ (List.getElem_mem h)
 ·rw[List.getD_eq_getElem?_getD,List.getElem?_eq_none h];exact fun _ e=>by cases e
theorem O1 :okQ (some 0):=fun x h=>by cases h;exact Cd
theorem Po (js:List J) {d:List (Option Rat)} (hd:okL d) (i:Nat):okQ (dX js d i):=by
 unfold dX;split
 ·exact O1
 ·exact C8 hd _
theorem Qj (js:List J) {d:List (Option Rat)} (hd:okL d) (i:Nat):okQ (dY js d i):=by
 unfold dY;split
 ·exact O1
 ·exact C8 hd _
theorem Du (k:Nat):0≤2*(k:Int):=by omega
theorem Bk (k:Nat):0≤2*(k:Int)+1:=by omega
theorem yX (k:Nat):(2*(k:Int)).toNat=2*k:=by omega
theorem zZ (k:Nat):(2*(k:Int)+1).toNat=2*k+1:=by omega
theorem T9 (d:List RT) (n:Nat) (hd:tV d 1048576):RO Tryz.prog 161 [.sl (rv d),.int .i64 n] (.tup [.sl (fvs (if(decide (d.length=n)&& gI d)=true then bW d else [])),.bool (decide (d.length=n)&& gI d)]):=by
 generalize hz:(decide (d.length=n)&& gI d)=z
 refine aI Tryz.func161 rfl rfl (by rw[Tryz.ntmps161];simp) fun bl=> ?_
 rw[Tryz.ntmps161,Tryz.results161]
 refine aC ?_
 simp
 refine⟨fun h=> ?_,fun h=> ?_⟩
 ·have e:decide (d.length=n)=false:=by simp;omega
  rw[e] at hz
  obtain rfl:z=false:=by rw[←hz];rfl
  exact aN [.nils,.bool false] 1 (by simp) (by simp[frz,fvs,V.cl]) (Sub.refl _)
 ·have e:decide (d.length=n)=true:=by simp;omega
  rw[e,Bool.true_and] at hz
  subst hz
  refine aD (Ji d hd) ?_
  simp
  exact aN [.sl (fvs (if gI d=true then bW d else [])),.bool (gI d)] 1 (by simp) (by simp[frz]) (Sub.refl _)
def jD (s:Str) (d:List RT):Bool:=(sOk s && decide (d.length=2*(aH s.js).length))&& gI d
theorem rP (s:Str) (d:List RT) (hj:s.js.length≤140737488351232) (hm:s.ms.length≤140737488351232) (hn: ∀j,j∈s.js→j.name.size≤140737488351232) (hd:tV d 1048576):RO Tryz.prog 84 [.ptr s.c,.sl (rv d)] (.tup [.sl (fvs (if jD s d=true then rW s.js (bW d) else [])),.bool (jD s d)]):=by
 have w0:=jG 0 (by omega)
 rw[Dm] at w0
 refine aI Tryz.func84 rfl rfl (by rw[Tryz.ntmps84];simp) fun bl=> ?_
 rw[Tryz.ntmps84,Tryz.results84]
 refine aC ?_
 simp[Str.c]
 refine aD (fK s hj hm hn) ?_
 cases hk:sOk s
 ·have hz:jD s d=false:=by unfold jD;rw[hk];rfl
  rw[hz]
  simp
  exact aN [.nils,.bool false] 1 (by simp) (by simp[frz,fvs,V.cl]) (Sub.refl _)
 have hs:=rZ hk
 have hnj:=hs.nj
 have hfl:=eW s.js s.js.length
 change(aH s.js).length≤s.js.length at hfl
 have hz:jD s d=(decide (d.length=2*(aH s.js).length)&& gI d):=by unfold jD;rw[hk];rfl
 have hL:=T9 d (2*(aH s.js).length) hd
 rw[←hz] at hL
 have e2:((2*(aH s.js).length:Nat):Int)=2*((aH s.js).length:Int):=by omega
 rw[e2] at hL
 have w2:IntKind.i64.wrap (2*((aH s.js).length:Int))=2*((aH s.js).length:Int):=i64_in (by omega) (by omega)
 obtain⟨n,en⟩: ∃n:Nat,n=2*s.js.length:=⟨_,rfl⟩
 have wn:IntKind.i64.wrap (2*(s.js.length:Int))=(n:Int):=by rw[i64_in (by omega) (by omega)];omega
 simp
 refine aD (kC s (by omega)) ?_
 simp
 rw[w2]
 refine aD hL ?_
 cases hp:jD s d
 ·simp
  exact aN [.nils,.bool false] 1 (by simp) (by simp[frz,fvs,V.cl]) (Sub.refl _)
 rw[hp] at hz
 have hlen:d.length=2*(aH s.js).length:=by have:=hz.symm;simp at this;exact this.1
 simp
 rw[wn]
 simp
 refine⟨by omega,by unfold maxLen;omega,fun g hg0 hg=> ?_⟩
 have hdl:(bW d).length=2*(aH s.js).length:=by simpa using hlen
 generalize hD:bW d=D at *
 refine aK (fun i:Nat=> [(6,.sl (iv (aH s.js))),(7,.sl (fvs D)),(9,.lsl g 1 0 n),(38,.int .i64 n),(39,.int .i64 i)]) (fun i=>upd bl g (some ⟨1,part (fvs (dsp s.js D 0)) [.nilp] i⟩)) (fun i=>i≤n) (fun i=>n - i) _ 0 (Nat.zero_le _) ⟨rfl,by simp,sub_eq (by simp[en])⟩ ?_
 intro i hi
 refine aC ?_
 simp
 refine⟨fun h=> ?_,fun h=> ?_⟩
 ·have hi':i<(fvs (dsp s.js D 0)).length:=by simp;omega
  have h9:i<n:=by omega
  have hpl:i<(part (fvs (dsp s.js D 0)) [.nilp] i).length:=by simp[part];omega
  have hpi:(part (fvs (dsp s.js D 0)) [.nilp] i)[i]? =some [.nilp]:=eI _ _ _ hi'
  have hpe:(part (fvs (dsp s.js D 0)) [.nilp] i)[i]= [.nilp]:=by
   rw[List.getElem?_eq_getElem hpl] at hpi;exact Option.some.inj hpi
  have E0:(part (fvs (dsp s.js D 0)) [.nilp] i).set i [fv (some 0)]=part (fvs (dsp s.js D 0)) [.nilp] (i+1):=by
   rw[cE _ _ _ hi']
   simp[qQ,Kj]
  simp[h]
  refine aD w0 ?_
  simp[h,h9,hpl,hpe]
  simp (disch:=omega) [i64_in,aB]
  refine⟨i+1,by omega,by omega,rfl,by simp,?_⟩
  intro z y hz
  simp only[aA,E0] at hz ⊢
  grind
 ·have hi2:n=i:=by omega
  subst hi2
  rw[fL _ _ _ (by simp[en])]
  simp
  refine aK (fun t:Nat=> [(7,.sl (fvs D)),(9,.lsl g 1 0 n),(47,.sl (iv (aH s.js))),(48,.int .i64 (aH s.js).length),(49,.int .i64 t)]) (fun t=>upd bl g (some ⟨1,fvs (dsp s.js D t)⟩)) (fun t=>t≤(aH s.js).length) (fun t=>(aH s.js).length - t) _ 0 (Nat.zero_le _) ⟨rfl,by simp,sub_eq (by simp)⟩ ?_
  intro t ht
  refine aC ?_
  simp
  refine⟨fun h=> ?_,fun h=> ?_⟩
  ·obtain⟨i,ei,hi,hf,hx⟩:=Fk s.js t h
   have w1:IntKind.i64.wrap (2*(i:Int))=2*i:=i64_in (by omega) (by omega)
   have w2:IntKind.i64.wrap (2*(i:Int)+1)=2*i+1:=i64_in (by omega) (by omega)
   have w3:IntKind.i64.wrap (2*(t:Int))=2*t:=i64_in (by omega) (by omega)
   have w4:IntKind.i64.wrap (2*(t:Int)+1)=2*t+1:=i64_in (by omega) (by omega)
   have p1:2*i<n:=by omega
   have p2:2*i+1<n:=by omega
   have p3:2*t<D.length:=by omega
   have p4:2*t+1<D.length:=by omega
   have p5:2*(i:Int)<n:=by omega
   have p6:2*(i:Int)+1<n:=by omega
   have p7:2*(t:Int)<D.length:=by omega
   have p8:2*(t:Int)+1<D.length:=by omega
   have p9:2*i<2*s.js.length:=by omega
   have p10:2*i+1<2*s.js.length:=by omega
   have hst:=Gt s.js D t i hi hf hx
   rw[jQ _ _ _ p3,jQ _ _ _ p4] at hst
   have hsv:((fvs (dsp s.js D t)).set (2*i) [fv D[2*t]]).set (2*i+1) [fv D[2*t+1]]=fvs (dsp s.js D (t+1)):=by
    rw[←hst];simp[fvs,List.map_set]
   simp[h,ei]
   refine bY aQ bl (by simp[hg]) [0,1,2,3,4,5,6,7,8,9,10,11,12,13,14,15,16,17,18] 3 (by kernel_rfl) ?_
   simp[w1,w2,w3,w4,p1,p2,p3,p4,p5,p6,p7,p8,p9,p10,Du,Bk,yX,zZ]
   refine Dz 19 ?_
   simp[w1,w2,w3,w4,p1,p2,p3,p4,p5,p6,p7,p8,p9,p10,Du,Bk,yX,zZ]
   refine⟨by simp[hg],Dz 20 ?_⟩
   simp[w1,w2,w3,w4,p1,p2,p3,p4,p5,p6,p7,p8,p9,p10,Du,Bk,yX,zZ]
   refine⟨by simp[hg],Dz 21 ?_⟩
   simp[w1,w2,w3,w4,p1,p2,p3,p4,p5,p6,p7,p8,p9,p10,Du,Bk,yX,zZ]
   refine⟨by simp[hg],Dy ?_⟩
   simp (disch:=omega) [i64_in,aB]
   refine⟨t+1,by omega,by omega,rfl,by simp,?_⟩
   intro z y hz
   simp only[aA,hsv] at hz ⊢
   grind
  ·have hi2:t=(aH s.js).length:=by omega
   subst hi2
   refine aN [.lsl g 1 0 n,.bool true] 2 (by simp) (Jz (cM (sz:=1) (n:=n) hg0 hg (els:=fvs (rW s.js D)) ?_ (by simp[en]) (Y2 _))) (by simp[hg])
   simp[rW]

def aOA (s:Str) (k:Int):Int:=IntKind.i64.wrap (IntKind.i64.wrap (aDM s k*aDM s k)+IntKind.i64.wrap (aGW s k*aGW s k))

def lat (l:List Int) (i:Nat):Int:=l.getD i 0
theorem wD {l:List Int} {i:Nat} (h:i<l.length):(iv l)[i]? =some [.int .i64 (lat l i)]:=by simp[lat,h]
structure LOk (s : Str) (l : List Int) : Prop where
 sok:SOk s
 n:l.length=2*s.js.length
 f: ∀i,i<l.length→ -100≤lat l i∧lat l i≤100
theorem N5 {js:List J} {l:List Int} (h:jJ js l=true):l.length=2*js.length∧ ∀i,i<l.length→ -100≤lat l i∧lat l i≤100:=by
 unfold jJ at h
 simp only[Bool.and_eq_true,decide_eq_true_eq] at h
 refine⟨h.1,fun i hi=> ?_⟩
 have:=List.all_eq_true.1 h.2 l[i] (List.getElem_mem hi)
 simp[iJ] at this
 simpa [lat,hi] using this
theorem mL {s:Str} {l:List Int} (h:lOk s l=true):LOk s l:=by
 unfold lOk at h
 simp only[Bool.and_eq_true] at h
 obtain⟨h1,h2⟩:=N5 h.2
 exact⟨rZ h.1,h1,h2⟩
def sumX (l:List Int):Nat→Int
 | 0 => 0
 | n + 1 => sumX l n + lat l (2 * n)
def Sn (l:List Int):Nat→Int
 | 0 => 0
 | n + 1 => Sn l n + lat l (2 * n + 1)
def aO8 (s:Str) (l:List Int):Int:=if lOk s l=true then sumX l s.js.length else 0
def aN7 (s:Str) (l:List Int):Int:=if lOk s l=true then Sn l s.js.length else 0
def Jg (s:Str) (l:List Int) (x y:Int):Nat→Int
 | 0 => 0
 | n + 1 => Jg s l x y n + ((jat s.js n).x - x) * lat l (2 * n + 1) - ((jat s.js n).y - y) * lat l (2 * n)
def aGS (s:Str) (l:List Int) (x y:Int):Bool:=lOk s l && (decide (-1000≤x)&& decide (x≤1000))&& (decide (-1000≤y)&& decide (y≤1000))
def aM4 (s:Str) (l:List Int) (x y:Int):Int:=if aGS s l x y=true then Jg s l x y s.js.length else 0

theorem yM (l:List Int) (k:Int) (hl:l.length≤140737488351232):RO Tryz.prog 281 [.sl (iv l),.int .i64 k] (.int .i64 (ixf (fun x=>decide (k=x)) l)):=by
 refine aI Tryz.func281 rfl rfl (by rw[Tryz.ntmps281];simp) fun bl=> ?_
 rw[Tryz.ntmps281,Tryz.results281]
 refine aC ?_
 simp
 refine aK (fun i:Nat=> [(0,.sl (iv l)),(1,.int .i64 k),(7,.int .i64 l.length),(8,.int .i64 i)]) (fun _=>bl) (fun i=>i≤l.length∧ ∀j (h1:j<l.length),j<i→decide (k=l[j])=false) (fun i=>l.length - i) _ 0 ⟨Nat.zero_le _,fun j _ h0=>by omega⟩ ⟨rfl,by simp,Sub.refl _⟩ ?_
 intro i ⟨hi,hc⟩
 refine aC ?_
 simp
 refine⟨fun h1=> ?_,fun h1=> ?_⟩
 ·simp[h1]
  refine⟨fun h2=> ?_,fun h2=> ?_⟩
  ·exact aM (by rw[nG (p:=fun x=>decide (k=x)) h1 hc (by simpa using h2)];simp) rfl rfl
  ·simp (disch:=omega) [i64_in,aB]
   refine⟨i+1,⟨by omega,fun j hj1 hji=> ?_⟩,by omega,rfl,by simp,Sub.refl _⟩
   rcases Nat.lt_or_ge j i with hlt | hge
   ·simpa using hc j hj1 hlt
   ·obtain rfl:j=i:=by omega
    simpa using h2
 ·exact aM (by rw[qR (p:=fun x=>decide (k=x)) fun j hj=>hc j hj (by omega)];simp) rfl rfl
theorem any_eq (l:List Int) (k:Int):(l.any fun x=>decide (k=x))=decide (k∈l):=by
 rw[Bool.eq_iff_iff];simp
theorem rS (l:List Int) (k:Int) (hl:l.length≤140737488351232):RO Tryz.prog 255 [.sl (iv l),.int .i64 k] (.bool (decide (k∈l))):=by
 refine aI Tryz.func255 rfl rfl (by rw[Tryz.ntmps255];simp) fun bl=> ?_
 rw[Tryz.ntmps255,Tryz.results255]
 refine aC ?_
 simp
 refine aD (yM l k hl) ?_
 simp
 exact aM (by simp[S7,any_eq]) rfl rfl

def Sz (ms:List Mb) (l:List Int) (n:Nat):List Mb:=((List.range n).filter fun(i:Nat)=> !decide ((i:Int)∈l)).map fun(i:Nat)=>ms.getD i default
def aJV (s:Str) (l:List Int):Str:=⟨s.js,Sz s.ms l s.ms.length⟩

end Go.Proofs.YticmgmemnpcbbaaGreat.Vm

namespace Go.Proofs.YticmgmemnpcbbaaGreat.Vm
open Go Go.Proofs
set_option linter.unusedSimpArgs false
set_option linter.unusedVariables false
def ivv (ws:List (List Int)):List (List V):=ws.map fun w=> [.sl (iv w)]
def dII (ws:List (List Int)):D:= .s 1 (ws.map fun w=> [fl 1 (iv w)])
@[simp] theorem Rs (ws : List (List Int)) : (ivv ws).length = ws.length := by simp [ivv]
@[simp] theorem aBH (ws : List (List Int)) (i : Nat) (h : i < (ivv ws).length) : (ivv ws)[i] = [.sl (iv (ws[i]'(by simpa using h)))] := by simp [ivv]
theorem Vg (ws:List (List Int)):(dII ws).fz= .sl (ivv ws):=by
 unfold dII ivv
 rw[D.fz,uI,List.map_map]
 congr 1
 exact List.map_congr_left fun w _=>by simp
theorem Nr (ws:List (List Int)):(dII ws).dep 2:=by
 unfold dII
 rw[D.dep]
 refine⟨by omega,?_⟩
 induction ws with
 | nil => simp [D.depR]
 | cons w ws ih => simp [D.depR, D.depL, kT] at ih ⊢; exact ih

def cZ (s:Str) (j:Int):List Int:=s.ms.map (eqX s j)
def cY (s:Str) (j:Int):List Int:=s.ms.map (eqY s j)
def eC (s:Str):List (List Int):=(aH s.js).flatMap fun j=> [cZ s j,cY s j]
def uW (s:Str) (n:Nat):List (List Int):=((aH s.js).take n).flatMap fun j=> [cZ s j,cY s j]
theorem zJ (s:Str) (n:Nat) (h:n<(aH s.js).length):uW s (n+1)=uW s n++ [cZ s (aH s.js)[n],cY s (aH s.js)[n]]:=by
 unfold uW
 rw[List.take_add_one,List.getElem?_eq_getElem h,List.flatMap_append]
 simp
theorem mH (s:Str): ∀n,n≤(aH s.js).length→(uW s n).length=2*n
 | 0, _ => by simp [uW]
 | n + 1, h => by
   rw[zJ s n (by omega),List.length_append,mH s n (by omega)]
   simp;omega
@[simp] theorem mI (s : Str) (j : Int) : (cZ s j).length = s.ms.length := by simp [cZ]
@[simp] theorem mJ (s : Str) (j : Int) : (cY s j).length = s.ms.length := by simp [cY]
theorem E5 {s:Str} {k:Nat} (h:k<s.ms.length):mat s k=s.ms[k]:=by simp[mat,h]
theorem Kt {s:Str} (hs:SOk s) {m:Mb} (hm:m∈s.ms):(-100≤vx s m∧vx s m≤100)∧(-100≤vy s m∧vy s m≤100):=by
 obtain⟨⟨a1,a2⟩,⟨b1,b2⟩⟩:=hs.ix _ hm
 have ca:=hs.at a1 a2
 have cb:=hs.at b1 b2
 unfold vx vy
 omega
structure Qy where
 i:Nat
 g:Int
 els:List (List V)
 gs:List Int
 b:Int→Option Blk
theorem iX (xs:List (List V)) (z:List V) (i:Nat) (h:i<xs.length) (hz:xs[i]=z):part xs z i=part xs z (i+1):=by
 rw[←cE xs z i h z hz.symm]
 have:=eI xs z i h
 apply List.ext_getElem?
 intro j
 rw[List.getElem?_set]
 split
 ·rename_i e;subst e;rw[if_pos (by rw[tJ];exact h)];exact this
 ·rfl
def Eo (bl:Int→Option Blk) (s:Str) (p:Qy):Prop:=
 p.i≤(aH s.js).length∧p.b p.g=some ⟨1,p.els⟩∧p.els.length=2*p.i∧OwnR p.b 1 ((uW s p.i).map fun w=> [fl 1 (iv w)]) p.els p.gs∧p.g∉p.gs∧bl p.g=none∧(∀x,x∈p.gs→bl x=none)∧Sub bl p.b∧(p.g<0→p.els= [])
theorem pI {bl:Int→Option Blk} {s:Str} {i:Nat} {g:Int} {els:List (List V)} {gs:List Int} {b:Int→Option Blk} (H:Eo bl s ⟨i,g,els,gs,b⟩) (h:i<(aH s.js).length)
  {ga gb gp gn:Int} (hga:0≤ga) (hba:b ga=none) (hgb:0≤gb) (hab: ¬gb=ga) (hbb:b gb=none) (hpa: ¬gp=ga) (hpb: ¬gp=gb) (hbp:b gp=none) (hgn:0≤gn)
  (hbn: ¬gn=g→ ¬gn=gp∧ ¬gn=gb∧ ¬gn=ga∧b gn=none):
  Eo bl s ⟨i+1,gn,els++ [[.lsl ga 1 0 s.ms.length]]++ [[.lsl gb 1 0 s.ms.length]],gs++ [ga]++ [gb],
   upd (rem (upd (upd (upd b ga (some ⟨1,iv (cZ s (aH s.js)[i])⟩)) gb (some ⟨1,iv (cY s (aH s.js)[i])⟩)) gp (some ⟨1,[[.lsl ga 1 0 s.ms.length],[.lsl gb 1 0 s.ms.length]]⟩)) g) gn
    (some ⟨1,els.take (2*i)++ [[.lsl ga 1 0 s.ms.length],[.lsl gb 1 0 s.ms.length]]⟩)⟩:=by
 obtain⟨hi,hb,hel,ho,hn,hg,hf,hsb,cQ⟩:=H
 simp only at hi hb hel ho hn hg hf hsb cQ
 have nga:ga≠g:=fun e=>by rw[e,hb] at hba;cases hba
 have ngb:gb≠g:=fun e=>by rw[e,hb] at hbb;cases hbb
 have ngp:gp≠g:=fun e=>by rw[e,hb] at hbp;cases hbp
 have fa:=cP hsb hba
 have fb:=cP hsb hbb
 have fp:=cP hsb hbp
 have na:gn≠ga:=fun e=>by
  by_cases c:gn=g
  ·exact nga (e.symm.trans c)
  ·exact(hbn c).2.2.1 e
 have nb:gn≠gb:=fun e=>by
  by_cases c:gn=g
  ·exact ngb (e.symm.trans c)
  ·exact(hbn c).2.1 e
 have fn:bl gn=none:=by
  by_cases c:gn=g
  ·rw[c];exact hg
  ·exact cP hsb (hbn c).2.2.2
 have nn:gn∉gs:=by
  by_cases c:gn=g
  ·rw[c];exact hn
  ·exact ho.not (hbn c).2.2.2
 have key: ∀(B:Int→Option Blk) (u v w z:Option Blk),B=upd (rem (upd (upd (upd b ga u) gb v) gp w) g) gn z→ ∀x y,x≠g→x≠gn→b x=some y→B x=some y:=by
  intro B u v w z hB x y c1 c2 hx
  have c3:x≠ga:=fun e=>by rw[e,hba] at hx;cases hx
  have c4:x≠gb:=fun e=>by rw[e,hbb] at hx;cases hx
  have c5:x≠gp:=fun e=>by rw[e,hbp] at hx;cases hx
  rw[hB];simp[c1,c2,c3,c4,c5,hx]
 have vx1: ∀xs:List Int,(iv xs).all (fun r=>r.all V.cl)=true:=fun xs=>by simp[iv,V.cl]
 have vx2: ∀(xs:List Int) r,r∈iv xs→r.length=1:=fun xs r hr=>by
  simp[iv] at hr
  obtain⟨_,_,rfl⟩:=hr;rfl
 have et:els.take (2*i)=els:=List.take_of_length_le (by omega)
 refine⟨by simp only;omega,by simp[et],by simp[hel];omega,?_,?_,fn,?_,?_,fun e=>by simp only at e;omega⟩
 ·simp only
  rw[zJ s i h,List.map_append,show(∀(A:List (List D)) (x y:List Int),A++ [x,y].map (fun w=> [fl 1 (iv w)])=A++ [[fl 1 (iv x)]]++ [[fl 1 (iv y)]]) from fun A x y=>by simp]
  generalize hB:upd (rem (upd (upd (upd b ga (some ⟨1,iv (cZ s (aH s.js)[i])⟩)) gb (some ⟨1,iv (cY s (aH s.js)[i])⟩)) gp (some ⟨1,[[.lsl ga 1 0 s.ms.length],[.lsl gb 1 0 s.ms.length]]⟩)) g) gn
    (some ⟨1,els.take (2*i)++ [[.lsl ga 1 0 s.ms.length],[.lsl gb 1 0 s.ms.length]]⟩)=B
  have o0:=ho.gL fun x hx y hy=>key _ _ _ _ _ hB.symm x y (fun e=>hn (e▸hx)) (fun e=>nn (e▸hx)) hy
  have oa:OwnD B (fl 1 (iv (cZ s (aH s.js)[i]))) (.lsl ga 1 0 s.ms.length) [ga]:=(wV (vx1 _) (vx2 _)).2 (.inr ⟨ga,by simp,rfl,by rw[←hB];simp[Ne.symm na,Ne.symm hpa,Ne.symm hab,nga],by omega⟩)
  have ob:OwnD B (fl 1 (iv (cY s (aH s.js)[i]))) (.lsl gb 1 0 s.ms.length) [gb]:=(wV (vx1 _) (vx2 _)).2 (.inr ⟨gb,by simp,rfl,by rw[←hB];simp[Ne.symm nb,Ne.symm hpb,ngb],by omega⟩)
  refine OwnR.snoc (lK.2 ob) rfl (by simp) (OwnR.snoc (lK.2 oa) rfl (by simp) o0 ?_) ?_
  ·intro x hx hx2
   rw[List.mem_singleton] at hx2
   exact ho.not hba (hx2▸hx)
  ·intro x hx hx2
   rw[List.mem_singleton] at hx2
   subst hx2
   rcases List.mem_append.1 hx with hx | hx
   ·exact ho.not hbb hx
   ·rw[List.mem_singleton] at hx;exact hab hx
 ·simp[nn,na,nb]
 ·intro x hx
  simp at hx
  rcases hx with hx | hx | hx
  ·exact hf x hx
  ·rw[hx];exact fa
  ·rw[hx];exact fb
 ·intro x y hx
  exact key _ _ _ _ _ rfl x y (fun e=>by rw[e,hg] at hx;cases hx) (fun e=>by rw[e,fn] at hx;cases hx) (hsb x y hx)
set_option maxHeartbeats 2000000 in
theorem vN (s:Str) (hs:SOk s):NW Tryz.prog 148 [.ptr s.c] (dII (eC s)):=by
 have h6:=hs.nj
 have h8:=hs.nm
 have hfr:=eW s.js s.js.length
 change(aH s.js).length≤s.js.length at hfr
 refine iQ Tryz.func148 rfl rfl (by rw[Tryz.ntmps148];simp) fun bl=> ?_
 rw[Tryz.ntmps148,Tryz.results148]
 refine aC ?_
 simp
 refine aD (kC s (by omega)) ?_
 simp
 refine qG 3 1 (by simp) fun g00 oN=> ?_
 simp at oN
 refine aK (fun p:Qy=> [(0,.ptr s.c),(3,.lsl p.g 1 0 (2*p.i)),(13,.sl (iv (aH s.js))),(14,.int .i64 (aH s.js).length),(15,.int .i64 p.i)]) (fun p=>p.b)
  (Eo bl s)
  (fun p=>(aH s.js).length - p.i) 82 ⟨0,g00,[],[],upd bl g00 (some ⟨1,[]⟩)⟩ ⟨Nat.zero_le _,by simp,rfl,by simp[uW,OwnR],by simp,oN,by simp,by simp[oN],fun _=>rfl⟩ ⟨rfl,by simp,by simp⟩ ?_
 rintro⟨i,g,els,gs,b⟩ ⟨hi,hb,hel,ho,hn,hg,hf,hsb,cQ⟩
 simp only at hi hb hel ho hn hg hf hsb cQ
 refine aC ?_
 simp
 refine⟨fun h=> ?_,fun h=> ?_⟩
 ·have q:=cH (aH s.js) i h
  simp[h]
  obtain⟨j,hj⟩: ∃j,(aH s.js)[i]=j:=⟨_,rfl⟩
  rw[hj]
  refine J7 aQ [0,1,2,3,4,6,7,8,9,10] 4 (by kernel_rfl) ?_
  simp[Str.c]
  refine vI (i:=5) (j:=11) (by kernel_rfl) rfl rfl rfl rfl ?_ ?_
  ·simp
   refine⟨by omega,by unfold maxLen;omega,fun ga hga hba=>⟨by simp[hba],?_⟩⟩
   refine vI (i:=11) (j:=12) (by kernel_rfl) rfl rfl rfl rfl ?_ ?_
   ·simp
    refine⟨by omega,by unfold maxLen;omega,fun gb hgb hab hbb=>⟨by simp[hba,hbb,hab],?_⟩⟩
    refine Dz 12 ?_
    simp
    refine⟨by simp[hba,hbb,hab],Dz 13 ?_⟩
    simp
    refine⟨by simp[hba,hbb,hab],Dy ?_⟩
    simp[Str.c]
    have nga:ga≠g:=fun e=>by rw[e,hb] at hba;cases hba
    have ngb:gb≠g:=fun e=>by rw[e,hb] at hbb;cases hbb
    have fa:=cP hsb hba
    have fb:=cP hsb hbb
    have er:List.replicate s.ms.length [V.int IntKind.i64 0]=part (iv (cZ s j)) [.int .i64 0] 0:=by simp
    have er':List.replicate s.ms.length [V.int IntKind.i64 0]=part (iv (cY s j)) [.int .i64 0] 0:=by simp
    refine aK (fun k:Nat=> [(0,.ptr s.c),(3,.lsl g 1 0 (2*i)),(5,.int .i64 j),(6,.lsl ga 1 0 s.ms.length),(7,.lsl gb 1 0 s.ms.length),(13,.sl (iv (aH s.js))),(14,.int .i64 (aH s.js).length),(15,.int .i64 i),(34,.sl (mv s.ms)),(35,.int .i64 s.ms.length),(36,.int .i64 k)])
     (fun k=>upd (upd b ga (some ⟨1,part (iv (cZ s j)) [.int .i64 0] k⟩)) gb (some ⟨1,part (iv (cY s j)) [.int .i64 0] k⟩)) (fun k=>k≤s.ms.length) (fun k=>s.ms.length - k) 82 0 (Nat.zero_le _) ⟨rfl,by simp[Str.c],?_⟩ ?_
    ·intro x y hx
     simp only[aA,rU,iC,mI,mJ] at hx ⊢
     grind
    intro k hk
    refine aC ?_
    simp
    refine⟨fun hkl=> ?_,fun hkl=> ?_⟩
    ·have hv:=Kt hs (List.getElem_mem hkl)
     have hm:mat s (k:Int)=s.ms[k]:=E5 hkl
     have I8:=nU s k hs (by omega) (by omega)
     rw[hm] at I8
     have hx:k<(iv (cZ s j)).length:=by simpa using hkl
     have hy:k<(iv (cY s j)).length:=by simpa using hkl
     have w1:IntKind.i64.wrap ((k:Int)+1)=k+1:=i64_in (by omega) (by omega)
     have nx:IntKind.i64.wrap (-vx s s.ms[k])= -vx s s.ms[k]:=i64_in (by omega) (by omega)
     have ny:IntKind.i64.wrap (-vy s s.ms[k])= -vy s s.ms[k]:=i64_in (by omega) (by omega)
     have px:=eI (iv (cZ s j)) [.int .i64 0] k hx
     have py:=eI (iv (cY s j)) [.int .i64 0] k hy
     simp[hkl,Mb.c]
     intro g9 hg9 h9b h9a hb9
     refine aD I8 ?_
     simp
     refine⟨fun e1=> ?_,fun e1=> ?_⟩
     ·simp[hab,Ne.symm hab,h9a,h9b,Ne.symm h9a,Ne.symm h9b,hkl,px,py,w1,aB]
      have sx:=cE (iv (cZ s j)) [.int .i64 0] k hx [.int .i64 (vx s s.ms[k])] (by simp[cZ,eqX,e1])
      have sy:=cE (iv (cY s j)) [.int .i64 0] k hy [.int .i64 (vy s s.ms[k])] (by simp[cY,eqY,e1])
      refine⟨k+1,by omega,by omega,rfl,by simp,?_⟩
      intro x y hx'
      rw[←sx,←sy] at hx'
      simp only[aA] at hx' ⊢
      grind
     ·simp[hab,Ne.symm hab,h9a,h9b,Ne.symm h9a,Ne.symm h9b,hkl,px,py,w1,nx,ny,aB]
      refine⟨fun e2=> ?_,fun e2=> ?_⟩
      ·have fx:eqX s j s.ms[k]= -vx s s.ms[k]:=by rw[eqX,if_neg e1,if_pos e2]
       have fy:eqY s j s.ms[k]= -vy s s.ms[k]:=by rw[eqY,if_neg e1,if_pos e2]
       have sx:=cE (iv (cZ s j)) [.int .i64 0] k hx [.int .i64 (-vx s s.ms[k])] (by simp[cZ,fx])
       have sy:=cE (iv (cY s j)) [.int .i64 0] k hy [.int .i64 (-vy s s.ms[k])] (by simp[cY,fy])
       refine⟨k+1,by omega,by omega,rfl,by simp,?_⟩
       intro x y hx'
       rw[←sx,←sy] at hx'
       simp only[aA] at hx' ⊢
       grind
      ·have sx:=iX (iv (cZ s j)) [.int .i64 0] k hx (by simp[cZ,eqX,e1,e2])
       have sy:=iX (iv (cY s j)) [.int .i64 0] k hy (by simp[cY,eqY,e1,e2])
       refine⟨k+1,by omega,by omega,rfl,by simp,?_⟩
       intro x y hx'
       rw[←sx,←sy] at hx'
       simp only[aA] at hx' ⊢
       grind
    ·have:k=s.ms.length:=by omega
     subst this
     rw[fL _ _ _ (by simp),fL _ _ _ (by simp)]
     intro gp hgp hpb hpa hbp
     have npg:gp≠g:=fun e=>by rw[e,hb] at hbp;cases hbp
     have er2:List.range 2= [0,1]:=rfl
     simp[er2,appV,elsV,Int.not_lt.2 hgp,hpb,hpa,Ne.symm hpb,Ne.symm hpa,nga,ngb,Ne.symm nga,Ne.symm ngb,npg,Ne.symm npg,hb,hel]
     refine⟨by omega,fun gn hgn hbn=> ?_⟩
     have w9:IntKind.i64.wrap ((i:Int)+1)=i+1:=i64_in (by omega) (by omega)
     rw[aB]
     subst hj
     have nx:=pI ⟨hi,hb,hel,ho,hn,hg,hf,hsb,cQ⟩ h hga hba hgb hab hbb hpa hpb hbp hgn hbn
     refine⟨_,nx,by simp only;omega,rfl,?_,sub_eq rfl⟩
     simp[w9];exact⟨rfl,by omega⟩
   ·simp
    refine⟨by simp[hba],Dz 11 ?_⟩
    simp
    refine⟨by omega,by unfold maxLen;omega,fun gb hgb hab hbb=>⟨by simp[hba,hbb,hab],?_⟩⟩
    refine Dz 13 ?_
    simp
    refine⟨by simp[hba,hbb,hab],Dy ?_⟩
    simp[Str.c]
    have nga:ga≠g:=fun e=>by rw[e,hb] at hba;cases hba
    have ngb:gb≠g:=fun e=>by rw[e,hb] at hbb;cases hbb
    have fa:=cP hsb hba
    have fb:=cP hsb hbb
    have er:List.replicate s.ms.length [V.int IntKind.i64 0]=part (iv (cZ s j)) [.int .i64 0] 0:=by simp
    have er':List.replicate s.ms.length [V.int IntKind.i64 0]=part (iv (cY s j)) [.int .i64 0] 0:=by simp
    refine aK (fun k:Nat=> [(0,.ptr s.c),(3,.lsl g 1 0 (2*i)),(5,.int .i64 j),(6,.lsl ga 1 0 s.ms.length),(7,.lsl gb 1 0 s.ms.length),(13,.sl (iv (aH s.js))),(14,.int .i64 (aH s.js).length),(15,.int .i64 i),(34,.sl (mv s.ms)),(35,.int .i64 s.ms.length),(36,.int .i64 k)])
     (fun k=>upd (upd b ga (some ⟨1,part (iv (cZ s j)) [.int .i64 0] k⟩)) gb (some ⟨1,part (iv (cY s j)) [.int .i64 0] k⟩)) (fun k=>k≤s.ms.length) (fun k=>s.ms.length - k) 82 0 (Nat.zero_le _) ⟨rfl,by simp[Str.c],?_⟩ ?_
    ·intro x y hx
     simp only[aA,rU,iC,mI,mJ] at hx ⊢
     grind
    intro k hk
    refine aC ?_
    simp
    refine⟨fun hkl=> ?_,fun hkl=> ?_⟩
    ·have hv:=Kt hs (List.getElem_mem hkl)
     have hm:mat s (k:Int)=s.ms[k]:=E5 hkl
     have I8:=nU s k hs (by omega) (by omega)
     rw[hm] at I8
     have hx:k<(iv (cZ s j)).length:=by simpa using hkl
     have hy:k<(iv (cY s j)).length:=by simpa using hkl
     have w1:IntKind.i64.wrap ((k:Int)+1)=k+1:=i64_in (by omega) (by omega)
     have nx:IntKind.i64.wrap (-vx s s.ms[k])= -vx s s.ms[k]:=i64_in (by omega) (by omega)
     have ny:IntKind.i64.wrap (-vy s s.ms[k])= -vy s s.ms[k]:=i64_in (by omega) (by omega)
     have px:=eI (iv (cZ s j)) [.int .i64 0] k hx
     have py:=eI (iv (cY s j)) [.int .i64 0] k hy
     simp[hkl,Mb.c]
     intro g9 hg9 h9b h9a hb9
     refine aD I8 ?_
     simp
     refine⟨fun e1=> ?_,fun e1=> ?_⟩
     ·simp[hab,Ne.symm hab,h9a,h9b,Ne.symm h9a,Ne.symm h9b,hkl,px,py,w1,aB]
      have sx:=cE (iv (cZ s j)) [.int .i64 0] k hx [.int .i64 (vx s s.ms[k])] (by simp[cZ,eqX,e1])
      have sy:=cE (iv (cY s j)) [.int .i64 0] k hy [.int .i64 (vy s s.ms[k])] (by simp[cY,eqY,e1])
      refine⟨k+1,by omega,by omega,rfl,by simp,?_⟩
      intro x y hx'
      rw[←sx,←sy] at hx'
      simp only[aA] at hx' ⊢
      grind
     ·simp[hab,Ne.symm hab,h9a,h9b,Ne.symm h9a,Ne.symm h9b,hkl,px,py,w1,nx,ny,aB]
      refine⟨fun e2=> ?_,fun e2=> ?_⟩
      ·have fx:eqX s j s.ms[k]= -vx s s.ms[k]:=by rw[eqX,if_neg e1,if_pos e2]
       have fy:eqY s j s.ms[k]= -vy s s.ms[k]:=by rw[eqY,if_neg e1,if_pos e2]
       have sx:=cE (iv (cZ s j)) [.int .i64 0] k hx [.int .i64 (-vx s s.ms[k])] (by simp[cZ,fx])
       have sy:=cE (iv (cY s j)) [.int .i64 0] k hy [.int .i64 (-vy s s.ms[k])] (by simp[cY,fy])
       refine⟨k+1,by omega,by omega,rfl,by simp,?_⟩
       intro x y hx'
       rw[←sx,←sy] at hx'
       simp only[aA] at hx' ⊢
       grind
      ·have sx:=iX (iv (cZ s j)) [.int .i64 0] k hx (by simp[cZ,eqX,e1,e2])
       have sy:=iX (iv (cY s j)) [.int .i64 0] k hy (by simp[cY,eqY,e1,e2])
       refine⟨k+1,by omega,by omega,rfl,by simp,?_⟩
       intro x y hx'
       rw[←sx,←sy] at hx'
       simp only[aA] at hx' ⊢
       grind
    ·have:k=s.ms.length:=by omega
     subst this
     rw[fL _ _ _ (by simp),fL _ _ _ (by simp)]
     intro gp hgp hpb hpa hbp
     have npg:gp≠g:=fun e=>by rw[e,hb] at hbp;cases hbp
     have er2:List.range 2= [0,1]:=rfl
     simp[er2,appV,elsV,Int.not_lt.2 hgp,hpb,hpa,Ne.symm hpb,Ne.symm hpa,nga,ngb,Ne.symm nga,Ne.symm ngb,npg,Ne.symm npg,hb,hel]
     refine⟨by omega,fun gn hgn hbn=> ?_⟩
     have w9:IntKind.i64.wrap ((i:Int)+1)=i+1:=i64_in (by omega) (by omega)
     rw[aB]
     subst hj
     have nx:=pI ⟨hi,hb,hel,ho,hn,hg,hf,hsb,cQ⟩ h hga hba hgb hab hbb hpa hpb hbp hgn hbn
     refine⟨_,nx,by simp only;omega,rfl,?_,sub_eq rfl⟩
     simp[w9];exact⟨rfl,by omega⟩
  ·simp
   refine⟨by omega,by unfold maxLen;omega,fun gb hgb hbb=>⟨by simp[hbb],?_⟩⟩
   refine Dz 5 ?_
   simp
   refine⟨by omega,by unfold maxLen;omega,fun ga hga hab hba=>⟨by simp[hba,hbb,hab],?_⟩⟩
   refine Dz 12 ?_
   simp
   refine⟨by simp[hba,hbb,hab],Dz 13 ?_⟩
   simp
   refine⟨by simp[hba,hbb,hab],Dy ?_⟩
   simp[Str.c]
   have nga:ga≠g:=fun e=>by rw[e,hb] at hba;cases hba
   have ngb:gb≠g:=fun e=>by rw[e,hb] at hbb;cases hbb
   have fa:=cP hsb hba
   have fb:=cP hsb hbb
   have er:List.replicate s.ms.length [V.int IntKind.i64 0]=part (iv (cZ s j)) [.int .i64 0] 0:=by simp
   have er':List.replicate s.ms.length [V.int IntKind.i64 0]=part (iv (cY s j)) [.int .i64 0] 0:=by simp
   refine aK (fun k:Nat=> [(0,.ptr s.c),(3,.lsl g 1 0 (2*i)),(5,.int .i64 j),(6,.lsl ga 1 0 s.ms.length),(7,.lsl gb 1 0 s.ms.length),(13,.sl (iv (aH s.js))),(14,.int .i64 (aH s.js).length),(15,.int .i64 i),(34,.sl (mv s.ms)),(35,.int .i64 s.ms.length),(36,.int .i64 k)])
    (fun k=>upd (upd b ga (some ⟨1,part (iv (cZ s j)) [.int .i64 0] k⟩)) gb (some ⟨1,part (iv (cY s j)) [.int .i64 0] k⟩)) (fun k=>k≤s.ms.length) (fun k=>s.ms.length - k) 82 0 (Nat.zero_le _) ⟨rfl,by simp[Str.c],?_⟩ ?_
   ·intro x y hx
    simp only[aA,rU,iC,mI,mJ] at hx ⊢
    grind
   intro k hk
   refine aC ?_
   simp
   refine⟨fun hkl=> ?_,fun hkl=> ?_⟩
   ·have hv:=Kt hs (List.getElem_mem hkl)
    have hm:mat s (k:Int)=s.ms[k]:=E5 hkl
    have I8:=nU s k hs (by omega) (by omega)
    rw[hm] at I8
    have hx:k<(iv (cZ s j)).length:=by simpa using hkl
    have hy:k<(iv (cY s j)).length:=by simpa using hkl
    have w1:IntKind.i64.wrap ((k:Int)+1)=k+1:=i64_in (by omega) (by omega)
    have nx:IntKind.i64.wrap (-vx s s.ms[k])= -vx s s.ms[k]:=i64_in (by omega) (by omega)
    have ny:IntKind.i64.wrap (-vy s s.ms[k])= -vy s s.ms[k]:=i64_in (by omega) (by omega)
    have px:=eI (iv (cZ s j)) [.int .i64 0] k hx
    have py:=eI (iv (cY s j)) [.int .i64 0] k hy
    simp[hkl,Mb.c]
    intro g9 hg9 h9b h9a hb9
    refine aD I8 ?_
    simp
    refine⟨fun e1=> ?_,fun e1=> ?_⟩
    ·simp[hab,Ne.symm hab,h9a,h9b,Ne.symm h9a,Ne.symm h9b,hkl,px,py,w1,aB]
     have sx:=cE (iv (cZ s j)) [.int .i64 0] k hx [.int .i64 (vx s s.ms[k])] (by simp[cZ,eqX,e1])
     have sy:=cE (iv (cY s j)) [.int .i64 0] k hy [.int .i64 (vy s s.ms[k])] (by simp[cY,eqY,e1])
     refine⟨k+1,by omega,by omega,rfl,by simp,?_⟩
     intro x y hx'
     rw[←sx,←sy] at hx'
     simp only[aA] at hx' ⊢
     grind
    ·simp[hab,Ne.symm hab,h9a,h9b,Ne.symm h9a,Ne.symm h9b,hkl,px,py,w1,nx,ny,aB]
     refine⟨fun e2=> ?_,fun e2=> ?_⟩
     ·have fx:eqX s j s.ms[k]= -vx s s.ms[k]:=by rw[eqX,if_neg e1,if_pos e2]
      have fy:eqY s j s.ms[k]= -vy s s.ms[k]:=by rw[eqY,if_neg e1,if_pos e2]
      have sx:=cE (iv (cZ s j)) [.int .i64 0] k hx [.int .i64 (-vx s s.ms[k])] (by simp[cZ,fx])
      have sy:=cE (iv (cY s j)) [.int .i64 0] k hy [.int .i64 (-vy s s.ms[k])] (by simp[cY,fy])
      refine⟨k+1,by omega,by omega,rfl,by simp,?_⟩
      intro x y hx'
      rw[←sx,←sy] at hx'
      simp only[aA] at hx' ⊢
      grind
     ·have sx:=iX (iv (cZ s j)) [.int .i64 0] k hx (by simp[cZ,eqX,e1,e2])
      have sy:=iX (iv (cY s j)) [.int .i64 0] k hy (by simp[cY,eqY,e1,e2])
      refine⟨k+1,by omega,by omega,rfl,by simp,?_⟩
      intro x y hx'
      rw[←sx,←sy] at hx'
      simp only[aA] at hx' ⊢
      grind
   ·have:k=s.ms.length:=by omega
    subst this
    rw[fL _ _ _ (by simp),fL _ _ _ (by simp)]
    intro gp hgp hpb hpa hbp
    have npg:gp≠g:=fun e=>by rw[e,hb] at hbp;cases hbp
    have er2:List.range 2= [0,1]:=rfl
    simp[er2,appV,elsV,Int.not_lt.2 hgp,hpb,hpa,Ne.symm hpb,Ne.symm hpa,nga,ngb,Ne.symm nga,Ne.symm ngb,npg,Ne.symm npg,hb,hel]
    refine⟨by omega,fun gn hgn hbn=> ?_⟩
    have w9:IntKind.i64.wrap ((i:Int)+1)=i+1:=i64_in (by omega) (by omega)
    rw[aB]
    subst hj
    have nx:=pI ⟨hi,hb,hel,ho,hn,hg,hf,hsb,cQ⟩ h hga hba hgb (Ne.symm hab) hbb hpa hpb hbp hgn hbn
    refine⟨_,nx,by simp only;omega,rfl,?_,sub_eq rfl⟩
    simp[w9];exact⟨rfl,by omega⟩
 ·have:i=(aH s.js).length:=by omega
  subst this
  refine eE [.lsl g 1 0 (2*(aH s.js).length)] (g::gs) (by simp) ?_ ?_ hsb
  ·unfold dII
   rw[OwnD]
   have e:eC s=uW s (aH s.js).length:=by simp[uW,eC]
   refine .inr ⟨g,els,gs,by rw[e,List.length_map,mH s _ (Nat.le_refl _)];rfl,rfl,hn,hb,cQ,?_⟩
   rw[e];exact ho
  ·intro x hx
   rcases List.mem_cons.1 hx with rfl | hx
   ·exact hg
   ·exact hf x hx

def uA (m:Mb) (k:Nat):List (Int×Int):=(if m.kind=2 then [] else [((k:Int),1)])++(if m.kind=1 then [] else [((k:Int), -1)])
def dA (ms:List Mb) (n:Nat):List (Int×Int):=(List.range n).flatMap fun k=>uA (ms.getD k default) k
def bE (ms:List Mb):List (Int×Int):=dA ms ms.length
def cv (cs:List (Int×Int)):List (List V):=cs.map fun p=> [.int .i64 p.1,.int .i64 p.2]
theorem nD (ms:List Mb) (n:Nat):dA ms (n+1)=dA ms n++uA (ms.getD n default) n:=by
 unfold dA
 rw[List.range_succ,List.flatMap_append];simp
theorem Oe (m:Mb) (k:Nat):(uA m k).length≤2:=by
 unfold uA;split<;>split<;>simp
theorem kE (ms:List Mb): ∀n,(dA ms n).length≤2*n
 | 0 => by simp [dA]
 | n + 1 => by
   rw[nD,List.length_append]
   have:=kE ms n
   have:=Oe (ms.getD n default) n
   omega
theorem nV (a b:List (Int×Int)):cv (a++b)=cv a++cv b:=by simp[cv]
@[simp] theorem Ef (a : List (Int × Int)) : (cv a).length = a.length := by simp [cv]
theorem pE (a:List (Int×Int)):(cv a).take a.length=cv a:=by rw[←Ef a,List.take_length]
theorem aD1 (a:List (Int×Int)):(cv a).all (fun e=>e.all V.cl)=true:=by simp[cv,V.cl]
theorem Mf (a:List (Int×Int)): ∀r,r∈cv a→r.length=2:=by
 intro r hr
 obtain⟨n,_,rfl⟩:=List.mem_map.1 hr
 rfl
theorem Rm {bl:Int→Option Blk} {ns:List (Int×Int)} {v:V} {gs:List Int} :OwnD bl (fl 2 (cv ns)) v gs ↔ (ns= []∧v= .nils∧gs= [])∨ ∃g,v= .lsl g 2 0 ns.length∧gs= [g]∧bl g=some ⟨2,cv ns⟩∧(g<0→ns= []):=by
 rw[wV (aD1 ns) (Mf ns)]
 simp[cv]
theorem Q5 (s:Str) (hm:s.ms.length≤8):NW Tryz.prog 146 [.ptr s.c] (fl 2 (cv (bE s.ms))):=by
 refine iQ Tryz.func146 rfl rfl (by rw[Tryz.ntmps146];simp) fun bl=> ?_
 rw[Tryz.ntmps146,Tryz.results146]
 refine aC ?_
 simp[Str.c]
 refine qG 3 2 (by simp) fun g00 oN=> ?_
 refine aK (fun p:Nat×Int=> [(3,.lsl p.2 2 0 (dA s.ms p.1).length),(9,.sl (mv s.ms)),(10,.int .i64 s.ms.length),(11,.int .i64 p.1)]) (fun p=>upd bl p.2 (some ⟨2,cv (dA s.ms p.1)⟩)) (fun p=>p.1≤s.ms.length∧bl p.2=none∧(p.2<0→dA s.ms p.1= [])) (fun p=>s.ms.length - p.1) _ (0,g00) ⟨Nat.zero_le _,oN,fun _=>rfl⟩ ⟨rfl,by simp[dA],sub_eq (by simp[dA,cv])⟩ ?_
 rintro⟨i,g⟩ ⟨hi,hg,h0⟩
 simp only at hi hg h0
 have hl:=kE s.ms i
 refine aC ?_
 simp
 refine⟨fun h=> ?_,fun h=> ?_⟩
 ·have w1:IntKind.i64.wrap ((i:Int)+1)=i+1:=i64_in (by omega) (by omega)
  have hsc:=nD s.ms i
  rw[jQ _ _ _ h] at hsc
  simp[h,Mb.c]
  intro g1 hg1 h1g hb1
  refine⟨fun hf=> ?_,fun hf=> ?_⟩
  ·intro g2 hg2 h21 h2g hb2
   simp[h1g,h21,h2g,Ne.symm h1g,Ne.symm h21,Ne.symm h2g,appV,elsV,Int.not_lt.2 hg2]
   refine⟨by omega,fun g3 hg3 hb3=> ?_⟩
   have h31:g3≠g1:=by grind
   have gZ:bl g3=none:=by grind
   simp[h31,Ne.symm h31,h1g,h21,Ne.symm h1g,Ne.symm h21]
   refine⟨fun hf2=> ?_,fun hf2=> ?_⟩
   ·intro g4 hg4 h43 h42
    simp[h43,Ne.symm h43,h31,Ne.symm h31,appV,elsV,Int.not_lt.2 hg4]
    refine⟨by omega,fun g5 hg5 hb5=> ?_⟩
    have aK4:bl g5=none:=by grind
    have hb4:bl g4=none:=by grind
    have hs1:dA s.ms (i+1)=dA s.ms i++ [((i:Int),1)]++ [((i:Int), -1)]:=by rw[hsc,uA,if_neg hf,if_neg hf2,List.append_assoc]
    simp[w1,aB]
    refine⟨i+1,g5,⟨by omega,aK4,by omega⟩,by omega,rfl,by simp[hs1],?_⟩
    rw[hs1,nV,nV]
    exact eP (by rw[pE,List.take_of_length_le (by simp)];rfl) (by simp[hg,hb1,hb2,gZ,hb4,h1g,h21,h2g])
   ·have hs1:dA s.ms (i+1)=dA s.ms i++ [((i:Int),1)]:=by rw[hsc,uA,if_neg hf,if_pos hf2,List.append_nil]
    simp[w1,aB]
    refine⟨i+1,g3,⟨by omega,gZ,by omega⟩,by omega,rfl,by simp[hs1],?_⟩
    rw[hs1,nV]
    exact eP (by rw[pE];rfl) (by simp[hg,hb1,hb2,h1g,h21,h2g])
  ·refine⟨fun hf2=> ?_,fun hf2=> ?_⟩
   ·intro g2 hg2 h21 h2g hb2
    simp[h1g,h21,h2g,Ne.symm h1g,Ne.symm h21,Ne.symm h2g,appV,elsV,Int.not_lt.2 hg2]
    refine⟨by omega,fun g3 hg3 hb3=> ?_⟩
    have gZ:bl g3=none:=by grind
    have hs1:dA s.ms (i+1)=dA s.ms i++ [((i:Int), -1)]:=by rw[hsc,uA,if_pos hf,if_neg hf2,List.nil_append]
    simp[w1,aB]
    refine⟨i+1,g3,⟨by omega,gZ,by omega⟩,by omega,rfl,by simp[hs1],?_⟩
    rw[hs1,nV]
    exact eP (by rw[pE];rfl) (by simp[hg,hb1,hb2,h1g,h21,h2g])
   ·omega
 ·have hi:i=s.ms.length:=by omega
  subst hi
  refine eE [.lsl g 2 0 (dA s.ms s.ms.length).length] [g] (by simp) ?_ (by simpa using hg) (by simp[hg])
  refine Rm.2 (.inr ⟨g,rfl,rfl,by simp[bE],h0⟩)
def who (s:Str):List Int:=(bE s.ms).map (·.1)
def sgn (s:Str):List Int:=(bE s.ms).map (·.2)
def dWS (s:Str):D:= .t [fl 1 (iv (who s)),fl 1 (iv (sgn s))]
structure Two where
 i:Nat
 g:Int
 h:Int
 b:Int→Option Blk
def aLJ (bl:Int→Option Blk) (A B:Nat→List Int) (n:Nat) (p:Two):Prop:=
 p.i≤n∧p.g≠p.h∧p.b p.g=some ⟨1,iv (A p.i)⟩∧p.b p.h=some ⟨1,iv (B p.i)⟩∧bl p.g=none∧bl p.h=none∧Sub bl p.b∧(p.g<0→A p.i= [])∧(p.h<0→B p.i= [])
theorem pJ (s:Str) (hm:s.ms.length≤8):RO Tryz.prog 146 [.ptr s.c] (.sl (cv (bE s.ms))):=by
 have:=eH 1 (Q5 s hm) (kT _ _ 0)
 simpa using this

def vsg (p:Int) (x:Option Rat):Option Rat:=if p<0 then x.map (- ·) else x
def stI (acc:List (Option Rat)) (p:Int×Int) (x:Option Rat):List (Option Rat):=
 acc.set p.1.toNat (if(acc.getD p.1.toNat none).isSome=true then op2 (· + ·) (acc.getD p.1.toNat none) (vsg p.2 x) else vsg p.2 x)
def stS (acc:List (Option Rat)) (p:Int×Int) (x:Option Rat):List (Option Rat):=
 acc.set p.1.toNat (if 0<p.2 then op2 (· + ·) (acc.getD p.1.toNat none) x else op2 (· - ·) (acc.getD p.1.toNat none) x)
def fQ (ms:List Mb) (d:List (Option Rat)) (t:Nat):List (Option Rat):=(List.range t).foldl (fun acc j=>stI acc ((bE ms).getD j (0,0)) (d.getD j none)) (List.replicate ms.length none)
def aPG (ms:List Mb) (d:List (Option Rat)) (t:Nat):List (Option Rat):=(List.range t).foldl (fun acc j=>stS acc ((bE ms).getD j (0,0)) (d.getD j none)) (List.replicate ms.length (some 0))
theorem oG (ms:List Mb) (d:List (Option Rat)) (t:Nat):fQ ms d (t+1)=stI (fQ ms d t) ((bE ms).getD t (0,0)) (d.getD t none):=by
 unfold fQ;rw[List.range_succ,List.foldl_append];rfl
theorem eD (ms:List Mb) (d:List (Option Rat)): ∀t,(fQ ms d t).length=ms.length
 | 0 => by simp [fQ]
 | t + 1 => by rw [oG, stI, List.length_set, eD ms d t]
theorem Fw :okQ none:=fun _ e=>by cases e
theorem Ta {p:Int} {x:Option Rat} (h:okQ x):okQ (vsg p x):=by
 unfold vsg;split
 ·exact Ab h
 ·exact h
theorem Nn {xs:List (Option Rat)} (h:okL xs) (i:Nat) {x:Option Rat} (hx:okQ x):okL (xs.set i x):=fun y hy=>by
 rcases List.mem_or_eq_of_mem_set hy with h1 | h1
 ·exact h y h1
 ·rw[h1];exact hx
theorem A3 (ms:List Mb) {d:List (Option Rat)} (hd:okL d): ∀t,okL (fQ ms d t)
 | 0 => fun y hy => by
   have:y∈List.replicate ms.length (none:Option Rat):=hy
   rw[List.mem_replicate] at this
   rw[this.2];exact Fw
 | t + 1 => by
   rw[oG,stI]
   refine Nn (A3 ms hd t) _ ?_
   split
   ·exact jU _ _ _
   ·exact Ta (C8 hd _)
theorem Mh {ms:List Mb} {p:Int×Int} : ∀n,n≤ms.length→p∈dA ms n→ ∃k:Nat,p.1=k∧k<ms.length∧(p.2=1∨p.2= -1):=by
 intro n
 induction n with
 | zero => intro _ h; simp [dA] at h
 | succ n ih =>
   intro hn h
   rw[nD] at h
   rcases List.mem_append.1 h with h | h
   ·exact ih (by omega) h
   ·refine⟨n,?_⟩
    unfold uA at h
    rcases List.mem_append.1 h with h | h
    ·split at h
     ·cases h
     ·obtain rfl:p=_:=by simpa using h
      exact⟨rfl,by omega,.inl rfl⟩
    ·split at h
     ·cases h
     ·obtain rfl:p=_:=by simpa using h
      exact⟨rfl,by omega,.inr rfl⟩
theorem getD_set_ne {xs:List (Option Rat)} {i k:Nat} (h:i≠k) (x:Option Rat):(xs.set i x).getD k none=xs.getD k none:=by
 rw[List.getD_eq_getElem?_getD,List.getElem?_set_ne h,List.getD_eq_getElem?_getD]
def aMD (ms:List Mb) (A B:List (Option Rat)) (n:Nat):Prop:= ∀k,k<ms.length→(k<n→A.getD k none=B.getD k none)∧(n≤k→A.getD k none=none∧B.getD k none=some 0)

theorem Th (r:RT) (b:Bool):(dT r b).dep 3:=by
 unfold dT;rw[D.dep];exact⟨by omega,by simp[D.depL,D.dep,U2]⟩
theorem aF6 (r:RT) (b:Bool):(dT r b).fz= .tup [.agg r.c,.bool b]:=by simp[dT,D.fz,D.fzL,Qh]

def apX (s:Str) (d:List (Option Rat)) (m:Mb):Option Rat:=op2 (· - ·) (dX s.js d m.b.toNat) (dX s.js d m.a.toNat)
def apY (s:Str) (d:List (Option Rat)) (m:Mb):Option Rat:=op2 (· - ·) (dY s.js d m.b.toNat) (dY s.js d m.a.toNat)
def yL (s:Str) (d:List (Option Rat)) (k:Nat):Option Rat:=op2 (· + ·) (op2 (· * ·) (some (vx s (mat s k):Rat)) (apX s d (mat s k))) (op2 (· * ·) (some (vy s (mat s k):Rat)) (apY s d (mat s k)))
theorem Md (s:Str) (d:List (Option Rat)) (k:Nat):okQ (yL s d k):=jU _ _ _
theorem Io (s:Str) (d:List (Option Rat)) (k:Nat) (hs:SOk s) (hd:okL d) (hk:k<s.ms.length):RO Tryz.prog 162 [.ptr s.c,.int .i64 k,.sl (fvs (rW s.js d))] (.tup [fv (apX s d (mat s k)),fv (apY s d (mat s k))]):=by
 have hm:=vZ s k hk
 obtain⟨⟨a1,a2⟩,⟨b1,b2⟩⟩:=hs.ix _ (List.getElem_mem hk)
 have hnj:=hs.nj
 rw[hm]
 obtain⟨a,ha⟩: ∃a:Nat,s.ms[k].a=a:=⟨s.ms[k].a.toNat,by omega⟩
 obtain⟨b,hb⟩: ∃b:Nat,s.ms[k].b=b:=⟨s.ms[k].b.toNat,by omega⟩
 rw[ha] at a1 a2
 rw[hb] at b1 b2
 have ha':a<s.js.length:=by omega
 have hb':b<s.js.length:=by omega
 have w1:IntKind.i64.wrap (2*(a:Int))=2*a:=i64_in (by omega) (by omega)
 have w2:IntKind.i64.wrap (2*(a:Int)+1)=2*a+1:=i64_in (by omega) (by omega)
 have w3:IntKind.i64.wrap (2*(b:Int))=2*b:=i64_in (by omega) (by omega)
 have w4:IntKind.i64.wrap (2*(b:Int)+1)=2*b+1:=i64_in (by omega) (by omega)
 have p1:2*a<2*s.js.length:=by omega
 have p2:2*a+1<2*s.js.length:=by omega
 have p3:2*b<2*s.js.length:=by omega
 have p4:2*b+1<2*s.js.length:=by omega
 have p5:2*(a:Int)<2*(s.js.length:Int):=by omega
 have p6:2*(a:Int)+1<2*(s.js.length:Int):=by omega
 have p7:2*(b:Int)<2*(s.js.length:Int):=by omega
 have p8:2*(b:Int)+1<2*(s.js.length:Int):=by omega
 have x1:=Jh s.js d a ha' (by simpa using p1)
 have x2:=Kk s.js d a ha' (by simpa using p2)
 have x3:=Jh s.js d b hb' (by simpa using p3)
 have x4:=Kk s.js d b hb' (by simpa using p4)
 have hX:=Hr _ _ (Po s.js hd b) (Po s.js hd a)
 have hY:=Hr _ _ (Qj s.js hd b) (Qj s.js hd a)
 have eX:op2 (· - ·) (dX s.js d b) (dX s.js d a)=apX s d s.ms[k]:=by unfold apX;rw[ha,hb];rfl
 have eY:op2 (· - ·) (dY s.js d b) (dY s.js d a)=apY s d s.ms[k]:=by unfold apY;rw[ha,hb];rfl
 rw[eX] at hX
 rw[eY] at hY
 refine aI Tryz.func162 rfl rfl (by rw[Tryz.ntmps162];simp) fun bl=> ?_
 rw[Tryz.ntmps162,Tryz.results162]
 refine aE ?_
 simp
 refine aE ?_
 simp[Str.c,hk,Mb.c]
 intro g hg0 hg
 refine aC ?_
 refine bQ aQ (by kernel_rfl) ?_
 simp[ha,hb,w1,w2,w3,w4,p1,p2,p3,p4,p5,p6,p7,p8,x1,x2,x3,x4,Du,Bk,yX,zZ]
 refine aO hX ?_
 simp[ha,hb,w1,w2,w3,w4,p1,p2,p3,p4,p5,p6,p7,p8,x1,x2,x3,x4,Du,Bk,yX,zZ]
 refine aO hY ?_
 simp
 exact aN [fv (apX s d s.ms[k]),fv (apY s d s.ms[k])] 1 (by simp) (by simp[frz,frzL]) (by simp[hg])
theorem V8 (s:Str) (d:List (Option Rat)) (k:Nat) (hs:SOk s) (hd:okL d) (hk:k<s.ms.length):RO Tryz.prog 85 [.ptr s.c,.int .i64 k,.sl (fvs (rW s.js d))] (fv (yL s d k)):=by
 have hm:=vZ s k hk
 have hnm:=hs.nm
 have hle:=R9 hs (List.getElem_mem hk)
 rw[←hm] at hle
 obtain⟨⟨l1,l2⟩,⟨l3,l4⟩⟩:=hle
 refine aI Tryz.func85 rfl rfl (by rw[Tryz.ntmps85];simp) fun bl=> ?_
 rw[Tryz.ntmps85,Tryz.results85]
 refine aC ?_
 simp
 refine aD (nU s k hs (by omega) (by omega)) ?_
 simp
 refine aD (Io s d k hs hd hk) ?_
 simp
 refine aD (jG (vx s (mat s k)) (by omega)) ?_
 simp
 refine aD (R1 _ _ (uC (by omega)) (jU _ _ _)) ?_
 simp
 refine aD (jG (vy s (mat s k)) (by omega)) ?_
 simp
 refine aD (R1 _ _ (uC (by omega)) (jU _ _ _)) ?_
 simp
 refine aD (E1 _ _ (jU _ _ _) (jU _ _ _)) ?_
 simp
 exact aN [fv (yL s d k)] 0 (by simp[yL]) (W8 (aGH _)) (Sub.refl _)
def tH (s:Str) (k:Int) (d:List RT):Bool:=jD s d && (decide (0≤k)&& decide (k<s.ms.length))
def rL (s:Str) (k:Int) (d:List RT):Option Rat:=if tH s k d=true then yL s (bW d) k.toNat else none
theorem Oz (s:Str) (k:Int) (d:List RT):okQ (rL s k d):=by
 unfold rL;split
 ·exact Md _ _ _
 ·exact fun _ e=>by cases e
theorem Gk {s:Str} {d:List RT} (h:jD s d=true):SOk s∧d.length=2*(aH s.js).length∧gI d=true:=by
 unfold jD at h
 simp only[Bool.and_eq_true,decide_eq_true_eq] at h
 exact⟨rZ h.1.1,h.1.2,h.2⟩
theorem rE (s:Str) (k:Int) (d:List RT) (hj:s.js.length≤140737488351232) (hm:s.ms.length≤140737488351232) (hn: ∀j,j∈s.js→j.name.size≤140737488351232) (hd:tV d 1048576):NW Tryz.prog 27 [.agg s.c,.int .i64 k,.sl (rv d)] (dT (ro (rL s k d)) (rL s k d).isSome):=by
 refine iQ Tryz.func27 rfl rfl (by rw[Tryz.ntmps27];simp) fun bl=> ?_
 rw[Tryz.ntmps27,Tryz.results27]
 refine aE ?_
 simp[Str.c]
 intro g hg0 hg g6 hg6 h6g hb6
 refine bZ 1 3 (.ptr s.c) (upd bl g6 (some ⟨3,[[.bool false,.nils,.nils]]⟩)) (by intro z b hz;simp only[aA] at hz ⊢;grind) (by simp[frz,dropB,hg,h6g,Ne.symm h6g,Str.c,V.cl]) ?_
 refine aC ?_
 simp
 refine aD (rP s d hj hm hn hd) ?_
 simp
 refine aV [(1,.int .i64 k),(2,.sl (rv d)),(3,.ptr s.c),(6,.loc g6 3 0 0),(7,.bool false),(8,.sl (fvs (if jD s d=true then rW s.js (bW d) else []))),(9,.bool (jD s d))] _ (upd bl g6 (some ⟨3,[[.bool false,.nils,.nils]]⟩)) 27 (.bool (!tH s k d)) ⟨rfl,by simp,Sub.refl _⟩ rfl ?_ ?_
 ·cases hp:jD s d
  ·simp[tH,hp]
  simp[tH,hp,Str.c]
  by_cases h0:0≤k
  ·have h1: ¬ k<0:=by omega
   simp[h0,h1,Str.c]
   rw[Bool.eq_iff_iff]
   simp
  ·have h1:k<0:=by omega
   simp[h0,h1]
 cases hw:tH s k d
 ·have hz:rL s k d=none:=by unfold rL;rw[hw];rfl
  rw[hz]
  simp
  refine eE [.agg [.bool false,.nils,.nils],.bool false] [] (by simp) ?_ (by simp) (by simp[hb6])
  exact vS.2 ⟨_,rfl,jV.2 ⟨.nils,.nils,[],[],rfl,rfl,by simp,fZ.2 (.inl ⟨rfl,rfl,rfl⟩),fZ.2 (.inl ⟨rfl,rfl,rfl⟩)⟩⟩
 have hz:rL s k d=yL s (bW d) k.toNat:=by unfold rL;rw[hw];rfl
 unfold tH at hw
 simp only[Bool.and_eq_true,decide_eq_true_eq] at hw
 obtain⟨hmv,h0,h1⟩:=hw
 obtain⟨hs,hlen,cO⟩:=Gk hmv
 obtain⟨i,rfl⟩: ∃i:Nat,k=i:=⟨k.toNat,by omega⟩
 have hS:=V8 s (bW d) i hs (Ih d) (by omega)
 rw[show((i:Int).toNat)=i from rfl] at hz
 rw[←hz] at hS
 have ho:=Oz s i d
 rw[hmv]
 generalize rL s i d=x at *
 simp
 refine aD hS ?_
 simp
 refine gG (Mw x ho) fun v gs b' o f fr=> ?_
 obtain⟨vs,rfl,ol⟩:=vS.1 o
 obtain⟨vm,vd,ga,gb,rfl,rfl,hd',om,od⟩:=jV.1 ol
 obtain⟨c1,c2⟩:=om.one
 obtain⟨d1,d2⟩:=od.one
 have e1: ∀x,x∈ga++gb→x≠g6∧bl x=none:=fun x hx=>by have:=f x hx;simp only[aA] at this;split at this<;>simp_all
 have n2:b' g6=some ⟨3,[[.bool false,.nils,.nils]]⟩:=dC f fr (by simp)
 have hsb:Sub bl b':=fun x y hy=>by
  have z2:x≠g6:=fun h=>by rw[h,hb6] at hy;cases hy
  exact dC f fr (by simp[aA,z2,hy])
 simp[n2,c1,d1]
 refine eE [.agg [.bool (ro x).neg,vm,vd],.bool x.isSome] (ga++gb) (by simp[c1,d1]) ?_ (fun x hx=>(e1 x hx).2) (hsb.upd hb6 _)
 refine vS.2 ⟨_,rfl,(jV.2 ⟨vm,vd,ga,gb,rfl,rfl,hd',om,od⟩).frame fun x hx=>by simp[aA,(e1 x hx).1]⟩
theorem qE (s:Str) (k:Int) (d:List RT) (hj:s.js.length≤140737488351232) (hm:s.ms.length≤140737488351232) (hn: ∀j,j∈s.js→j.name.size≤140737488351232) (hd:tV d 1048576):RO Tryz.prog 27 [.agg s.c,.int .i64 k,.sl (rv d)] (.tup [.agg (ro (rL s k d)).c,.bool (rL s k d).isSome]):=by
 have:=eH 3 (rE s k d hj hm hn hd) (Th _ _)
 rwa [aF6] at this

def aNB (rs:List RT):Bool:=rs.all fun r=> !decide (r.d= [])
def Ss (a b:List RT):Bool:=(Jv a && Jv b)&& decide (a.length=b.length)
def aNV (a b:List RT):List (Option Rat):=if Ss a b=true then List.zipWith (op2 (· + ·)) (bW a) (bW b) else [none]
def aM7 (r:RT) (q:List RT):List (Option Rat):=if(r.ok∧Jv q=true) then(bW q).map (op2 (· * ·) (rd r)) else [none]

def atW (s:Str) (i:Nat):Int:=if fxd s.js i=true then -1 else(idx s.js i:Int)

def aLN (bl:Int→Option Blk) (g6:Int) (p:Int×Int):Prop:=0≤p.1∧0≤p.2∧ ¬ p.1=p.2∧ ¬ p.1=g6∧ ¬ p.2=g6∧bl p.1=none∧bl p.2=none

def Ey (m:Mb) (x:Option Rat):Bool:=(!x.isSome || (decide (m.kind≠2)&& decide (0<sgq x)))|| (decide (m.kind≠1)&& decide (sgq x<0))
def Wk (s:Str) (d:List (Option Rat)):Bool:=(List.range s.ms.length).all fun k=> !Ey (mat s k) (yL s d k)
def aKQ (s:Str) (d:List (Option Rat)) (n:Nat):Prop:= ∀k:Nat,k<n→Ey (mat s k) (yL s d k)=false
def wkTo (s:Str) (l:List Int) (d:List (Option Rat)):Nat→Option Rat
 | 0 => some 0
 | t + 1 => op2 (· + ·) (op2 (· + ·) (wkTo s l d t) (op2 (· * ·) (some (lN l (2 * ((aH s.js).getD t 0).toNat) : Rat)) (d.getD (2 * t) none))) (op2 (· * ·) (some (lN l (2 * ((aH s.js).getD t 0).toNat + 1) : Rat)) (d.getD (2 * t + 1) none))
def wkW (s:Str) (l:List Int) (d:List (Option Rat)):Option Rat:=wkTo s l d (aH s.js).length
def aOF (s:Str) (l:List Int) (d:List RT):Bool:=(jD s d && jJ s.js l)&& (Wk s (bW d)&& decide (0<sgq (wkW s l (bW d))))

theorem uH (cs:List (Int×Int)) (i:Nat) (h:i<(cv cs).length):(cv cs)[i]= [.int .i64 (cs[i]'(by simpa using h)).1,.int .i64 (cs[i]'(by simpa using h)).2]:=by simp[cv]
theorem uQ (xs:List (Option Rat)) (i:Nat) (x:Option Rat):(fvs xs).set i [fv x]=fvs (xs.set i x):=by simp[fvs,List.map_set]
theorem Oc (s:Str) (D:List (Option Rat)) (hm:s.ms.length≤8) (hD:okL D) (hl:D.length=(bE s.ms).length):RO Tryz.prog 147 [.ptr s.c,.sl (fvs D)] (.sl (fvs (fQ s.ms D (bE s.ms).length))):=by
 have hcl:=kE s.ms s.ms.length
 change(bE s.ms).length≤2*s.ms.length at hcl
 refine aI Tryz.func147 rfl rfl (by rw[Tryz.ntmps147];simp) fun bl=> ?_
 rw[Tryz.ntmps147,Tryz.results147]
 refine aC ?_
 simp[Str.c]
 refine⟨by omega,by unfold maxLen;omega,fun g hg0 hg=> ?_⟩
 refine aD (pJ s hm) ?_
 simp
 refine aK (fun j:Nat=> [(1,.sl (fvs D)),(5,.lsl g 1 0 s.ms.length),(16,.sl (cv (bE s.ms))),(17,.int .i64 (bE s.ms).length),(18,.int .i64 j)]) (fun j=>upd bl g (some ⟨1,fvs (fQ s.ms D j)⟩)) (fun j=>j≤(bE s.ms).length) (fun j=>(bE s.ms).length - j) _ 0 (Nat.zero_le _) ⟨rfl,by simp,sub_eq (by simp[fQ,fvs,fv])⟩ ?_
 intro j hj
 have wj:IntKind.i64.wrap ((j:Int)+1)=(j:Int)+1:=i64_in (by omega) (by omega)
 refine aC ?_
 simp
 refine⟨fun h=> ?_,fun h=> ?_⟩
 ·have sU:(bE s.ms)[j]∈bE s.ms:=List.getElem_mem h
  obtain⟨k,e1,hk,hsg⟩:=Mh s.ms.length (Nat.le_refl _) sU
  have h2:j<D.length:=by omega
  have hrl:=eD s.ms D j
  have hkA:k<(fQ s.ms D j).length:=by omega
  have oj:=hD _ (List.getElem_mem h2)
  have okk:=A3 s.ms hD j _ (List.getElem_mem hkA)
  have hst:=oG s.ms D j
  rw[jQ _ _ _ h,jQ _ _ _ h2,stI,e1,Int.toNat_natCast,jQ _ _ _ hkA] at hst
  have hns:=Rk D[j]
  have hA1:=E1 (fQ s.ms D j)[k] D[j] okk oj
  have hA2:=E1 (fQ s.ms D j)[k] (D[j].map (- ·)) okk (Ab oj)
  rcases hsg with e2 | e2
  ·rcases eA:(fQ s.ms D j)[k] with _ | a
   ·rw[eA,if_neg (by simp),e2,vsg,if_neg (by omega)] at hst
    simp[h,uH,e1,e2]
    intro g7 hg7 h7g hb7
    simp[h7g,Ne.symm h7g,h2]
    simp[h7g,Ne.symm h7g,hrl,hk,hkA,eA,show fv none= .nilp from rfl,show∀a,fv (some a)= .ptr (rq a).c from fun _=>rfl]
    simp[wj,aB,uQ]
    exact⟨j+1,by omega,by omega,rfl,by simp,by rw[hst];intro z b hz;simp only[aA] at hz ⊢;grind⟩
   ·rw[eA,if_pos (by rfl),←eA,e2,vsg,if_neg (by omega)] at hst
    simp[h,uH,e1,e2]
    intro g7 hg7 h7g hb7
    simp[h7g,Ne.symm h7g,h2]
    simp[h7g,Ne.symm h7g,hrl,hk,hkA,eA,show fv none= .nilp from rfl,show∀a,fv (some a)= .ptr (rq a).c from fun _=>rfl]
    refine cL aQ [0,1,2,3,4,5,6,7,8,9,10] 1 11 (by kernel_rfl) ?_
    simp[h7g,Ne.symm h7g,hrl,hk,hkA]
    refine aO hA1 ?_
    simp[h7g,Ne.symm h7g,hrl,hk,hkA]
    refine bX (i:=11) (by kernel_rfl) rfl rfl rfl ?_
    simp[h7g,Ne.symm h7g,hrl,hk,hkA]
    refine Dy ?_
    try simp
    simp[wj,aB,uQ]
    exact⟨j+1,by omega,by omega,rfl,by simp,by rw[hst];intro z b hz;simp only[aA] at hz ⊢;grind⟩
  ·rcases eA:(fQ s.ms D j)[k] with _ | a
   ·rw[eA,if_neg (by simp),e2,vsg,if_pos (by omega)] at hst
    simp[h,uH,e1,e2]
    intro g7 hg7 h7g hb7
    simp[h7g,Ne.symm h7g,h2]
    refine aD hns ?_
    simp[h7g,Ne.symm h7g,h2]
    simp[h7g,Ne.symm h7g,hrl,hk,hkA,eA,show fv none= .nilp from rfl,show∀a,fv (some a)= .ptr (rq a).c from fun _=>rfl]
    simp[wj,aB,uQ]
    exact⟨j+1,by omega,by omega,rfl,by simp,by rw[hst];intro z b hz;simp only[aA] at hz ⊢;grind⟩
   ·rw[eA,if_pos (by rfl),←eA,e2,vsg,if_pos (by omega)] at hst
    simp[h,uH,e1,e2]
    intro g7 hg7 h7g hb7
    simp[h7g,Ne.symm h7g,h2]
    refine aD hns ?_
    simp[h7g,Ne.symm h7g,h2]
    simp[h7g,Ne.symm h7g,hrl,hk,hkA,eA,show fv none= .nilp from rfl,show∀a,fv (some a)= .ptr (rq a).c from fun _=>rfl]
    refine cL aQ [0,1,2,3,4,5,6,7,8,9,10] 1 11 (by kernel_rfl) ?_
    simp[h7g,Ne.symm h7g,hrl,hk,hkA]
    refine aO hA2 ?_
    simp[h7g,Ne.symm h7g,hrl,hk,hkA]
    refine bX (i:=11) (by kernel_rfl) rfl rfl rfl ?_
    simp[h7g,Ne.symm h7g,hrl,hk,hkA]
    refine Dy ?_
    try simp
    simp[wj,aB,uQ]
    exact⟨j+1,by omega,by omega,rfl,by simp,by rw[hst];intro z b hz;simp only[aA] at hz ⊢;grind⟩
 ·have hj2:j=(bE s.ms).length:=by omega
  subst hj2
  have hrl:=eD s.ms D (bE s.ms).length
  exact aN [.lsl g 1 0 s.ms.length] 1 (by simp) (cM (sz:=1) (n:=s.ms.length) hg0 hg (els:=fvs (fQ s.ms D (bE s.ms).length)) (by simp) (by simpa using hrl) (Y2 _)) (by simp[hg])
def aE1 (s:Str) (d:List RT):Bool:=sOk s && (decide (d.length=(bE s.ms).length)&& gI d)
def aN5 (s:Str) (d:List RT):List (Option Rat):=if aE1 s d=true then fQ s.ms (bW d) (bE s.ms).length else [none]
theorem X0 (rs:List RT):(rv rs).take rs.length=rv rs:=by rw[←Br rs,List.take_length]
def aNH (n:Nat):List RT:=List.replicate n (ro (some 0))

theorem P9 {zs:List (Option Rat)} (h:okL zs):gI (cV zs)=dF zs:=by
 unfold gI cV dF
 rw[List.all_map,Bool.eq_iff_iff,List.all_eq_true,List.all_eq_true]
 constructor
 ·intro H x hx
  have:=H x hx
  rwa [Function.comp,L2 (h x hx)] at this
 ·intro H x hx
  rw[Function.comp,L2 (h x hx)];exact H x hx
theorem zP {zs:List (Option Rat)} (h:okL zs) (hl:zs.length≤1048576):tV (cV zs) 1048576:=by
 refine⟨by simpa using hl,fun r hr=> ?_⟩
 obtain⟨x,hx,rfl⟩:=List.mem_map.1 hr
 have:=ro_le (h x hx)
 exact⟨by omega,by omega⟩
theorem V7 (xs:List (Option Rat)) (i:Nat) (h:i<(cV xs).length):(cV xs)[i]=ro (xs[i]'(by simpa using h)):=by simp[cV]

def gv (cells:List (List (Option Rat))):List (List V):=cells.map fun r=> [.sl (fvs r)]
def dGr (cells:List (List (Option Rat))):D:= .s 1 (cells.map fun r=> [fl 1 (fvs r)])
def dG (r c:Nat) (cells:List (List (Option Rat))):D:= .a [.c (.int .i64 r),.c (.int .i64 c),dGr cells]
def rowOf (c:Nat) (m:Nat→Nat→Option Rat) (i:Nat):List (Option Rat):=(List.range c).map (m i)
def aK0 (r c:Nat) (m:Nat→Nat→Option Rat):List (List (Option Rat)):=(List.range r).map (rowOf c m)
theorem uY (b:Int→Option Blk) (g:Int):Sub (rem b g) b:=fun z y hz=>by
 rw[aJ] at hz
 split at hz
 ·cases hz
 ·exact hz

theorem OwnR.append {bl:Int→Option Blk} {sz:Nat} {rs2:List (List D)} {e2:List (List V)} {g2:List Int} (h2:OwnR bl sz rs2 e2 g2): ∀ {rs:List (List D)} {els:List (List V)} {g1:List Int},OwnR bl sz rs els g1→(∀x,x∈g1→x∉g2)→OwnR bl sz (rs++rs2) (els++e2) (g1++g2)
 | [], els, g1, h, hd => by
   rw[OwnR] at h
   obtain⟨rfl,rfl⟩:=h
   exact h2
 | r :: rs, els, g1, h, hd => by
   rw[OwnR] at h
   obtain⟨e,jK,ga,gb,rfl,rfl,h3,h4,h5,h6,h7⟩:=h
   have ih:=OwnR.append h2 h7 fun x hx=>hd x (List.mem_append_right _ hx)
   show OwnR bl sz (r::(rs++rs2)) (e::(jK++e2)) (ga++gb++g2)
   rw[OwnR]
   refine⟨e,jK++e2,ga,gb++g2,rfl,by simp,fun x hx hx2=> ?_,h4,h5,h6,ih⟩
   rcases List.mem_append.1 hx2 with hx2 | hx2
   ·exact h3 x hx hx2
   ·exact hd x (List.mem_append_left _ hx) hx2
structure MX where
 r:Int
 c:Int
 cells:List RT
def MX.c3 (m:MX):List V:= [.int .i64 m.r,.int .i64 m.c,.sl (rv m.cells)]
def dMx (m:MX):List D:= [.c (.int .i64 m.r),.c (.int .i64 m.c),dRs m.cells]
def aFB (cells:List (List (Option Rat))):Bool:=cells.all dF
def aOR (r c:Int) (cells:List (List (Option Rat))):MX:=if aFB cells=true then⟨r,c,(cells.map cV).flatten⟩ else⟨0,0,[]⟩
def dMB (m:MX) (b:Bool):D:= .t [.a (dMx m),.c (.bool b)]
def aLF (cells:List (List (Option Rat))) (i:Nat):List RT:=((cells.take i).map cV).flatten

end Go.Proofs.YticmgmemnpcbbaaGreat.Vm

namespace Go.Proofs.YticmgmemnpcbbaaGreat.Vm
open Go Go.Proofs
set_option linter.unusedSimpArgs false
set_option linter.unusedVariables false
def Gw (s:Str) (n:Nat):List Int:=((aH s.js).take n).flatMap fun j=>cZ s j++cY s j
def lZ (s:Str):List Int:=(aH s.js).flatMap fun j=>cZ s j++cY s j
structure aFA where
 i:Nat
 g:Int
 b:Int→Option Blk
def aGC (bl:Int→Option Blk) (s:Str) (gs:Int) (p:aFA):Prop:=
 p.i≤(aH s.js).length∧p.g≠gs∧p.b p.g=some ⟨1,iv (Gw s p.i)⟩∧p.b gs=some ⟨2,[[.sl (jv s.js),.sl (mv s.ms)]]⟩∧bl p.g=none∧Sub bl p.b∧(p.g<0→Gw s p.i= [])
def xTo (s:Str) (j:Int) (n:Nat):List Int:=(s.ms.take n).map (eqX s j)
def yTo (s:Str) (j:Int) (n:Nat):List Int:=(s.ms.take n).map (eqY s j)
def lH (s:Str) (l:List Int) (n:Nat):List Int:=((aH s.js).take n).flatMap fun j=> [-lat l (2*j).toNat, -lat l (2*j+1).toNat]
def right (s:Str) (l:List Int):List Int:=(aH s.js).flatMap fun j=> [-lat l (2*j).toNat, -lat l (2*j+1).toNat]
theorem A5 (s:Str) (l:List Int) (n:Nat) (h:n<(aH s.js).length):lH s l (n+1)=lH s l n++ [-lat l (2*(aH s.js)[n]).toNat, -lat l (2*(aH s.js)[n]+1).toNat]:=by
 unfold lH
 rw[List.take_add_one,List.getElem?_eq_getElem h,List.flatMap_append];simp
theorem mP (s:Str) (l:List Int): ∀n,n≤(aH s.js).length→(lH s l n).length=2*n
 | 0, _ => by simp [lH]
 | n + 1, h => by
   rw[A5 s l n (by omega),List.length_append,mP s l n (by omega)];simp;omega
theorem J3 {s:Str} {j:Int} (h:j∈aH s.js):0≤j∧j<s.js.length:=by
 unfold aH aS at h
 obtain⟨k,hk,rfl⟩:=List.mem_map.1 h
 have:=List.mem_range.1 (List.mem_filter.1 hk).1
 omega

structure Pg where
 rows:Int
 bE:Int
 a:List Int
 b:List Int
 c:List Int
def Pg.v (p:Pg):List V:= [.int .i64 p.rows,.int .i64 p.bE,.sl (iv p.a),.sl (iv p.b),.sl (iv p.c)]
def nR (s:Str):Nat:=2*(aH s.js).length
def nC (s:Str):Nat:=(bE s.ms).length
def bV (s:Str) (c:Nat):Int×Int:=(bE s.ms).getD c (0,0)
def ent (s:Str) (i c:Nat):Int:=(bV s c).2*lat (lZ s) (i*s.ms.length+(bV s c).1.toNat)
def aTo (s:Str) (n:Nat):List Int:=(List.range n).map fun t=>ent s (t / nC s) (t % nC s)
def cI (s:Str) (l:List Int):Pg:=⟨nR s,nC s,aTo s (nR s*nC s),right s l,List.replicate (nC s) 0⟩
@[simp] theorem Tj (s : Str) (n : Nat) : (aTo s n).length = n := by simp [aTo]
theorem Hh {ms:List Mb} {n:Nat} {p:Int×Int} (h:p∈dA ms n):(0≤p.1∧p.1<n)∧(p.2=1∨p.2= -1):=by
 unfold dA at h
 obtain⟨k,hk,hp⟩:=List.mem_flatMap.1 h
 have:=List.mem_range.1 hk
 unfold uA at hp
 rcases List.mem_append.1 hp with hp | hp<;>split at hp<;>simp at hp<;>subst hp<;>simp<;>omega
theorem mY (s:Str) (c:Nat) (h:c<nC s):(0≤(bV s c).1∧(bV s c).1<s.ms.length)∧((bV s c).2=1∨(bV s c).2= -1):=by
 unfold nC at h
 have:bV s c=(bE s.ms)[c]:=by simp[bV,h]
 rw[this]
 exact Hh (List.getElem_mem h)
theorem L0 {s:Str} (hs:SOk s) (n:Nat): -100≤lat (lZ s) n∧lat (lZ s) n≤100:=by
 have key: ∀x,x∈lZ s→ -100≤x∧x≤100:=by
  intro x hx
  unfold lZ at hx
  obtain⟨j,_,hx⟩:=List.mem_flatMap.1 hx
  rcases List.mem_append.1 hx with hx | hx
  ·obtain⟨m,hm,rfl⟩:=List.mem_map.1 hx
   have:=Kt hs hm
   unfold eqX;split
   ·omega
   ·split<;>omega
  ·obtain⟨m,hm,rfl⟩:=List.mem_map.1 hx
   have:=Kt hs hm
   unfold eqY;split
   ·omega
   ·split<;>omega
 unfold lat
 rw[List.getD_eq_getElem?_getD]
 cases h:(lZ s)[n]? with
 | none => simp
 | some x => exact key x (List.mem_of_getElem? h)
structure PS where
 n:Nat
 g:Int
 b:Int→Option Blk
structure PI (bl : Int → Option Blk) (s : Str) (l : List Int) (gr gp gc : Int) (p : PS) : Prop where
 hr:p.b gr=some ⟨5,[[.int .i64 0,.int .i64 0,.nils,.nils,.nils]]⟩
 hp:p.b gp=some ⟨5,[[.int .i64 (nR s),.int .i64 (nC s),.lsl p.g 1 0 p.n,.sl (iv (right s l)),.lsl gc 1 0 (nC s)]]⟩
 hc:p.b gc=some ⟨1,iv (List.replicate (nC s) 0)⟩
 ha:p.b p.g=some ⟨1,iv (aTo s p.n)⟩
 pr:p.g≠gr
 pp:p.g≠gp
 pc:p.g≠gc
 f:bl p.g=none
 sub:Sub bl p.b
 neg:p.g<0→aTo s p.n= []
end Go.Proofs.YticmgmemnpcbbaaGreat.Vm
