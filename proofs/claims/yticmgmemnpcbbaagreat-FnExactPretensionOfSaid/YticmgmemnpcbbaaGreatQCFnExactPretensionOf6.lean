import Derived.Test.YticmgmemnpcbbaaGreatQCFnExactPretensionOf5

namespace Go.Proofs.YticmgmemnpcbbaaGreat.Vm
open Go Go.Proofs
set_option linter.unusedSimpArgs false
set_option linter.unusedVariables false
theorem Jv {n:Nat} (h:(lim n).length≤60):nY (lim n)=true:=by unfold nY;simp[h]
theorem Ia :lim 9223372036854775807= [854775807,223372036,9]:=by
 refine Pt ?_ (by decide+kernel) (.inr (by decide+kernel))
 intro d hd
 simp at hd
 omega
theorem Ip {a b:Nat} :jJ a b≤0 ↔ a≤b:=by unfold jJ;split<;>(try split)<;>omega
theorem Cs (n k:Nat):val ((lim n).drop k)≤n:=by
 rcases Nat.lt_or_ge (lim n).length k with h | h
 ·rw[List.drop_of_length_le (by omega)];exact Nat.zero_le _
 ·have:=kM (lim n) h
  rw[fG] at this
  have hp:1≤LB^k:=Nat.pow_pos iQ
  have:=Nat.mul_le_mul_right (val ((lim n).drop k)) hp
  omega
theorem yG (n:Nat) (hn:n≤9223372036854775807):RO Tryz.prog 284 [.sl (iv (lim n))] (.tup [.int .i64 n,.bool true]):=by
 have hL:=uZ (show n≤18446744073709551615 by omega)
 refine aJ Tryz.func284 rfl rfl (by rw[Tryz.ntmps284];simp) fun bl=> ?_
 rw[Tryz.ntmps284,Tryz.results284]
 refine aC ?_
 simp
 refine Wy [(0,.sl (iv (lim n)))] _ bl 14 (.bool false) ⟨rfl,by simp,Sub.refl _⟩ rfl ?_ ?_
 ·simp
  refine aD (nK _ (by omega)) ?_
  simp[Jv (show(lim n).length≤60 by omega)]
  intro g hg0 hg
  refine aX 1 (ys:= [.sl (iv (lim n)),.sl (iv (lim 9223372036854775807))]) ?_ (lY n 9223372036854775807 (by omega) (by rw[Ia];simp)) rfl ?_
  ·have er3:List.range 3= [0,1,2]:=rfl
   simp[frzL,frz,Ia,iv,V.cl,Int.not_lt.2 hg0,er3]
  simp[hg]
  have:=Ip.2 hn
  omega
 have w0:IntKind.i64.wrap (((lim n).length:Int) - 1)=((lim n).length:Int) - 1:=i64_in (by omega) (by omega)
 simp[w0]
 refine aI (fun p:Nat×Int=> [(0,.sl (iv (lim n))),(4,.int .i64 p.2),(5,.int .i64 ((p.1:Int) - 1))]) (fun _=>bl) (fun p=>p.1≤(lim n).length∧p.2=(val ((lim n).drop p.1):Nat)) (fun p=>p.1) _ ((lim n).length,0) ⟨Nat.le_refl _,by simp[val]⟩ ⟨rfl,by simp,Sub.refl _⟩ ?_
 rintro⟨k,x⟩ ⟨hk,hx⟩
 simp only at hk hx
 refine aC ?_
 simp[-binV, -intV]
 refine⟨fun h1=> ?_,fun h1=> ?_⟩
 ·obtain⟨m,rfl⟩: ∃m,k=m+1:=⟨k - 1,by omega⟩
  have hm:m<(lim n).length:=by omega
  have e1:((m+1:Nat):Int) - 1=m:=by omega
  have hv:val ((lim n).drop m)=dg n m+LB*val ((lim n).drop (m+1)):=by
   rw[List.drop_eq_getElem_cons hm,val,hH hm,Int.toNat_natCast]
  have hle:=Cs n m
  have hLB:LB=1000000000:=rfl
  rw[hLB] at hv
  have w1:IntKind.i64.wrap (x*1000000000)=x*1000000000:=i64_in (by omega) (by omega)
  have w2:IntKind.i64.wrap (x*1000000000+dg n m)=x*1000000000+dg n m:=i64_in (by omega) (by omega)
  have w3:IntKind.i64.wrap ((m:Int) - 1)=(m:Int) - 1:=i64_in (by omega) (by omega)
  simp[-binV, -intV,e1,bE _ _ hm,w1,w2,w3]
  refine⟨by omega,?_⟩
  rw[aB]
  refine⟨(m,x*1000000000+dg n m),⟨by simp only;omega,by simp only;omega⟩,by simp only;omega,rfl,by simp,Sub.refl _⟩
 ·have e:k=0:=by omega
  subst e
  have hx2:x=n:=by rw[hx];simp
  rw[hx2]
  exact aK [.int .i64 n,.bool true] 1 (by simp) rfl (Sub.refl _)
structure DL2 where
 lo:Int
 hi:Int
theorem Ae (r b n:Nat) (hn:(lim b).length=n+1) (hbr:b≤r) (hrb:r<LB*b) (hl:n≤300000):RO Tryz.prog 296 [.sl (iv (lim r)),.sl (iv (lim b))] (.int .i64 (r / b:Nat)):=by
 have ht:0<dg b n:=U1 hn
 have htl:=eY b n
 have hb0:0<b:=by
  rcases Nat.eq_zero_or_pos b with h | h
  ·rw[h,aW] at hn;simp at hn
  ·exact h
 have hlr:n+1≤(lim r).length:=by have:=cJ hbr;omega
 have hbl:b<LB^(n+1):=aM.1 (by omega)
 have aYJ:(lim r).length≤n+2:=by
  refine aM.2 (Nat.lt_of_lt_of_le hrb ?_)
  rw[Nat.pow_succ,Nat.mul_comm]
  exact Nat.mul_le_mul_right _ (Nat.le_of_lt hbl)
 have hLB:LB=1000000000:=rfl
 have er:r=(dg r (n+1)*LB+dg r n)*LB^n+pv r n:=by
  have h1:=eW r n
  have h2:=eW r (n+1)
  rw[fZ (by omega)] at h2
  have e1:dg r (n+1)*LB*LB^n=LB^n*LB*dg r (n+1):=by ac_rfl
  have e2:dg r n*LB^n=LB^n*dg r n:=Nat.mul_comm _ _
  rw[Nat.pow_succ] at h2
  rw[Nat.add_mul]
  omega
 have eb:b=dg b n*LB^n+pv b n:=by
  have h1:=eW b n
  rw[fZ (by omega)] at h1
  have e2:dg b n*LB^n=LB^n*dg b n:=Nat.mul_comm _ _
  omega
 obtain⟨x,hx⟩: ∃x,x=dg r (n+1)*LB+dg r n:=⟨_,rfl⟩
 have hlo:x / (dg b n+1)≤r / b:=by
  have:=Ta (x:=x) (rl:=pv r n) (Cv b n) ht
  rw[hx,←er,←eb,←hx] at this;exact this
 have hhi:r / b≤x / dg b n:=by
  have:=Bi (x:=x) (bl:=pv b n) (Cv r n) ht
  rw[hx,←er,←eb,←hx] at this;exact this
 have hq:r / b≤999999999:=by
  have:r / b<LB:=by rw[Nat.div_lt_iff_lt_mul hb0];exact hrb
  omega
 have hr1:=eY r (n+1)
 have hr0:=eY r n
 have hxl:x≤1000000000000000000:=by rw[hx,hLB];omega
 refine aJ Tryz.func296 rfl rfl (by rw[Tryz.ntmps296];simp) fun bl=> ?_
 rw[Tryz.ntmps296,Tryz.results296]
 obtain⟨d1,hd1⟩: ∃d1:Int,d1=dg r (n+1):=⟨_,rfl⟩
 have w0:IntKind.i64.wrap (((lim b).length:Int) - 1)=(n:Int):=by rw[i64_in (by omega) (by omega)];omega
 have w1:IntKind.i64.wrap (d1*1000000000)=d1*1000000000:=i64_in (by omega) (by omega)
 have w2:IntKind.i64.wrap ((dg r n:Int)+d1*1000000000)=x:=by rw[i64_in (by omega) (by omega),hx,hLB];omega
 have w3:IntKind.i64.wrap ((dg b n:Int)+1)=(dg b n:Int)+1:=i64_in (by omega) (by omega)
 have lr:=bE r n (by omega)
 have lb:=bE b n (by omega)
 have q1:(iv (lim r))[(lim b).length]? =if(lim b).length<(lim r).length then some [.int .i64 d1] else none:=by
  split
  ·rename_i h;rw[bE _ _ h,hn,hd1]
  ·rename_i h;rw[List.getElem?_eq_none (by simp;omega)]
 have y1:(x:Int).tdiv ((dg b n:Int)+1)=(x / (dg b n+1):Nat):=by rw[Int.tdiv_eq_ediv_of_nonneg (by omega)];simp
 have y2:(x:Int).tdiv (dg b n:Int)=(x / dg b n:Nat):=by rw[Int.tdiv_eq_ediv_of_nonneg (by omega)];simp
 have y3:=wq (x:=(x:Int)) (n:=(dg b n:Int)+1) (by omega) (by omega) (by omega)
 have y4:=wq (x:=(x:Int)) (n:=(dg b n:Int)) (by omega) (by omega) (by omega)
 rw[y1] at y3
 rw[y2] at y4
 obtain⟨lo0,aCL⟩: ∃l:Int,l=(x / (dg b n+1):Nat):=⟨_,rfl⟩
 obtain⟨hi0,aL4⟩: ∃l:Int,l=(x / dg b n:Nat):=⟨_,rfl⟩
 rw[←aCL] at y1 y3
 rw[←aL4] at y2 y4
 have z1: ¬ (dg b n:Int)+1=0:=by omega
 have z2: ¬ dg b n=0:=by omega
 obtain⟨D,hD⟩: ∃D:Int,D=(r / b:Nat):=⟨_,rfl⟩
 rw[←hD]
 have hD0:0≤D:=by rw[hD];exact Int.natCast_nonneg _
 have hDq:D≤999999999:=by rw[hD];generalize r / b=z at hq ⊢;omega
 have aWT:lo0≤D:=by rw[aCL,hD];generalize r / b=z at hlo ⊢;generalize x / (dg b n+1)=z2 at hlo ⊢;omega
 have aX4:D≤hi0:=by rw[aL4,hD];generalize r / b=z at hhi ⊢;generalize x / dg b n=z2 at hhi ⊢;omega
 have aPL:0≤lo0:=by rw[aCL];exact Int.natCast_nonneg _
 refine aE ?_
 simp
 refine aE ?_
 simp
 refine aE ?_
 simp[w0,lr]
 refine gV (fun _:Unit=> [(0,.sl (iv (lim r))),(1,.sl (iv (lim b))),(5,.int .i64 (lim b).length),(6,.int .i64 x)]) (fun _=>bl) (fun _=>True) 63 ?_ ?_
 ·refine aC ?_
  simp[-binV, -intV]
  refine⟨fun h=> ?_,fun h=> ?_⟩
  ·have q2:(lim r)[(lim b).length]'h=d1:=by rw[hH h,hn,hd1]
   simp[-binV, -intV,q1,h,q2,w1,w2]
   rw[aH]
   exact⟨(),trivial,rfl,by simp,Sub.refl _⟩
  ·have e0:dg r (n+1)=0:=kE (by omega)
   have ex:dg r n=x:=by rw[hx,e0];simp
   rw[aH]
   exact⟨(),trivial,rfl,by simp[ex],Sub.refl _⟩
 rintro _ _
 refine aC ?_
 simp[w0,lb,w3,y1,y2,y3,y4,z1,z2,minV]
 refine aI (fun p:DL2=> [(0,.sl (iv (lim r))),(1,.sl (iv (lim b))),(7,.int .i64 p.lo),(8,.int .i64 p.hi)]) (fun _=>bl) (fun p=>0≤p.lo∧p.lo≤D∧D≤p.hi∧p.hi≤999999999) (fun p=>(p.hi - p.lo).toNat) _ ⟨lo0,if hi0<999999999 then hi0 else 999999999⟩ ⟨aPL,aWT,by simp only;split<;>omega,by simp only;split<;>omega⟩ ⟨rfl,by simp[minV],Sub.refl _⟩ ?_
 rintro⟨lo,hi⟩ ⟨a1,a2,a3,a4⟩
 simp only at a1 a2 a3 a4
 refine aC ?_
 simp
 refine⟨fun h=> ?_,fun h=> ?_⟩
 ·have v1:IntKind.i64.wrap (lo+hi)=lo+hi:=i64_in (by omega) (by omega)
  have v2:IntKind.i64.wrap (lo+hi+1)=lo+hi+1:=i64_in (by omega) (by omega)
  have v3:=wq (x:=lo+hi+1) (n:=2) (by omega) (by omega) (by omega)
  have v4:(lo+hi+1).tdiv 2=(((lo+hi+1) / 2).toNat:Nat):=by rw[Int.tdiv_eq_ediv_of_nonneg (by omega)];omega
  rw[v4] at v3
  obtain⟨q,hqq⟩: ∃q:Nat,q=((lo+hi+1) / 2).toNat:=⟨_,rfl⟩
  rw[←hqq] at v3 v4
  have hq2:(q:Int)=(lo+hi+1) / 2:=by omega
  have aZI:q≤999999999:=by omega
  simp[v1,v2,v3,v4]
  refine aD (gP q (by omega)) ?_
  simp
  have lq:(lim q).length≤3:=uZ (by omega)
  refine aD (fR b q (by omega) (by omega)) ?_
  simp
  have lbq:=gD (k:=300002) (l:=3) (show(lim b).length≤300002 by omega) lq
  refine aD (lY _ _ (by omega) (by omega)) ?_
  simp[Ip]
  have hdh:=Gi (r:=r) (q:=q) hb0
  refine⟨fun h2=> ?_,fun h2=> ?_⟩
  ·rw[aB]
   have h3:=hdh.1 h2
   refine⟨⟨q,hi⟩,⟨by simp only;omega,?_,a3,a4⟩,by simp only;omega,rfl,by simp,Sub.refl _⟩
   simp only
   rw[hD]
   generalize r / b=z at h3 ⊢
   omega
  ·have v5:IntKind.i64.wrap ((q:Int) - 1)=(q:Int) - 1:=i64_in (by omega) (by omega)
   simp[v5]
   rw[aB]
   have h3: ¬ q≤r / b:=fun hh=>by have:=hdh.2 hh;omega
   refine⟨⟨lo,(q:Int) - 1⟩,⟨a1,a2,?_,by simp only;omega⟩,by simp only;omega,rfl,by simp,Sub.refl _⟩
   simp only
   rw[hD]
   generalize r / b=z at h3 ⊢
   omega
 ·have:lo=D:=by omega
  rw[this]
  exact aS (by simp) rfl rfl
theorem Li {r d k:Nat} (hr:(lim r).length≤k) (hd:d<1000000000):(lim (r*1000000000+d)).length≤k+1:=by
 refine aM.2 ?_
 have h5:=aM.1 hr
 have e:LB^(k+1)=LB^k*1000000000:=Nat.pow_succ ..
 rw[e]
 generalize LB^k=P at h5 ⊢
 omega
structure SD where
 g:Int
 i:Nat
 Q:List Int
 r:Nat
theorem xH (a b:Nat) (hb0:0<b) (ha:(lim a).length≤200000) (hbl:(lim b).length≤200000):RO Tryz.prog 286 [.sl (iv (lim a)),.sl (iv (lim b))] (.tup [.sl (iv (lim (a / b))),.sl (iv (lim (a % b)))]):=by
 refine aJ Tryz.func286 rfl rfl (by rw[Tryz.ntmps286];simp) fun bl=> ?_
 rw[Tryz.ntmps286,Tryz.results286]
 refine aE ?_
 simp
 refine aE ?_
 simp
 refine⟨fun h1=> ?_,fun h1=> ?_⟩
 ·have h1':(lim b).length=1:=by omega
  obtain⟨b1,b2,b3⟩:=Vg h1'
  simp[bE b 0 (by omega),b1]
  refine aD (Af a b (by omega) b3 b2) ?_
  have hr:a % b<b:=Nat.mod_lt _ b3
  obtain⟨r,hr2⟩: ∃r,r=a % b:=⟨_,rfl⟩
  rw[←hr2] at hr ⊢
  simp
  refine aD (gP r (by omega)) ?_
  simp
  exact aK [.sl (iv (lim (a / b))),.sl (iv (lim r))] 1 (by simp) rfl (Sub.refl _)
 have hbz:(lim b).length≠0:=fun h0=>by have:=eV.1 (List.length_eq_zero_iff.1 h0);omega
 obtain⟨n,hn⟩: ∃n,(lim b).length=n+1:=⟨(lim b).length - 1,by omega⟩
 have w0:IntKind.i64.wrap (((lim a).length:Int) - 1)=((lim a).length:Int) - 1:=i64_in (by omega) (by omega)
 refine aC ?_
 simp
 refine⟨by omega,by unfold maxLen;omega,fun g8 hg8 hb8 g9 hg9 h98 hb9=> ?_⟩
 have er:List.replicate ((lim a).length) [V.int IntKind.i64 0]=iv (List.replicate ((lim a).length) 0):=by simp[iv]
 simp[er,w0]
 have aQD:bl g8=none:=by simpa using hb8
 refine cW 1 9 (.sl (iv (lim 0))) (upd bl g8 (some ⟨1,iv (List.replicate (lim a).length 0)⟩)) (by simp[h98,hb9]) ?_ ?_
 ·rw[aW]
  exact dH hg9 (by simp[h98,hb9]) (by simp;rfl) rfl rfl
 refine aI (fun p:SL=> [(0,.sl (iv (lim a))),(1,.sl (iv (lim b))),(8,.lsl g8 1 0 (lim a).length),(9,.sl (iv (lim p.r.toNat))),(10,.int .i64 ((p.i:Int) - 1))]) (fun p=>upd bl g8 (some ⟨1,iv (List.replicate p.i 0++p.Q)⟩))
  (fun p=>qL a b p.i p.Q p.r.toNat) (fun p=>p.i) _ ⟨(lim a).length,[],0⟩ (qL.start a b hb0) ⟨rfl,by simp,sub_eq (by simp)⟩ ?_
 rintro⟨i,Q,r⟩ hI
 simp only at hI
 have hr:=hI.rlt
 have hle:=hI.le
 have hql:=hI.len
 generalize r.toNat=r at *
 refine aC ?_
 simp
 refine⟨fun h1=> ?_,fun h1=> ?_⟩
 ·obtain⟨m,rfl⟩: ∃m,i=m+1:=⟨i - 1,by omega⟩
  have hm:m<(lim a).length:=by omega
  have hd:=eY a m
  obtain⟨z,hz⟩: ∃z,z=r*1000000000+dg a m:=⟨_,rfl⟩
  have hN:=hI.next (q:=z / b) (r':=z % b) (by rw[hz]) (by rw[hz])
  have e1:((m+1:Nat):Int) - 1=m:=by omega
  have er1:List.range 1= [0]:=rfl
  have hrl:(lim r).length≤200000:=kZ (Nat.le_of_lt hr) hbl
  simp[e1,bE _ _ hm]
  refine⟨by omega,?_⟩
  intro g2 hg2 h28 hb2
  have bH:((iv (lim r)).all fun c=>c.length==1 && c.all V.one)=true:=by simp[iv]
  simp[h28,Ne.symm h28,appV,elsV,Int.not_lt.2 hg2,bH,er1]
  refine⟨by omega,fun g3 hg3 hb3=> ?_⟩
  have gL:g3≠g8∧bl g3=none:=by grind
  have hv:val ((dg a m:Int)::lim r)=z:=by
   have hLB:LB=1000000000:=rfl
   rw[val,fG,hLB,hz];simp;omega
  have hD:Dig ((dg a m:Int)::lim r):=fun d hd2=>by
   rcases List.mem_cons.1 hd2 with rfl | hd2
   ·omega
   ·exact gY r d hd2
  refine iK 1 (upd bl g8 (some ⟨1,iv (List.replicate (m+1) 0++Q)⟩)) _ ?_ (nH (ns:=(dg a m:Int)::lim r) hg3 (by simp[gL.1,gL.2]) (by simp[iv]) (by simp)) (iH _ hD (by simp;omega)) ?_
  ·intro u y hu
   simp only[aA,aF] at hu ⊢
   grind
  rw[hv]
  have hzr:(lim z).length≤200001:=by rw[hz];exact Li hrl hd
  simp
  refine aD (lY z b (by omega) (by omega)) ?_
  have w3:IntKind.i64.wrap ((m:Int) - 1)=(m:Int) - 1:=i64_in (by omega) (by omega)
  simp[Jo]
  refine⟨fun h5=> ?_,fun h5=> ?_⟩
  ·rw[Nat.div_eq_of_lt h5,Nat.mod_eq_of_lt h5] at hN
   simp[w3]
   rw[aB]
   refine⟨⟨m,0::Q,z⟩,by simpa using hN,by simp only;omega,rfl,by simp,sub_eq ?_⟩
   rw[←Mp]
  ·have hzb:z<LB*b:=by
    have hLB:LB=1000000000:=rfl
    rw[hLB,hz];omega
   refine aD (Ae z b n hn h5 hzb (by omega)) ?_
   have q5:(iv (List.replicate (m+1) 0++Q))[m]? =some [.int .i64 0]:=by rw[eC _ _ (by simp;omega)];simp
   have hqq:z / b≤999999999:=by
    have:z / b<LB:=by rw[Nat.div_lt_iff_lt_mul hb0];exact hzb
    have hLB:LB=1000000000:=rfl
    omega
   obtain⟨q,hq⟩: ∃q,q=z / b:=⟨_,rfl⟩
   have aVT:z - b*q=z % b:=by rw[hq];have:=Nat.div_add_mod z b;omega
   have aBE:b*q≤z:=by rw[hq];exact Nat.mul_div_le z b
   rw[←hq] at hqq hN ⊢
   simp[q5,hm]
   refine aD (gP q (by omega)) ?_
   simp
   have lq:(lim q).length≤3:=uZ (by omega)
   refine aD (fR b q (by omega) (by omega)) ?_
   simp
   refine aD (vZ z (b*q) aBE (by omega)) ?_
   rw[aVT]
   simp[w3]
   rw[aB]
   refine⟨⟨m,(q:Int)::Q,(z % b:Nat)⟩,by simp only[Int.toNat_natCast];exact hN,by simp only;omega,rfl,by simp only[Int.toNat_natCast];simp,sub_eq ?_⟩
   rw[←qX m _ 0 Q,←fI]
 ·have e:i=0:=by omega
  subst e
  obtain⟨h2,h3⟩:=hI.done
  refine iK 1 bl _ (by simp[aQD]) (nH (ns:=Q) hg8 aQD (by simp) (by simp[hql])) (iH _ hI.dig (by omega)) ?_
  rw[h2,h3]
  simp
  exact aK [.sl (iv (lim (a / b))),.sl (iv (lim (a % b)))] 1 (by simp) rfl (by simp)
theorem sH {bl bl0:Int→Option Blk} {g:Int} {ns:List Int} (h0:0≤g∨ns= []) (hg:bl0 g=none) (hb:bl g=some ⟨1,iv ns⟩):frz (dropB bl bl0) 1 (.lsl g 1 0 ns.length)=some (.sl (iv ns)):=by
 rcases Int.lt_or_le g 0 with h | h
 ·have:ns= []:=by rcases h0 with h0 | h0;omega;exact h0
  subst this
  unfold frz
  rw[if_pos h];rfl
 ·exact dH h hg hb (by simp) (qF ns)
theorem P5 (a b:Nat) (ha:(lim a).length≤200000) (hb:(lim b).length≤200000):RO Tryz.prog 263 [.sl (iv (lim a)),.sl (iv (lim b))] (.sl (iv (lim (Nat.gcd a b)))):=by
 have bH: ∀n:Nat,((iv (lim n)).all fun c=>c.length==1 && c.all V.one)=true:=fun n=>by simp[iv]
 have aKY: ∀n:Nat,iv (lim n)= []→lim n= []:=fun n h=>by simpa [iv] using h
 refine aJ Tryz.func263 rfl rfl (by rw[Tryz.ntmps263];simp) fun bl=> ?_
 rw[Tryz.ntmps263,Tryz.results263]
 refine aC ?_
 simp
 intro g0 hg0 hb0
 simp[appV,elsV,bH,Int.not_lt.2 hg0]
 refine⟨by omega,fun g1 hg1 hb1 g2 hg2 n21 hb2=> ?_⟩
 have Bg:bl g2=none:=by grind
 have aUN:bl g1=none:=by grind
 try simp[appV,elsV,bH,Int.not_lt.2 hg2]
 refine⟨by omega,fun g3 hg3 hb3=> ?_⟩
 have n31:g3≠g1:=by grind
 have gL:bl g3=none:=by grind
 refine cW 1 5 (.sl (iv (lim a))) (upd bl g3 (some ⟨1,iv (lim b)⟩)) ?_ ?_ ?_
 ·intro u y hu
  simp only[aA,aF] at hu ⊢
  grind
 ·exact sH (hg1.imp id (aKY a)) (by simp[Ne.symm n31,aUN]) (by simp[n21,Ne.symm n21,n31,Ne.symm n31])
 refine cW 1 6 (.sl (iv (lim b))) bl (by simp[gL]) ?_ ?_
 ·exact sH (hg3.imp id (aKY b)) gL (by simp)
 refine aI (fun p:Nat×Nat=> [(5,.sl (iv (lim p.1))),(6,.sl (iv (lim p.2)))]) (fun _=>bl) (fun p=>Nat.gcd p.1 p.2=Nat.gcd a b∧(lim p.1).length≤200000∧(lim p.2).length≤200000) (fun p=>p.2) _ (a,b) ⟨rfl,ha,hb⟩ ⟨rfl,by simp,Sub.refl _⟩ ?_
 rintro⟨x,y⟩ ⟨hg,hx,hy⟩
 simp only at hg hx hy
 refine aC ?_
 simp
 refine⟨fun h=> ?_,fun h=> ?_⟩
 ·have hy0:0<y:=(qY y).1 (by simpa using h)
  refine bN [(5,.sl (iv (lim x))),(6,.sl (iv (lim y)))] _ bl 29 (.bool (decide ((lim x).length<3)&& decide ((lim y).length<3))) ⟨rfl,by simp,Sub.refl _⟩ rfl ?_ ?_
  ·simp
   refine⟨fun h3=> ?_,fun h3 h4=>by omega⟩
   rw[Bool.eq_iff_iff];simp;omega
  simp
  refine⟨fun h1 h2=> ?_,fun h1=> ?_⟩
  ·have bx:x≤9223372036854775807:=by
    have:=aM.1 (show(lim x).length≤2 by omega)
    have e:LB^2=1000000000000000000:=by decide+kernel
    omega
   have by':y≤9223372036854775807:=by
    have:=aM.1 (show(lim y).length≤2 by omega)
    have e:LB^2=1000000000000000000:=by decide+kernel
    omega
   refine aD (yG x bx) ?_
   simp
   refine aD (yG y by') ?_
   simp
   refine aD (Br x y bx by') ?_
   rw[hg]
   simp
   exact aS (by simp) rfl rfl
  ·refine aD (xH x y hy0 hx hy) ?_
   simp
   rw[aB]
   have hlt:=Nat.mod_lt x hy0
   refine⟨(y,x % y),⟨?_,hy,?_⟩,hlt,rfl,by simp,Sub.refl _⟩
   ·rw[←hg,Nat.gcd_comm x y,Nat.gcd_rec y x,Nat.gcd_comm]
   ·exact Nat.le_trans (cJ (Nat.le_of_lt hlt)) hy
 ·have h0:y=0:=eV.1 (by simpa using h)
  subst h0
  rw[Nat.gcd_zero_right] at hg
  rw[←hg]
  exact aS (by simp) rfl rfl

theorem Ad {bl bl0:Int→Option Blk} {g:Int} {ns:List Int} {b:Bool} (h0:0≤g∨ns= []) (hg:bl0 g=none) (hb:bl g=some ⟨1,iv ns⟩):frz (dropB bl bl0) 2 (.agg [.bool b,.lsl g 1 0 ns.length])=some (.agg [.bool b,.sl (iv ns)]):=by
 have h1:=sH h0 hg hb
 have h2:frz (dropB bl bl0) 1 (.bool b)=some (.bool b):=by simp[frz]
 rw[uI]
 simp only[List.mapM_cons,List.mapM_nil,h1,h2]
 rfl
theorem eP (neg:Bool) (m:Nat) (hm:(lim m).length≤60):RO Tryz.prog 254 [.bool neg,.sl (iv (lim m))] (.agg (biC (sg neg m))):=by
 have bH:((iv (lim m)).all fun c=>c.length==1 && c.all V.one)=true:=by simp[iv]
 refine aJ Tryz.func254 rfl rfl (by rw[Tryz.ntmps254];simp) fun bl=> ?_
 rw[Tryz.ntmps254,Tryz.results254]
 refine aC ?_
 simp
 intro g hg0 hg
 refine aD (Mf (lim m) (gY m) (by omega)) ?_
 rw[fG,if_pos hm]
 simp
 cases neg
 all_goals
  refine xA (wG ?_)
  simp
  intro g1 hg1 h1g hb1
  simp[h1g,Ne.symm h1g,appV,elsV,Int.not_lt.2 hg1,bH]
  refine⟨by omega,fun g2 hg2 hb2=> ?_⟩
  have h2g:g2≠g:=by grind
  have Bg:bl g2=none:=by grind
  have hnn:0≤g2∨lim m= []:=hg2.imp id (fun h=>by simpa [iv] using h)
  simp[h1g,Ne.symm h1g,h2g,Ne.symm h2g]
 ·refine aK [.agg [.bool false,.lsl g2 1 0 (lim m).length]] 2 (by simp[h1g,Ne.symm h1g,h2g,Ne.symm h2g]) ?_ (by simp[hg,hb1,Bg,h1g,h2g])
  rw[Y2]
  exact Ad hnn Bg (by simp[h2g])
 ·refine aK [.agg [.bool (decide (0<(lim m).length)),.lsl g2 1 0 (lim m).length]] 2 (by simp[h1g,Ne.symm h1g,h2g,Ne.symm h2g]) ?_ (by simp[hg,hb1,Bg,h1g,h2g])
  rw[Y2]
  exact Ad hnn Bg (by simp[h2g])
theorem Kk (x y:Int) (hx:(lim x.natAbs).length≤1048576) (hy:(lim y.natAbs).length≤1048576):RO Tryz.prog 294 [.agg (biC x),.agg (biC y)] (.int .i64 (jA x y)):=by
 refine aJ Tryz.func294 rfl rfl (by rw[Tryz.ntmps294];simp) fun bl=> ?_
 rw[Tryz.ntmps294,Tryz.results294]
 refine aE ?_
 rw[show biC x= [.bool (decide (x<0)),.sl (iv (lim x.natAbs))] from rfl,show biC y= [.bool (decide (y<0)),.sl (iv (lim y.natAbs))] from rfl]
 simp
 intro g hg0 hg g2 hg2 h2g hb2
 refine aC ?_
 simp[h2g,Ne.symm h2g]
 by_cases h1:x<0<;>by_cases h2:y<0
 ·refine cM [(2,.loc g 2 0 0),(3,.loc g2 2 0 0)] _ (upd (upd bl g (some ⟨2,[[.bool (decide (x<0)),.sl (iv (lim x.natAbs))]]⟩)) g2 (some ⟨2,[[.bool (decide (y<0)),.sl (iv (lim y.natAbs))]]⟩)) 5 (.bool false) (upd (upd bl g (some ⟨2,[[.bool (decide (x<0)),.sl (iv (lim x.natAbs))]]⟩)) g2 (some ⟨2,[[.bool (decide (y<0)),.sl (iv (lim y.natAbs))]]⟩)) ⟨rfl,by simp,Sub.refl _⟩ rfl (by simp[h1,h2,h2g,Ne.symm h2g]) ?_
  simp[h1,h2,h2g,Ne.symm h2g]
  refine cM [(2,.loc g 2 0 0),(3,.loc g2 2 0 0)] _ (upd (upd bl g (some ⟨2,[[.bool (decide (x<0)),.sl (iv (lim x.natAbs))]]⟩)) g2 (some ⟨2,[[.bool (decide (y<0)),.sl (iv (lim y.natAbs))]]⟩)) 13 (.bool false) (upd (upd bl g (some ⟨2,[[.bool (decide (x<0)),.sl (iv (lim x.natAbs))]]⟩)) g2 (some ⟨2,[[.bool (decide (y<0)),.sl (iv (lim y.natAbs))]]⟩)) ⟨rfl,by simp,sub_eq (by simp[h1,h2])⟩ rfl (by simp[h1,h2,h2g,Ne.symm h2g]) ?_
  simp[h1,h2,h2g,Ne.symm h2g]
  refine aD (lY _ _ hy hx) ?_
  simp
  refine aK [.int .i64 (jA x y)] 0 ?_ (by simp[frz]) (by simp[hg,hb2])
  have:jJ y.natAbs x.natAbs=jA x y:=by unfold jJ jA;split<;>split<;>(try split)<;>(try split)<;>omega
  simp[this]
 ·refine cM [(2,.loc g 2 0 0),(3,.loc g2 2 0 0)] _ (upd (upd bl g (some ⟨2,[[.bool (decide (x<0)),.sl (iv (lim x.natAbs))]]⟩)) g2 (some ⟨2,[[.bool (decide (y<0)),.sl (iv (lim y.natAbs))]]⟩)) 5 (.bool true) (upd (upd bl g (some ⟨2,[[.bool (decide (x<0)),.sl (iv (lim x.natAbs))]]⟩)) g2 (some ⟨2,[[.bool (decide (y<0)),.sl (iv (lim y.natAbs))]]⟩)) ⟨rfl,by simp,Sub.refl _⟩ rfl (by simp[h1,h2,h2g,Ne.symm h2g]) ?_
  simp[h1,h2,h2g,Ne.symm h2g]
  have:jA x y= -1:=by unfold jA;rw[if_pos (by omega)]
  exact aK [.int .i64 (-1)] 0 (by simp) (by simp[frz,this]) (by simp[hg,hb2])
 ·refine cM [(2,.loc g 2 0 0),(3,.loc g2 2 0 0)] _ (upd (upd bl g (some ⟨2,[[.bool (decide (x<0)),.sl (iv (lim x.natAbs))]]⟩)) g2 (some ⟨2,[[.bool (decide (y<0)),.sl (iv (lim y.natAbs))]]⟩)) 5 (.bool false) (upd (upd bl g (some ⟨2,[[.bool (decide (x<0)),.sl (iv (lim x.natAbs))]]⟩)) g2 (some ⟨2,[[.bool (decide (y<0)),.sl (iv (lim y.natAbs))]]⟩)) ⟨rfl,by simp,Sub.refl _⟩ rfl (by simp[h1,h2,h2g,Ne.symm h2g]) ?_
  simp[h1,h2,h2g,Ne.symm h2g]
  refine cM [(2,.loc g 2 0 0),(3,.loc g2 2 0 0)] _ (upd (upd bl g (some ⟨2,[[.bool (decide (x<0)),.sl (iv (lim x.natAbs))]]⟩)) g2 (some ⟨2,[[.bool (decide (y<0)),.sl (iv (lim y.natAbs))]]⟩)) 13 (.bool true) (upd (upd bl g (some ⟨2,[[.bool (decide (x<0)),.sl (iv (lim x.natAbs))]]⟩)) g2 (some ⟨2,[[.bool (decide (y<0)),.sl (iv (lim y.natAbs))]]⟩)) ⟨rfl,by simp,sub_eq (by simp[h1,h2])⟩ rfl (by simp[h1,h2,h2g,Ne.symm h2g]) ?_
  simp[h1,h2,h2g,Ne.symm h2g]
  have:jA x y=1:=by unfold jA;rw[if_neg (by omega),if_neg (by omega)]
  exact aK [.int .i64 1] 0 (by simp) (by simp[frz,this]) (by simp[hg,hb2])
 ·refine cM [(2,.loc g 2 0 0),(3,.loc g2 2 0 0)] _ (upd (upd bl g (some ⟨2,[[.bool (decide (x<0)),.sl (iv (lim x.natAbs))]]⟩)) g2 (some ⟨2,[[.bool (decide (y<0)),.sl (iv (lim y.natAbs))]]⟩)) 5 (.bool false) (upd (upd bl g (some ⟨2,[[.bool (decide (x<0)),.sl (iv (lim x.natAbs))]]⟩)) g2 (some ⟨2,[[.bool (decide (y<0)),.sl (iv (lim y.natAbs))]]⟩)) ⟨rfl,by simp,Sub.refl _⟩ rfl (by simp[h1,h2,h2g,Ne.symm h2g]) ?_
  simp[h1,h2,h2g,Ne.symm h2g]
  refine cM [(2,.loc g 2 0 0),(3,.loc g2 2 0 0)] _ (upd (upd bl g (some ⟨2,[[.bool (decide (x<0)),.sl (iv (lim x.natAbs))]]⟩)) g2 (some ⟨2,[[.bool (decide (y<0)),.sl (iv (lim y.natAbs))]]⟩)) 13 (.bool false) (upd (upd bl g (some ⟨2,[[.bool (decide (x<0)),.sl (iv (lim x.natAbs))]]⟩)) g2 (some ⟨2,[[.bool (decide (y<0)),.sl (iv (lim y.natAbs))]]⟩)) ⟨rfl,by simp,sub_eq (by simp[h1,h2])⟩ rfl (by simp[h1,h2,h2g,Ne.symm h2g]) ?_
  simp[h1,h2,h2g,Ne.symm h2g]
  refine aD (lY _ _ hx hy) ?_
  simp
  refine aK [.int .i64 (jA x y)] 0 ?_ (by simp[frz]) (by simp[hg,hb2])
  have:jJ x.natAbs y.natAbs=jA x y:=by unfold jJ jA;split<;>split<;>(try split)<;>(try split)<;>omega
  simp[this]
theorem oJ (n:Nat):RO Tryz.prog 262 [.sl (iv (lim n))] (.bool (decide (n=1))):=by
 refine aJ Tryz.func262 rfl rfl (by rw[Tryz.ntmps262];simp) fun bl=> ?_
 rw[Tryz.ntmps262,Tryz.results262]
 refine aC ?_
 simp
 refine bN [(0,.sl (iv (lim n)))] _ bl 2 (.bool (decide (n=1))) ⟨rfl,by simp,Sub.refl _⟩ rfl ?_ ?_
 ·simp
  by_cases h:(lim n).length=1
  ·obtain⟨k1,k2,k3⟩:=Vg h
   simp[h,bE n 0 (by omega),k1,xQ]
   rw[hH (by omega),k1]
   omega
  ·have hn:n≠1:=fun e=>h (by rw[e,Ej];rfl)
   have h2: ¬ ((lim n).length:Int)=1:=by omega
   simp[h,h2,hn]
 simp
 exact aS (by simp) rfl rfl
theorem Mo (a b:Rat) (ha:fits a) (hb:fits b):RO Tryz.prog 278 [.agg (rq a).c,.agg (rq b).c] (.int .i64 (L3 a b)):=by
 obtain⟨a1,a2⟩:=ha
 obtain⟨b1,b2⟩:=hb
 have n1:=gD a1 b2
 have n2:=gD b1 a2
 have e1:sg (decide (a.num<0)) (a.num.natAbs*b.den)=a.num*b.den:=by
  have:=tJ a.num b.den
  have h0:decide (((b.den:Nat):Int)<0)=false:=decide_eq_false (by omega)
  rw[h0,Bool.bne_false,Int.natAbs_natCast] at this
  exact this
 have e2:sg (decide (b.num<0)) (b.num.natAbs*a.den)=b.num*a.den:=by
  have:=tJ b.num a.den
  have h0:decide (((a.den:Nat):Int)<0)=false:=decide_eq_false (by omega)
  rw[h0,Bool.bne_false,Int.natAbs_natCast] at this
  exact this
 refine aJ Tryz.func278 rfl rfl (by rw[Tryz.ntmps278];simp) fun bl=> ?_
 rw[Tryz.ntmps278,Tryz.results278]
 refine aE ?_
 rw[iJ,iJ]
 simp
 intro g hg0 hg g2 hg2 h2g hb2
 refine aC ?_
 simp
 refine cI aL (by kernel_rfl) ?_
 simp[h2g,Ne.symm h2g]
 refine aN (fR _ _ (by omega) (by omega)) ?_
 simp
 refine aN (eP _ _ (by omega)) ?_
 rw[e1]
 simp[h2g,Ne.symm h2g]
 refine aN (fR _ _ (by omega) (by omega)) ?_
 simp
 refine aN (eP _ _ (by omega)) ?_
 rw[e2]
 simp
 refine aN (Kk _ _ (by rw[←e1,qO];omega) (by rw[←e2,qO];omega)) ?_
 simp
 exact aK [.int .i64 (L3 a b)] 0 (by simp[L3]) (by simp[frz]) (by simp[hg,hb2])
theorem eK (r:RT) (hm:r.m.length≤140737488351232) (hd:r.d.length≤140737488351232):RO Tryz.prog 213 [.agg r.c] (.bool (decide r.ok)):=by
 refine aJ Tryz.func213 rfl rfl (by rw[Tryz.ntmps213];simp) fun bl=> ?_
 rw[Tryz.ntmps213,Tryz.results213]
 refine aC ?_
 simp[RT.c]
 intro g hg0 hg
 refine cM [(1,.loc g 3 0 0)] _ (upd bl g (some ⟨3,[[.bool r.neg,.sl (iv r.m),.sl (iv r.d)]]⟩)) 31 (.bool r.bad) (upd bl g (some ⟨3,[[.bool r.neg,.sl (iv r.m),.sl (iv r.d)]]⟩)) ⟨rfl,by simp,Sub.refl _⟩ rfl ?_ ?_
 ·simp
  refine aD (wQ r.neg r.m hm) ?_
  simp[RT.bad]
  refine⟨fun h=>by simp[h],fun h=> ?_⟩
  refine aD (nK r.d hd) ?_
  simp[h]
  refine⟨fun a=>by simp[a],fun a=>⟨fun b=>by simp[b],fun b=>⟨fun c=> .inr (by omega),fun c=> ?_⟩⟩⟩
  have c2: ¬ 24<r.d.length:=by omega
  simp[a,b,c2]
  omega
 simp
 refine⟨fun h=> ?_,fun h=> ?_⟩
 ·refine aK [.bool false] 0 (by simp) ?_ (by simp[hg])
  have: ¬ r.ok:=fun hk=>by have:=(RT.Pz.1 hk).1;rw[h] at this;cases this
  simp[frz,this]
 ·obtain⟨l1,l2,l3,l4⟩:=RT.aVU h
  rw[l1,l2]
  refine aD (P5 (val r.m) (val r.d) (by rw[←l1];omega) (by rw[←l2];omega)) ?_
  simp
  refine aD (oJ _) ?_
  simp
  refine aK [.bool (decide (Nat.gcd (val r.m) (val r.d)=1))] 0 (by simp) ?_ (by simp[hg])
  simp[frz,RT.Pz,h]
def sgq (x:Option Rat):Int:=match x with | some q=>q.num.sign | none=>0
theorem Ec (r:RT) (hm:r.m.length≤140737488351232) (hd:r.d.length≤140737488351232):RO Tryz.prog 191 [.agg r.c] (.int .i64 (sgq (rd r))):=by
 have key:(decide r.ok=false∨r.m= []→sgq (rd r)=0)∧(r.ok→r.m≠ []→sgq (rd r)=if r.neg then -1 else 1):=by
  have Vr: ¬ r.ok→rd r=none:=fun h=>by unfold rd;rw[if_neg h]
  constructor
  ·rintro(h | h)
   ·rw[Vr (by simpa using h)];rfl
   ·cases hq:rd r with
    | none => rfl
    | some q =>
      obtain⟨hr,_⟩:=rd_some hq
      have:q.num=0:=by
       have:lim q.num.natAbs= []:=by rw[←h,hr];rfl
       have:=eV.1 this;omega
      simp[sgq,this]
  ·intro h hm
   obtain⟨q,hq⟩: ∃q,rd r=some q:=⟨_,by unfold rd;rw[if_pos h]⟩
   obtain⟨hr,_⟩:=rd_some hq
   rw[hq]
   have h1:q.num≠0:=fun h0=>hm (by rw[hr];show lim q.num.natAbs= [];rw[h0];exact aW)
   have h2:r.neg=decide (q.num<0):=by rw[hr];rfl
   rw[h2]
   by_cases h3:q.num<0
   ·simp[sgq,h3,Int.sign_eq_neg_one_of_neg h3]
   ·simp[sgq,h3,Int.sign_eq_one_of_pos (show 0<q.num by omega)]
 refine aJ Tryz.func191 rfl rfl (by rw[Tryz.ntmps191];simp) fun bl=> ?_
 rw[Tryz.ntmps191,Tryz.results191]
 refine aC ?_
 simp[RT.c]
 intro g hg0 hg
 refine cM [(1,.loc g 3 0 0)] _ (upd bl g (some ⟨3,[[.bool r.neg,.sl (iv r.m),.sl (iv r.d)]]⟩)) 3 (.bool (!decide r.ok || decide (r.m= []))) (upd bl g (some ⟨3,[[.bool r.neg,.sl (iv r.m),.sl (iv r.d)]]⟩)) ⟨rfl,by simp,Sub.refl _⟩ rfl ?_ ?_
 ·simp
  refine aD (eK r hm hd) ?_
  simp[Xs]
  by_cases h:r.ok<;>simp[h]
 simp
 refine⟨fun h=> ?_,fun h1 h2=>⟨fun h3=> ?_,fun h3=> ?_⟩⟩
 ·exact aK [.int .i64 0] 0 (by simp) (by rw[key.1 (by simpa using h)];simp[frz]) (by simp[hg])
 ·exact aK [.int .i64 (-1)] 0 (by simp) (by rw[key.2 h1 h2,h3];simp[frz]) (by simp[hg])
 ·exact aK [.int .i64 1] 0 (by simp) (by rw[key.2 h1 h2,h3];simp[frz]) (by simp[hg])

structure SP where
 lo:RT
 hi:RT
 nl:Bool
 nh:Bool
def SP.c (s:SP):List V:= [.bool s.lo.neg,.sl (iv s.lo.m),.sl (iv s.lo.d),.bool s.hi.neg,.sl (iv s.hi.m),.sl (iv s.hi.d),.bool s.nl,.bool s.nh]
def RT.le (r:RT) (k:Nat):Prop:=r.m.length≤k∧r.d.length≤k
def SP.le (s:SP) (k:Nat):Prop:=s.lo.le k∧s.hi.le k
def aQG (s:SP):Bool:=match rd s.lo,rd s.hi with
 | some a, some b => (s.nl && decide (a.num.sign ≠ 0)) || (s.nh && decide (b.num.sign ≠ 0))
 | _, _ => true
def aCU (s:SP):Bool:=match rd s.lo,rd s.hi with
 | some a, some b => (s.nl || s.nh) || decide (L3 a b ≤ 0)
 | _, _ => false
def aVS (s:SP):Bool:= !aQG s && aCU s

theorem P4 (x y:Int) (hx:(lim x.natAbs).length≤59) (hy:(lim y.natAbs).length≤59):RO Tryz.prog 264 [.agg (biC x),.agg (biC y)] (.agg (biC (x+y))):=by
 have hb:=uH hx hy
 refine aJ Tryz.func264 rfl rfl (by rw[Tryz.ntmps264];simp) fun bl=> ?_
 rw[Tryz.ntmps264,Tryz.results264]
 refine aE ?_
 rw[bW x,bW y]
 simp
 intro g hg0 hg g2 hg2 h2g hb2 g3 hg3 h32 h3g hb3
 refine aC ?_
 simp[h2g,Ne.symm h2g,h32,Ne.symm h32,h3g,Ne.symm h3g]
 refine⟨fun hs=> ?_,fun hs=> ?_⟩
 ·refine aY aL (upd (upd bl g (some ⟨2,[[.bool (decide (x<0)),.sl (iv (lim x.natAbs))]]⟩)) g2 (some ⟨2,[[.bool (decide (y<0)),.sl (iv (lim y.natAbs))]]⟩)) (by simp[h32,h3g,hb3]) [0,1,2,3,4,5,6,7] 1 (by kernel_rfl) ?_
  simp[h2g,Ne.symm h2g,h32,Ne.symm h32,h3g,Ne.symm h3g]
  refine aN (Lr _ _ (by omega) (by omega)) ?_
  simp[h2g,Ne.symm h2g,h32,Ne.symm h32,h3g,Ne.symm h3g]
  refine aN (eP _ _ (by omega)) ?_
  simp[h2g,Ne.symm h2g,h32,Ne.symm h32,h3g,Ne.symm h3g]
  refine Dz 8 ?_
  simp[h2g,Ne.symm h2g,h32,Ne.symm h32,h3g,Ne.symm h3g]
  refine⟨by simp[h32,h3g,hb3],Dy ?_⟩
  rw[xZ hs]
  simp[h2g,Ne.symm h2g,h32,Ne.symm h32,h3g,Ne.symm h3g]
  exact aK [.agg (biC (x+y))] 1 (by simp[biC,h2g,Ne.symm h2g,h32,Ne.symm h32,h3g,Ne.symm h3g]) lG (by simp[hg,hb2,hb3])
 refine aD (lY _ _ (by omega) (by omega)) ?_
 simp[h2g,Ne.symm h2g,h32,Ne.symm h32,h3g,Ne.symm h3g,Ir]
 refine⟨fun hle=> ?_,fun hle=> ?_⟩
 ·refine aY aL (upd (upd bl g (some ⟨2,[[.bool (decide (x<0)),.sl (iv (lim x.natAbs))]]⟩)) g2 (some ⟨2,[[.bool (decide (y<0)),.sl (iv (lim y.natAbs))]]⟩)) (by simp[h32,h3g,hb3]) [0,1,2,3,4,5,6,7] 1 (by kernel_rfl) ?_
  simp[h2g,Ne.symm h2g,h32,Ne.symm h32,h3g,Ne.symm h3g]
  refine aN (vZ _ _ hle (by omega)) ?_
  simp[h2g,Ne.symm h2g,h32,Ne.symm h32,h3g,Ne.symm h3g]
  refine aN (eP _ _ (kZ (Nat.sub_le _ _) (by omega))) ?_
  simp[h2g,Ne.symm h2g,h32,Ne.symm h32,h3g,Ne.symm h3g]
  refine Dz 8 ?_
  simp[h2g,Ne.symm h2g,h32,Ne.symm h32,h3g,Ne.symm h3g]
  refine⟨by simp[h32,h3g,hb3],Dy ?_⟩
  rw[nF hs hle]
  simp[h2g,Ne.symm h2g,h32,Ne.symm h32,h3g,Ne.symm h3g]
  exact aK [.agg (biC (x+y))] 1 (by simp[biC,h2g,Ne.symm h2g,h32,Ne.symm h32,h3g,Ne.symm h3g]) lG (by simp[hg,hb2,hb3])
 ·refine aY aL (upd (upd bl g (some ⟨2,[[.bool (decide (x<0)),.sl (iv (lim x.natAbs))]]⟩)) g2 (some ⟨2,[[.bool (decide (y<0)),.sl (iv (lim y.natAbs))]]⟩)) (by simp[h32,h3g,hb3]) [0,1,2,3,4,5,6,7] 1 (by kernel_rfl) ?_
  simp[h2g,Ne.symm h2g,h32,Ne.symm h32,h3g,Ne.symm h3g]
  refine aN (vZ _ _ (by omega) (by omega)) ?_
  simp[h2g,Ne.symm h2g,h32,Ne.symm h32,h3g,Ne.symm h3g]
  refine aN (eP _ _ (kZ (Nat.sub_le _ _) (by omega))) ?_
  simp[h2g,Ne.symm h2g,h32,Ne.symm h32,h3g,Ne.symm h3g]
  refine Dz 8 ?_
  simp[h2g,Ne.symm h2g,h32,Ne.symm h32,h3g,Ne.symm h3g]
  refine⟨by simp[h32,h3g,hb3],Dy ?_⟩
  rw[nF (x:=y) (y:=x) (fun hh=>hs ⟨hh.2,hh.1⟩) (by omega),Int.add_comm y x]
  simp[h2g,Ne.symm h2g,h32,Ne.symm h32,h3g,Ne.symm h3g]
  exact aK [.agg (biC (x+y))] 1 (by simp[biC,h2g,Ne.symm h2g,h32,Ne.symm h32,h3g,Ne.symm h3g]) lG (by simp[hg,hb2,hb3])
def G6 (neg:Bool) (a b:Nat):Option Rat:=if b=0 then none else fit (mkRat (sg neg a) b)
theorem zO {bl bl0:Int→Option Blk} {g:Int} {ns ms:List Int} {b:Bool} (h0:0≤g∨ns= []) (hg:bl0 g=none) (hb:bl g=some ⟨1,iv ns⟩):frz (dropB bl bl0) 2 (.agg [.bool b,.sl (iv ms),.lsl g 1 0 ns.length])=some (.agg [.bool b,.sl (iv ms),.sl (iv ns)]):=by
 have h1:=sH h0 hg hb
 have h2:frz (dropB bl bl0) 1 (.bool b)=some (.bool b):=by simp[frz]
 have h3:frz (dropB bl bl0) 1 (.sl (iv ms))=some (.sl (iv ms)):=by simp[frz]
 rw[uI]
 simp only[List.mapM_cons,List.mapM_nil,h1,h2,h3]
 rfl
theorem aBV (neg:Bool) (a b:Nat) (hb:b≠0):(rq (mkRat (sg neg a) b)).c=biC (sg neg (a / Nat.gcd a b))++ [.sl (iv (lim (b / Nat.gcd a b)))]:=by
 have hg:0<Nat.gcd a b:=Nat.gcd_pos_of_pos_right _ (by omega)
 rw[Jn _ hb,RT.c,qO,bW,qO]
 simp only[List.cons_append,List.nil_append]
 rw[Fi,Fi]
 have:(0<a / Nat.gcd a b) ↔ 0<a:=by
  constructor
  ·intro h;rcases Nat.eq_zero_or_pos a with h0 | h0
   ·rw[h0] at h;simp at h
   ·exact h0
  ·intro h;exact Nat.div_pos (Nat.gcd_le_left _ h) hg
 rw[decide_eq_decide.2 this]
theorem rS (neg:Bool) (a b:Nat) (ha:(lim a).length≤60) (hb:(lim b).length≤60):RO Tryz.prog 265 [.bool neg,.sl (iv (lim a)),.sl (iv (lim b))] (.agg (ro (G6 neg a b)).c):=by
 have bH: ∀m,((iv (lim m)).all fun c=>c.length==1 && c.all V.one)=true:=fun m=>by simp[iv]
 refine aJ Tryz.func265 rfl rfl (by rw[Tryz.ntmps265];simp) fun bl=> ?_
 rw[Tryz.ntmps265,Tryz.results265]
 refine aE ?_
 simp
 intro g hg0 hg
 refine aE ?_
 simp
 refine aD (iH (lim a) (gY a) (by omega)) ?_
 rw[fG]
 simp
 refine aE ?_
 simp
 refine aD (iH (lim b) (gY b) (by omega)) ?_
 rw[fG]
 simp
 refine aE ?_
 simp
 refine⟨fun h=> ?_,fun h=> ?_⟩
 ·have hb0:b=0:=by simpa [eV] using h
  exact aK [.agg [.bool false,.nils,.nils]] 1 (by simp) (by simp[frz,G6,hb0,ro,rz,RT.c,V.cl,iv]) (by simp[hg])
 have hb0:b≠0:=fun e=>h (by rw[e,aW])
 have hg1:=Nat.gcd_pos_of_pos_right a (show 0<b by omega)
 refine gV (fun _:Unit=> [(0,.bool neg),(6,.loc g 3 0 0),(7,.sl (iv (lim (a / Nat.gcd a b)))),(8,.sl (iv (lim (b / Nat.gcd a b))))]) (fun _=>upd bl g (some ⟨3,[[.bool false,.nils,.nils]]⟩)) (fun _=>True) 55 ?_ ?_
 ·refine aC ?_
  simp
  refine aD (oJ _) ?_
  simp
  refine⟨fun h1=> ?_,fun h1=> ?_⟩
  ·refine aD (P5 _ _ (by omega) (by omega)) ?_
   simp
   refine aD (oJ _) ?_
   simp
   refine⟨fun h2=> ?_,fun h2=> ?_⟩
   ·have hgl:=Js ha hb
    refine aD (xH a (Nat.gcd a b) hg1 (by omega) (by omega)) ?_
    simp
    refine aD (xH b (Nat.gcd a b) hg1 (by omega) (by omega)) ?_
    simp[aH]
    exact⟨rfl,by simp,Sub.refl _⟩
   ·simp[aH]
    exact⟨rfl,by simp[h2],Sub.refl _⟩
  ·have h2:Nat.gcd a b=1:=by rw[h1];exact Nat.gcd_one_right a
   simp[aH]
   exact⟨rfl,by simp[h2],Sub.refl _⟩
 intro _ _
 have e2:=aBV neg a b hb0
 have hx:(lim (a / Nat.gcd a b)).length≤60:=kZ (Nat.div_le_self _ _) ha
 have hy:(lim (b / Nat.gcd a b)).length≤60:=kZ (Nat.div_le_self _ _) hb
 have hr:ro (G6 neg a b)=if(lim (a / Nat.gcd a b)).length≤24∧(lim (b / Nat.gcd a b)).length≤24 then rq (mkRat (sg neg a) b) else rz:=by
  have e3:=Jn (sg neg a) hb0
  have e4:fits (mkRat (sg neg a) b) ↔ (lim (a / Nat.gcd a b)).length≤24∧(lim (b / Nat.gcd a b)).length≤24:=by
   have e5:=congrArg RT.m e3
   have e6:=congrArg RT.d e3
   simp only[rq,qO] at e5 e6
   unfold fits
   rw[e5,e6]
  unfold G6 fit
  rw[if_neg hb0]
  by_cases hf:fits (mkRat (sg neg a) b)
  ·rw[if_pos hf,if_pos (e4.1 hf)];rfl
  ·rw[if_neg hf,if_neg (fun h=>hf (e4.2 h))];rfl
 obtain⟨x,ex⟩: ∃x,a / Nat.gcd a b=x:=⟨_,rfl⟩
 obtain⟨y,ey⟩: ∃y,b / Nat.gcd a b=y:=⟨_,rfl⟩
 rw[ex,ey] at hr e2
 rw[ex] at hx
 rw[ey] at hy
 rw[ex,ey,hr]
 refine aC ?_
 simp
 refine cM [(0,.bool neg),(6,.loc g 3 0 0),(7,.sl (iv (lim x))),(8,.sl (iv (lim y)))] _ _ 46 (.bool (!decide ((lim x).length≤24∧(lim y).length≤24))) (upd bl g (some ⟨3,[[.bool false,.nils,.nils]]⟩)) ⟨rfl,by simp,Sub.refl _⟩ rfl ?_ ?_
 ·simp
  refine⟨fun h=> ?_,fun h=> ?_⟩
  ·omega
  ·rw[Bool.eq_iff_iff]
   simp
   omega
 by_cases hc:(lim x).length≤24∧(lim y).length≤24
 ·simp only[hc,and_self,decide_true,Bool.not_true,if_true]
  simp
  refine aD (eP neg x (by omega)) ?_
  simp
  intro g1 hg1 h1g hb1
  simp[h1g,Ne.symm h1g,appV,elsV,Int.not_lt.2 hg1,bH]
  refine⟨by omega,fun g2 hg2 hb2=> ?_⟩
  have h2g:g2≠g:=by grind
  have Bg:bl g2=none:=by grind
  have hnn:0≤g2∨lim y= []:=hg2.imp id (fun h=>by simpa [iv] using h)
  simp[h1g,Ne.symm h1g,h2g,Ne.symm h2g,bW,qO]
  refine aK [.agg [.bool (decide (sg neg x<0)),.sl (iv (lim x)),.lsl g2 1 0 (lim y).length]] 2 (by simp[h1g,Ne.symm h1g,h2g,Ne.symm h2g]) ?_ (by simp[hg,hb1,Bg,h1g,h2g])
  rw[e2,bW,qO]
  exact zO hnn Bg (by simp[h2g])
 ·simp only[hc,decide_false,Bool.not_false,if_false]
  simp
  exact aK [.agg [.bool false,.nils,.nils]] 1 (by simp) (by simp[frz,rz,RT.c,V.cl,iv]) (by simp[hg])
def nm (x:Option Rat):Int:=match x with | some q=>q.num | none=>0
def dn (x:Option Rat):Nat:=match x with | some q=>q.den | none=>0
theorem nO (x:Option Rat):(ro x).c= [.bool (decide (nm x<0)),.sl (iv (lim (nm x).natAbs)),.sl (iv (lim (dn x)))]:=by
 cases x
 ·show rz.c=_
  rw[show nm none=0 from rfl,show dn none=0 from rfl,Int.natAbs_zero,aW];rfl
 ·rfl
theorem vB {x:Option Rat} (h:okQ x):(lim (nm x).natAbs).length≤24∧(lim (dn x)).length≤24:=by
 cases x with
 | none => rw [show nm none = 0 from rfl, show dn none = 0 from rfl, Int.natAbs_zero, aW]; simp
 | some q => exact h q rfl
theorem pS {x:Option Rat} (h:okQ x):okQ (x.map (- ·)):=by
 intro q hq
 cases x with
 | none => cases hq
 | some a =>
   cases hq
   have:=h a rfl
   unfold fits at this ⊢
   rw[show(-a).num= -a.num from rfl,show(-a).den=a.den from rfl,Int.natAbs_neg];exact this
theorem aEG (x:Option Rat):nm (x.map (- ·))= - nm x:=by cases x with | none=>rfl | some q=>rfl
theorem aFD (x:Option Rat):dn (x.map (- ·))=dn x:=by cases x with | none=>rfl | some q=>rfl
theorem xD (x:Option Rat) (hx:okQ x):RO Tryz.prog 202 [.agg (ro x).c] (.agg (ro (x.map (- ·))).c):=by
 obtain⟨hm,hd⟩:=vB hx
 have bH: ∀m,((iv (lim m)).all fun c=>c.length==1 && c.all V.one)=true:=fun m=>by simp[iv]
 refine aJ Tryz.func202 rfl rfl (by rw[Tryz.ntmps202];simp) fun bl=> ?_
 rw[Tryz.ntmps202,Tryz.results202]
 refine aE ?_
 rw[nO x]
 simp
 intro g hg0 hg g2 hg2 h2g hb2
 refine aC ?_
 simp
 refine aY aL (upd bl g (some ⟨3,[[.bool (decide (nm x<0)),.sl (iv (lim (nm x).natAbs)),.sl (iv (lim (dn x)))]]⟩)) (by simp[h2g,hb2]) [0,1,2,3,4,5,6,7,9,10] 4 (by kernel_rfl) ?_
 simp[h2g,Ne.symm h2g]
 refine aN (eP _ _ (by omega)) ?_
 rw[Nq]
 simp[h2g,Ne.symm h2g]
 refine Dz 8 ?_
 simp[h2g,Ne.symm h2g]
 intro g3 hg3 h32 h3g hb3
 refine⟨by simp[h2g,Ne.symm h2g,hb2,h3g,h32,hb3],Dz 11 ?_⟩
 simp[h2g,Ne.symm h2g,h3g,Ne.symm h3g,h32,Ne.symm h32,appV,elsV,Int.not_lt.2 hg3,bH]
 refine⟨by omega,fun g4 hg4 hb4=> ?_⟩
 have h4g:g4≠g:=by grind
 have h42:g4≠g2:=by grind
 have jH:bl g4=none:=by grind
 have hnn:0≤g4∨lim (dn x)= []:=hg4.imp id (fun h=>by simpa [iv] using h)
 refine⟨by simp[h2g,Ne.symm h2g,hb2,h3g,h32,hb3,h4g,h42,jH],Dz 12 ?_⟩
 simp[h2g,Ne.symm h2g,h3g,Ne.symm h3g,h32,Ne.symm h32,h4g,Ne.symm h4g,h42,Ne.symm h42,bW]
 refine⟨by simp[h2g,Ne.symm h2g,hb2,h3g,h32,hb3,h4g,h42,jH],Dz 13 ?_⟩
 simp[h2g,Ne.symm h2g,h3g,Ne.symm h3g,h32,Ne.symm h32,h4g,Ne.symm h4g,h42,Ne.symm h42]
 refine⟨by simp[h2g,Ne.symm h2g,hb2,h3g,h32,hb3,h4g,h42,jH],Dy ?_⟩
 simp
 refine aK [.agg [.bool (decide (-nm x<0)),.sl (iv (lim (nm x).natAbs)),.lsl g4 1 0 (lim (dn x)).length]] 2 (by simp[h2g,Ne.symm h2g,h4g,Ne.symm h4g,h42,Ne.symm h42]) ?_ (by simp[hg,hb2,hb3,jH,h2g,h4g,h42])
 rw[nO,aEG,aFD,Int.natAbs_neg]
 exact zO hnn jH (by simp[h4g,h42])
theorem Nc (x y:Option Rat) (hx:okQ x) (hy:okQ y):RO Tryz.prog 279 [.agg (ro x).c,.agg (ro y).c] (.agg (ro (op2 (· * ·) x y)).c):=by
 obtain⟨hm,hd⟩:=vB hx
 obtain⟨hm2,hd2⟩:=vB hy
 have n1:=gD hm hm2
 have n2:=gD hd hd2
 have e:G6 (decide (nm x<0) !=decide (nm y<0)) ((nm x).natAbs*(nm y).natAbs) (dn x*dn y)=op2 (· * ·) x y:=by
  unfold G6 op2
  rw[tJ]
  cases x with
  | none => simp [dn]
  | some a =>
    cases y with
    | none=>simp[dn]
    | some b=>
      rw[if_neg (show ¬ dn (some a)*dn (some b)=0 from Nat.mul_ne_zero a.den_nz b.den_nz)]
      simp only[nm,dn]
      rw[←Rat.mul_def']
 refine aJ Tryz.func279 rfl rfl (by rw[Tryz.ntmps279];simp) fun bl=> ?_
 rw[Tryz.ntmps279,Tryz.results279]
 refine aE ?_
 rw[nO x,nO y]
 simp
 intro g hg0 hg g2 hg2 h2g hb2 g3 hg3 h32 h3g hb3
 refine aC ?_
 simp
 refine aY aL (upd (upd bl g (some ⟨3,[[.bool (decide (nm x<0)),.sl (iv (lim (nm x).natAbs)),.sl (iv (lim (dn x)))]]⟩)) g2 (some ⟨3,[[.bool (decide (nm y<0)),.sl (iv (lim (nm y).natAbs)),.sl (iv (lim (dn y)))]]⟩)) (by simp[h32,h3g,hb3]) [0,1,2,3,4,5,6,7,8,9,10,11,12,13,14,15,16,17,18,19] 1 (by kernel_rfl) ?_
 simp[h2g,Ne.symm h2g,h32,Ne.symm h32,h3g,Ne.symm h3g]
 refine aN (fR _ _ (by omega) (by omega)) ?_
 simp[h2g,Ne.symm h2g,h32,Ne.symm h32,h3g,Ne.symm h3g]
 refine aN (fR _ _ (by omega) (by omega)) ?_
 simp[h2g,Ne.symm h2g,h32,Ne.symm h32,h3g,Ne.symm h3g]
 refine aN (rS _ _ _ (by omega) (by omega)) ?_
 rw[e]
 simp[h2g,Ne.symm h2g,h32,Ne.symm h32,h3g,Ne.symm h3g]
 refine Dz 20 ?_
 rw[nO (op2 _ x y)]
 simp[h2g,Ne.symm h2g,h32,Ne.symm h32,h3g,Ne.symm h3g]
 refine⟨by simp[h32,h3g,hb3],Dy ?_⟩
 simp[h2g,Ne.symm h2g,h32,Ne.symm h32,h3g,Ne.symm h3g]
 exact aK [.agg (ro (op2 (· * ·) x y)).c] 1 (by rw[nO (op2 _ x y)];simp[h2g,Ne.symm h2g,h32,Ne.symm h32,h3g,Ne.symm h3g]) (by rw[nO (op2 _ x y)];simp[frz,V.cl]) (by simp[hg,hb2,hb3])
theorem rO (x y:Option Rat) (hx:okQ x) (hy:okQ y):RO Tryz.prog 214 [.agg (ro x).c,.agg (ro y).c] (.agg (ro (op2 (· + ·) x y)).c):=by
 obtain⟨hm,hd⟩:=vB hx
 obtain⟨hm2,hd2⟩:=vB hy
 have n1:=gD hm hd2
 have n2:=gD hm2 hd
 have n3:=gD hd hd2
 have e0: ∀(a:Int) (b:Nat),sg (decide (a<0)) (a.natAbs*b)=a*b:=fun a b=>by
  have:=tJ a b
  have h0:decide (((b:Nat):Int)<0)=false:=decide_eq_false (by omega)
  rw[h0,Bool.bne_false,Int.natAbs_natCast] at this
  exact this
 have e: ∀n:Int,n=nm x*dn y+nm y*dn x→G6 (decide (n<0)) n.natAbs (dn x*dn y)=op2 (· + ·) x y:=fun n hn=>by
  unfold G6 op2
  rw[It,hn]
  cases x with
  | none => simp [dn]
  | some a =>
    cases y with
    | none=>simp[dn]
    | some b=>
      rw[if_neg (show ¬ dn (some a)*dn (some b)=0 from Nat.mul_ne_zero a.den_nz b.den_nz)]
      simp only[nm,dn]
      rw[←Rat.add_def']
 have o1:=oJ (dn x)
 have o2:=oJ (dn y)
 refine aJ Tryz.func214 rfl rfl (by rw[Tryz.ntmps214];simp) fun bl=> ?_
 rw[Tryz.ntmps214,Tryz.results214]
 refine aE ?_
 rw[nO x,nO y]
 simp
 intro g hg0 hg g2 hg2 h2g hb2 g3 hg3 h32 h3g hb3
 refine aC ?_
 simp
 refine cM [(2,.loc g 3 0 0),(3,.loc g2 3 0 0),(4,.loc g3 3 0 0)] _ _ 16 (.bool (decide (dn x=1)&& decide (dn y=1))) (upd (upd (upd bl g (some ⟨3,[[.bool (decide (nm x<0)),.sl (iv (lim (nm x).natAbs)),.sl (iv (lim (dn x)))]]⟩)) g2 (some ⟨3,[[.bool (decide (nm y<0)),.sl (iv (lim (nm y).natAbs)),.sl (iv (lim (dn y)))]]⟩)) g3 (some ⟨3,[[.bool false,.nils,.nils]]⟩)) ⟨rfl,by simp,Sub.refl _⟩ rfl ?_ ?_
 ·simp[h2g,Ne.symm h2g,h32,Ne.symm h32,h3g,Ne.symm h3g]
  refine aD o1 ?_
  simp[h2g,Ne.symm h2g,h32,Ne.symm h32,h3g,Ne.symm h3g]
  refine⟨fun h=> ?_,fun h=> ?_⟩
  ·refine aD o2 ?_
   simp[h]
  ·simp[h]
 have w:ro (op2 (· + ·) x y)=ro (op2 (· + ·) x y):=rfl
 by_cases gG:dn x=1∧dn y=1
 ·have e1:=e (nm x+nm y) (by rw[gG.1,gG.2];simp)
  rw[gG.1,gG.2] at e1
  have l1:(lim (nm x+nm y).natAbs).length≤25:=kZ (Int.natAbs_add_le _ _) (uH hm hm2)
  simp[gG.1,gG.2,h2g,Ne.symm h2g,h32,Ne.symm h32,h3g,Ne.symm h3g]
  refine aD (P4 (nm x) (nm y) (by omega) (by omega)) ?_
  simp[h2g,Ne.symm h2g,h32,Ne.symm h32,h3g,Ne.symm h3g]
  intro g4 hg4
  intros
  have h4g: ¬ g4=g:=by assumption
  have h42: ¬ g4=g2:=by assumption
  have h43: ¬ g4=g3:=by assumption
  have hb4:bl g4=none:=by assumption
  simp[h2g,Ne.symm h2g,h32,Ne.symm h32,h3g,Ne.symm h3g,h4g,Ne.symm h4g,h42,Ne.symm h42,h43,Ne.symm h43,bW]
  intro g5 hg5
  intros
  have h5g: ¬ g5=g:=by assumption
  have h52: ¬ g5=g2:=by assumption
  have h53: ¬ g5=g3:=by assumption
  have h54: ¬ g5=g4:=by assumption
  have hb5:bl g5=none:=by assumption
  refine iK 1 (upd (upd (upd (upd bl g (some ⟨3,[[.bool (decide (nm x<0)),.sl (iv (lim (nm x).natAbs)),.sl (iv (lim 1))]]⟩)) g2 (some ⟨3,[[.bool (decide (nm y<0)),.sl (iv (lim (nm y).natAbs)),.sl (iv (lim 1))]]⟩)) g3 (some ⟨3,[[.bool false,.nils,.nils]]⟩)) g4 (some ⟨2,[[.bool (decide (nm x+nm y<0)),.sl (iv (lim (nm x+nm y).natAbs))]]⟩)) [.bool (decide (nm x+nm y<0)),.sl (iv (lim (nm x+nm y).natAbs)),.sl (iv (lim 1))] (by simp[h2g,Ne.symm h2g,h32,Ne.symm h32,h3g,Ne.symm h3g,h4g,Ne.symm h4g,h42,Ne.symm h42,h43,Ne.symm h43,h5g,Ne.symm h5g,h52,Ne.symm h52,h53,Ne.symm h53,h54,Ne.symm h54,hb5]) (by simp[frz,dropB,V.cl,Ej,iv,Int.not_lt.2 hg5,h2g,Ne.symm h2g,h32,Ne.symm h32,h3g,Ne.symm h3g,h4g,Ne.symm h4g,h42,Ne.symm h42,h43,Ne.symm h43,h5g,Ne.symm h5g,h52,Ne.symm h52,h53,Ne.symm h53,h54,Ne.symm h54,hb5]) (rS _ _ 1 (by omega) (by rw[Ej];simp)) ?_
  rw[show G6 (decide (nm x+nm y<0)) (nm x+nm y).natAbs 1=op2 (· + ·) x y from e1,nO (op2 _ x y)]
  simp[h2g,Ne.symm h2g,h32,Ne.symm h32,h3g,Ne.symm h3g,h4g,Ne.symm h4g,h42,Ne.symm h42,h43,Ne.symm h43,h5g,Ne.symm h5g,h52,Ne.symm h52,h53,Ne.symm h53,h54,Ne.symm h54]
  exact aK [.agg (ro (op2 (· + ·) x y)).c] 1 (by rw[nO (op2 _ x y)];simp[h2g,Ne.symm h2g,h32,Ne.symm h32,h3g,Ne.symm h3g,h4g,Ne.symm h4g,h42,Ne.symm h42,h43,Ne.symm h43,h5g,Ne.symm h5g,h52,Ne.symm h52,h53,Ne.symm h53,h54,Ne.symm h54]) (by rw[nO (op2 _ x y)];simp[frz,V.cl]) (by simp[hg,hb2,hb3,hb4,hb5])
 ·have aN7:(decide (dn x=1)&& decide (dn y=1))=false:=by
   rw[Bool.eq_false_iff];simpa using gG
  rw[aN7]
  simp
  refine aY aL (upd (upd (upd bl g (some ⟨3,[[.bool (decide (nm x<0)),.sl (iv (lim (nm x).natAbs)),.sl (iv (lim (dn x)))]]⟩)) g2 (some ⟨3,[[.bool (decide (nm y<0)),.sl (iv (lim (nm y).natAbs)),.sl (iv (lim (dn y)))]]⟩)) g3 (some ⟨3,[[.bool false,.nils,.nils]]⟩)) (Sub.refl _) [0,1,2,3,4,5,6,7,8,9] 2 (by kernel_rfl) ?_
  simp[h2g,Ne.symm h2g,h32,Ne.symm h32,h3g,Ne.symm h3g]
  refine aN (fR _ _ (by omega) (by omega)) ?_
  simp[h2g,Ne.symm h2g,h32,Ne.symm h32,h3g,Ne.symm h3g]
  refine aN (eP _ _ (by omega)) ?_
  rw[e0]
  simp[h2g,Ne.symm h2g,h32,Ne.symm h32,h3g,Ne.symm h3g]
  refine Dz 10 ?_
  simp[h2g,Ne.symm h2g,h32,Ne.symm h32,h3g,Ne.symm h3g]
  intro g4 hg4
  intros
  have h4g: ¬ g4=g:=by assumption
  have h42: ¬ g4=g2:=by assumption
  have h43: ¬ g4=g3:=by assumption
  have hb4:bl g4=none:=by assumption
  refine⟨by simp[h2g,Ne.symm h2g,h32,Ne.symm h32,h3g,Ne.symm h3g,h4g,Ne.symm h4g,h42,Ne.symm h42,h43,Ne.symm h43,hb2,hb3,hb4],Dz 11 ?_⟩
  simp[h2g,Ne.symm h2g,h32,Ne.symm h32,h3g,Ne.symm h3g,h4g,Ne.symm h4g,h42,Ne.symm h42,h43,Ne.symm h43,bW]
  refine⟨by simp[h2g,Ne.symm h2g,h32,Ne.symm h32,h3g,Ne.symm h3g,h4g,Ne.symm h4g,h42,Ne.symm h42,h43,Ne.symm h43,hb2,hb3,hb4],Dy ?_⟩
  simp[h2g,Ne.symm h2g,h32,Ne.symm h32,h3g,Ne.symm h3g,h4g,Ne.symm h4g,h42,Ne.symm h42,h43,Ne.symm h43]
  refine aC ?_
  refine aY aL (upd (upd (upd (upd bl g (some ⟨3,[[.bool (decide (nm x<0)),.sl (iv (lim (nm x).natAbs)),.sl (iv (lim (dn x)))]]⟩)) g2 (some ⟨3,[[.bool (decide (nm y<0)),.sl (iv (lim (nm y).natAbs)),.sl (iv (lim (dn y)))]]⟩)) g3 (some ⟨3,[[.bool false,.nils,.nils]]⟩)) g4 (some ⟨2,[[.bool (decide (nm x*dn y<0)),.sl (iv (lim (nm x*dn y).natAbs))]]⟩)) (Sub.refl _) [0,1,2,3,4,5,6,7,8,9] 2 (by kernel_rfl) ?_
  simp[h2g,Ne.symm h2g,h32,Ne.symm h32,h3g,Ne.symm h3g,h4g,Ne.symm h4g,h42,Ne.symm h42,h43,Ne.symm h43]
  refine aN (fR _ _ (by omega) (by omega)) ?_
  simp[h2g,Ne.symm h2g,h32,Ne.symm h32,h3g,Ne.symm h3g,h4g,Ne.symm h4g,h42,Ne.symm h42,h43,Ne.symm h43]
  refine aN (eP _ _ (by omega)) ?_
  rw[e0]
  simp[h2g,Ne.symm h2g,h32,Ne.symm h32,h3g,Ne.symm h3g,h4g,Ne.symm h4g,h42,Ne.symm h42,h43,Ne.symm h43]
  refine Dz 10 ?_
  simp[h2g,Ne.symm h2g,h32,Ne.symm h32,h3g,Ne.symm h3g,h4g,Ne.symm h4g,h42,Ne.symm h42,h43,Ne.symm h43]
  intro g5 hg5
  intros
  have h5g: ¬ g5=g:=by assumption
  have h52: ¬ g5=g2:=by assumption
  have h53: ¬ g5=g3:=by assumption
  have h54: ¬ g5=g4:=by assumption
  have hb5:bl g5=none:=by assumption
  refine⟨by simp[h2g,Ne.symm h2g,h32,Ne.symm h32,h3g,Ne.symm h3g,h4g,Ne.symm h4g,h42,Ne.symm h42,h43,Ne.symm h43,h5g,Ne.symm h5g,h52,Ne.symm h52,h53,Ne.symm h53,h54,Ne.symm h54,hb2,hb3,hb4,hb5],Dz 11 ?_⟩
  simp[h2g,Ne.symm h2g,h32,Ne.symm h32,h3g,Ne.symm h3g,h4g,Ne.symm h4g,h42,Ne.symm h42,h43,Ne.symm h43,h5g,Ne.symm h5g,h52,Ne.symm h52,h53,Ne.symm h53,h54,Ne.symm h54,bW]
  refine⟨by simp[h2g,Ne.symm h2g,h32,Ne.symm h32,h3g,Ne.symm h3g,h4g,Ne.symm h4g,h42,Ne.symm h42,h43,Ne.symm h43,h5g,Ne.symm h5g,h52,Ne.symm h52,h53,Ne.symm h53,h54,Ne.symm h54,hb2,hb3,hb4,hb5],Dy ?_⟩
  simp[h2g,Ne.symm h2g,h32,Ne.symm h32,h3g,Ne.symm h3g,h4g,Ne.symm h4g,h42,Ne.symm h42,h43,Ne.symm h43,h5g,Ne.symm h5g,h52,Ne.symm h52,h53,Ne.symm h53,h54,Ne.symm h54]
  refine aD (P4 (nm x*dn y) (nm y*dn x) (by rw[Int.natAbs_mul,Int.natAbs_natCast];omega) (by rw[Int.natAbs_mul,Int.natAbs_natCast];omega)) ?_
  simp[h2g,Ne.symm h2g,h32,Ne.symm h32,h3g,Ne.symm h3g,h4g,Ne.symm h4g,h42,Ne.symm h42,h43,Ne.symm h43,h5g,Ne.symm h5g,h52,Ne.symm h52,h53,Ne.symm h53,h54,Ne.symm h54,bW]
  intro g6 hg6
  intros
  have h6g: ¬ g6=g:=by assumption
  have h62: ¬ g6=g2:=by assumption
  have h63: ¬ g6=g3:=by assumption
  have h64: ¬ g6=g4:=by assumption
  have h65: ¬ g6=g5:=by assumption
  have hb6:bl g6=none:=by assumption
  try simp[h2g,Ne.symm h2g,h32,Ne.symm h32,h3g,Ne.symm h3g,h4g,Ne.symm h4g,h42,Ne.symm h42,h43,Ne.symm h43,h5g,Ne.symm h5g,h52,Ne.symm h52,h53,Ne.symm h53,h54,Ne.symm h54,h6g,Ne.symm h6g,h62,Ne.symm h62,h63,Ne.symm h63,h64,Ne.symm h64,h65,Ne.symm h65]
  refine aC ?_
  refine aY aL (upd (upd (upd (upd (upd bl g (some ⟨3,[[.bool (decide (nm x<0)),.sl (iv (lim (nm x).natAbs)),.sl (iv (lim (dn x)))]]⟩)) g2 (some ⟨3,[[.bool (decide (nm y<0)),.sl (iv (lim (nm y).natAbs)),.sl (iv (lim (dn y)))]]⟩)) g4 (some ⟨2,[[.bool (decide (nm x*dn y<0)),.sl (iv (lim (nm x*dn y).natAbs))]]⟩)) g5 (some ⟨2,[[.bool (decide (nm y*dn x<0)),.sl (iv (lim (nm y*dn x).natAbs))]]⟩)) g6 (some ⟨2,[[.bool (decide (nm x*dn y+nm y*dn x<0)),.sl (iv (lim (nm x*dn y+nm y*dn x).natAbs))]]⟩)) (by intro z b hz;simp only[aA] at hz ⊢;grind) [0,1,2,3,4,5,6,7,8,9] 1 (by kernel_rfl) ?_
  simp[h2g,Ne.symm h2g,h32,Ne.symm h32,h3g,Ne.symm h3g,h4g,Ne.symm h4g,h42,Ne.symm h42,h43,Ne.symm h43,h5g,Ne.symm h5g,h52,Ne.symm h52,h53,Ne.symm h53,h54,Ne.symm h54,h6g,Ne.symm h6g,h62,Ne.symm h62,h63,Ne.symm h63,h64,Ne.symm h64,h65,Ne.symm h65]
  refine aN (fR _ _ (by omega) (by omega)) ?_
  simp[h2g,Ne.symm h2g,h32,Ne.symm h32,h3g,Ne.symm h3g,h4g,Ne.symm h4g,h42,Ne.symm h42,h43,Ne.symm h43,h5g,Ne.symm h5g,h52,Ne.symm h52,h53,Ne.symm h53,h54,Ne.symm h54,h6g,Ne.symm h6g,h62,Ne.symm h62,h63,Ne.symm h63,h64,Ne.symm h64,h65,Ne.symm h65]
  refine aN (rS _ _ _ ?_ (by omega)) ?_
  ·exact kZ (Int.natAbs_add_le _ _) (by rw[Int.natAbs_mul,Int.natAbs_mul,Int.natAbs_natCast,Int.natAbs_natCast];have:=uH n1 n2;omega)
  rw[e _ rfl,nO (op2 _ x y)]
  simp[h2g,Ne.symm h2g,h32,Ne.symm h32,h3g,Ne.symm h3g,h4g,Ne.symm h4g,h42,Ne.symm h42,h43,Ne.symm h43,h5g,Ne.symm h5g,h52,Ne.symm h52,h53,Ne.symm h53,h54,Ne.symm h54,h6g,Ne.symm h6g,h62,Ne.symm h62,h63,Ne.symm h63,h64,Ne.symm h64,h65,Ne.symm h65]
  refine Dz 10 ?_
  simp[h2g,Ne.symm h2g,h32,Ne.symm h32,h3g,Ne.symm h3g,h4g,Ne.symm h4g,h42,Ne.symm h42,h43,Ne.symm h43,h5g,Ne.symm h5g,h52,Ne.symm h52,h53,Ne.symm h53,h54,Ne.symm h54,h6g,Ne.symm h6g,h62,Ne.symm h62,h63,Ne.symm h63,h64,Ne.symm h64,h65,Ne.symm h65]
  refine⟨by intro z b hz;simp only[aA] at hz ⊢;grind,Dy ?_⟩
  simp[h2g,Ne.symm h2g,h32,Ne.symm h32,h3g,Ne.symm h3g,h4g,Ne.symm h4g,h42,Ne.symm h42,h43,Ne.symm h43,h5g,Ne.symm h5g,h52,Ne.symm h52,h53,Ne.symm h53,h54,Ne.symm h54,h6g,Ne.symm h6g,h62,Ne.symm h62,h63,Ne.symm h63,h64,Ne.symm h64,h65,Ne.symm h65]
  exact aK [.agg (ro (op2 (· + ·) x y)).c] 1 (by rw[nO (op2 _ x y)];simp[h2g,Ne.symm h2g,h32,Ne.symm h32,h3g,Ne.symm h3g,h4g,Ne.symm h4g,h42,Ne.symm h42,h43,Ne.symm h43,h5g,Ne.symm h5g,h52,Ne.symm h52,h53,Ne.symm h53,h54,Ne.symm h54,h6g,Ne.symm h6g,h62,Ne.symm h62,h63,Ne.symm h63,h64,Ne.symm h64,h65,Ne.symm h65]) (by rw[nO (op2 _ x y)];simp[frz,V.cl]) (by simp[hg,hb2,hb3,hb4,hb5,hb6])
theorem A9 {x:Option Rat} (h:okQ x):rd (ro x)=x:=by
 cases x with
 | none => exact aOK
 | some q => exact Hw (h q rfl)
theorem Lg (r s:RT) (hr:r.le 1048576) (hs:s.le 1048576):RO Tryz.prog 139 [.agg r.c,.agg s.c] (.agg (ro (op2 (· - ·) (rd r) (rd s))).c):=by
 have k1:=eK r (by have:=hr.1;omega) (by have:=hr.2;omega)
 have k2:=eK s (by have:=hs.1;omega) (by have:=hs.2;omega)
 refine aJ Tryz.func139 rfl rfl (by rw[Tryz.ntmps139];simp) fun bl=> ?_
 rw[Tryz.ntmps139,Tryz.results139]
 refine aE ?_
 rw[nO (op2 _ _ _)]
 simp[RT.c]
 intro g hg0 hg g2 hg2 h2g hb2 g3 hg3 h32 h3g hb3
 refine aC ?_
 simp
 refine cM [(2,.loc g 3 0 0),(3,.loc g2 3 0 0),(4,.loc g3 3 0 0)] _ (upd (upd (upd bl g (some ⟨3,[r.c]⟩)) g2 (some ⟨3,[s.c]⟩)) g3 (some ⟨3,[[.bool false,.nils,.nils]]⟩)) 12 (.bool (!decide r.ok || !decide s.ok)) (upd (upd (upd bl g (some ⟨3,[r.c]⟩)) g2 (some ⟨3,[s.c]⟩)) g3 (some ⟨3,[[.bool false,.nils,.nils]]⟩)) ⟨rfl,by simp,sub_eq (by simp[RT.c])⟩ rfl ?_ ?_
 ·simp[RT.c,h2g,Ne.symm h2g,h32,Ne.symm h32,h3g,Ne.symm h3g]
  refine aD k1 ?_
  simp[h2g,Ne.symm h2g,h32,Ne.symm h32,h3g,Ne.symm h3g]
  refine⟨fun h=> ?_,fun h=> ?_⟩
  ·simp[h]
  ·simp[h,h2g,Ne.symm h2g,h32,Ne.symm h32,h3g,Ne.symm h3g]
   refine aD k2 ?_
   simp[h]
 by_cases h1:r.ok
 ·by_cases h2:s.ok
  ·obtain⟨a,ea⟩: ∃q,rd r=some q:=⟨_,by unfold rd;rw[if_pos h1]⟩
   obtain⟨b,eb⟩: ∃q,rd s=some q:=⟨_,by unfold rd;rw[if_pos h2]⟩
   obtain⟨ra,fa⟩:=rd_some ea
   obtain⟨sb,fb⟩:=rd_some eb
   have oa:okQ (some a):=fun q h=>by cases h;exact fa
   have ob:okQ (some b):=fun q h=>by cases h;exact fb
   have c1:=xD (some b) ob
   have c2:=rO (some a) (some (-b)) oa (pS ob)
   have er:op2 (· + ·) (some a) (some (-b))=op2 (· - ·) (rd r) (rd s):=by
    rw[ea,eb];unfold op2;simp only;rw[Rat.sub_eq_add_neg]
   rw[er] at c2
   clear er
   generalize op2 (· - ·) (rd r) (rd s)=z at c2 ⊢
   rw[nO z] at c2
   rw[show(ro (some b))=s from sb.symm] at c1
   rw[show(ro (some a))=r from ra.symm] at c2
   simp[h1,h2]
   refine aY aL (upd (upd bl g (some ⟨3,[r.c]⟩)) g2 (some ⟨3,[s.c]⟩)) (by simp[RT.c,h2g,Ne.symm h2g,h32,Ne.symm h32,h3g,Ne.symm h3g,hb3]) [0,1,2,3] 1 (by kernel_rfl) ?_
   simp[h2g,Ne.symm h2g,h32,Ne.symm h32,h3g,Ne.symm h3g,RT.c]
   refine aN c1 ?_
   simp[h2g,Ne.symm h2g,h32,Ne.symm h32,h3g,Ne.symm h3g]
   refine aN c2 ?_
   simp[h2g,Ne.symm h2g,h32,Ne.symm h32,h3g,Ne.symm h3g]
   refine Dz 4 ?_
   simp[h2g,Ne.symm h2g,h32,Ne.symm h32,h3g,Ne.symm h3g]
   refine⟨by simp[h32,h3g,hb3],Dy ?_⟩
   simp[h2g,Ne.symm h2g,h32,Ne.symm h32,h3g,Ne.symm h3g]
   exact aK [.agg [.bool (decide (nm z<0)),.sl (iv (lim (nm z).natAbs)),.sl (iv (lim (dn z)))]] 1 (by simp[h2g,Ne.symm h2g,h32,Ne.symm h32,h3g,Ne.symm h3g]) (by simp[frz,V.cl]) (by simp[hg,hb2,hb3])
  ·have eb:rd s=none:=by unfold rd;rw[if_neg h2]
   have er:op2 (· - ·) (rd r) (rd s)=none:=by rw[eb];cases rd r<;>rfl
   rw[er]
   simp[h1,h2]
   exact aK [.agg [.bool false,.nils,.nils]] 1 (by simp[h2g,Ne.symm h2g,h32,Ne.symm h32,h3g,Ne.symm h3g]) (by simp[frz,nm,dn,V.cl,iv,aW]) (by simp[hg,hb2,hb3])
 ·have eb:rd r=none:=by unfold rd;rw[if_neg h1]
  have er:op2 (· - ·) (rd r) (rd s)=none:=by rw[eb];rfl
  rw[er]
  simp[h1]
  exact aK [.agg [.bool false,.nils,.nils]] 1 (by simp[h2g,Ne.symm h2g,h32,Ne.symm h32,h3g,Ne.symm h3g]) (by simp[frz,nm,dn,V.cl,iv,aW]) (by simp[hg,hb2,hb3])

theorem T9 {n:Int} (h0:0≤n) (h1:n≤18446744073709551615):IntKind.u64.wrap n=n:=IntWalk.u64_in _ ⟨by omega,by omega⟩
theorem tD (n:Int) (hn: -9223372036854775808≤n∧n≤9223372036854775807):RO Tryz.prog 160 [.int .i64 n] (.agg (biC n)):=by
 refine aJ Tryz.func160 rfl rfl (by rw[Tryz.ntmps160];simp) fun bl=> ?_
 rw[Tryz.ntmps160,Tryz.results160]
 refine aC ?_
 simp
 intro g hg0 hg
 refine⟨fun h=> ?_,fun h=> ?_⟩
 ·have e:IntKind.u64.wrap (IntKind.u64.wrap (IntKind.i64.wrap (-IntKind.i64.wrap (n+1)))+1)=(n.natAbs:Int):=by
   have w1:IntKind.i64.wrap (n+1)=n+1:=i64_in (by omega) (by omega)
   have w2:IntKind.i64.wrap (-(n+1))= -(n+1):=i64_in (by omega) (by omega)
   have w3:IntKind.u64.wrap (-(n+1))= -(n+1):=T9 (by omega) (by omega)
   have w4:IntKind.u64.wrap (-(n+1)+1)= -(n+1)+1:=T9 (by omega) (by omega)
   rw[w1,w2,w3,w4]
   omega
  rw[e]
  refine aD (tH n.natAbs (by omega)) ?_
  simp
  refine aD (gS true n.natAbs) ?_
  have e2:sg true n.natAbs=n:=by unfold sg;simp;omega
  rw[e2,bW]
  simp
  exact aK [.agg (biC n)] 1 (by simp[bW]) (by simp[frz,bW,V.cl]) (by simp[hg])
 ·have e:IntKind.u64.wrap n=(n.natAbs:Int):=by rw[T9 (by omega) (by omega)];omega
  rw[e]
  refine aD (tH n.natAbs (by omega)) ?_
  simp
  refine aD (gS false n.natAbs) ?_
  have e2:sg false n.natAbs=n:=by unfold sg;simp;omega
  rw[e2,bW]
  simp
  exact aK [.agg (biC n)] 1 (by simp[bW]) (by simp[frz,bW,V.cl]) (by simp[hg])
theorem Cg (n:Int) (hn: -9223372036854775808<n∧n≤9223372036854775807):RO Tryz.prog 215 [.int .i64 n] (.agg (biC n)):=by
 have hl:(lim n.natAbs).length≤60:=aM.2 (Nat.lt_of_le_of_lt (show n.natAbs≤9223372036854775808 by omega) (by decide+kernel))
 refine aJ Tryz.func215 rfl rfl (by rw[Tryz.ntmps215];simp) fun bl=> ?_
 rw[Tryz.ntmps215,Tryz.results215]
 refine aC ?_
 simp
 intro g hg0 hg
 have h0: ¬ n= -9223372036854775808:=by omega
 simp[h0]
 refine⟨fun h=> ?_,fun h=> ?_⟩
 ·have e:IntKind.i64.wrap (-n)=(n.natAbs:Int):=by rw[i64_in (by omega) (by omega)];omega
  try rw[e]
  refine aD (gP n.natAbs (by omega)) ?_
  simp
  refine aD (eP true n.natAbs hl) ?_
  have e2:sg true n.natAbs=n:=by unfold sg;simp;omega
  rw[e2,bW]
  simp
  exact aK [.agg (biC n)] 1 (by simp[bW]) (by simp[frz,bW,V.cl]) (by simp[hg])
 ·have e:n=(n.natAbs:Int):=by omega
  have hN:=gP n.natAbs (by omega)
  rw[←e] at hN
  refine aD hN ?_
  simp
  refine aD (eP false n.natAbs hl) ?_
  have e2:sg false n.natAbs=n:=by unfold sg;simp;omega
  rw[e2,bW]
  simp
  exact aK [.agg (biC n)] 1 (by simp[bW]) (by simp[frz,bW,V.cl]) (by simp[hg])
theorem Tj (n:Int):(rq (n:Rat)).c= [.bool (decide (n<0)),.sl (iv (lim n.natAbs)),.sl [[.int .i64 1]]]:=by
 rw[iJ]
 show [V.bool (decide (n<0)),V.sl (iv (lim n.natAbs)),V.sl (iv (lim 1))]=_
 rw[Ej];rfl
theorem dO (n:Int) (hn: -9223372036854775808<n∧n≤9223372036854775807):RO Tryz.prog 138 [.int .i64 n] (.agg (ro (some (n:Rat))).c):=by
 refine aJ Tryz.func138 rfl rfl (by rw[Tryz.ntmps138];simp) fun bl=> ?_
 rw[Tryz.ntmps138,Tryz.results138]
 refine aC ?_
 rw[show(ro (some (n:Rat))).c=_ from Tj n]
 simp
 intro g hg0 hg
 refine aD (Cg n hn) ?_
 simp[bW]
 intro g1 hg1 h1g hb1
 simp[h1g,Ne.symm h1g]
 refine aK [.agg [.bool (decide (n<0)),.sl (iv (lim n.natAbs)),.lsl g1 1 0 1]] 2 (by simp[h1g,Ne.symm h1g]) ?_ (by simp[hg,hb1])
 exact zO (ns:= [1]) (.inl hg1) hb1 (by simp[h1g,iv])
theorem uN (n:Int) (hn: -9223372036854775808≤n∧n≤9223372036854775807):RO Tryz.prog 83 [.int .i64 n] (fv (some (n:Rat))):=by
 refine aJ Tryz.func83 rfl rfl (by rw[Tryz.ntmps83];simp) fun bl=> ?_
 rw[Tryz.ntmps83,Tryz.results83]
 refine aC ?_
 rw[show fv (some (n:Rat))= .ptr (rq (n:Rat)).c from rfl,Tj n]
 simp
 refine aD (tD n hn) ?_
 simp[bW]
 intro g1 hg1 hb1 g2 hg2 h21 hb2
 refine aK [.loc g2 3 0 0] 2 (by simp[h21,Ne.symm h21]) ?_ (by simp[hb1,hb2])
 have h1:=zO (bl0:=bl) (ms:=lim n.natAbs) (b:=decide (n<0)) (ns:= [1]) (g:=g1) (.inl hg1) hb1 (bl:=upd (upd bl g1 (some ⟨1,iv [1]⟩)) g2 (some ⟨3,[[.bool (decide (n<0)),.sl (iv (lim n.natAbs)),.lsl g1 1 0 1]]⟩)) (by simp[h21,Ne.symm h21])
 rw[uI] at h1
 show frz _ 2 (.loc g2 3 0 0)=_
 rw[rG (e:= [.bool (decide (n<0)),.sl (iv (lim n.natAbs)),.lsl g1 1 0 1]) (by simp[dropB,hb2])]
 obtain⟨e',he,h2⟩:=Option.map_eq_some_iff.1 h1
 cases h2
 exact(congrArg (Option.map V.ptr) he).trans rfl
theorem Kh (r s:RT) (hr:r.le 1048576) (hs:s.le 1048576):RO Tryz.prog 137 [.agg r.c,.agg s.c] (.agg (ro (op2 (· + ·) (rd r) (rd s))).c):=by
 have k1:=eK r (by have:=hr.1;omega) (by have:=hr.2;omega)
 have k2:=eK s (by have:=hs.1;omega) (by have:=hs.2;omega)
 refine aJ Tryz.func137 rfl rfl (by rw[Tryz.ntmps137];simp) fun bl=> ?_
 rw[Tryz.ntmps137,Tryz.results137]
 refine aE ?_
 rw[nO (op2 _ _ _)]
 simp[RT.c]
 intro g hg0 hg g2 hg2 h2g hb2 g3 hg3 h32 h3g hb3
 refine aC ?_
 simp
 refine cM [(2,.loc g 3 0 0),(3,.loc g2 3 0 0),(4,.loc g3 3 0 0)] _ (upd (upd (upd bl g (some ⟨3,[r.c]⟩)) g2 (some ⟨3,[s.c]⟩)) g3 (some ⟨3,[[.bool false,.nils,.nils]]⟩)) 12 (.bool (!decide r.ok || !decide s.ok)) (upd (upd (upd bl g (some ⟨3,[r.c]⟩)) g2 (some ⟨3,[s.c]⟩)) g3 (some ⟨3,[[.bool false,.nils,.nils]]⟩)) ⟨rfl,by simp,sub_eq (by simp[RT.c])⟩ rfl ?_ ?_
 ·simp[RT.c,h2g,Ne.symm h2g,h32,Ne.symm h32,h3g,Ne.symm h3g]
  refine aD k1 ?_
  simp[h2g,Ne.symm h2g,h32,Ne.symm h32,h3g,Ne.symm h3g]
  refine⟨fun h=> ?_,fun h=> ?_⟩
  ·simp[h]
  ·simp[h,h2g,Ne.symm h2g,h32,Ne.symm h32,h3g,Ne.symm h3g]
   refine aD k2 ?_
   simp[h]
 by_cases h1:r.ok
 ·by_cases h2:s.ok
  ·obtain⟨a,ea⟩: ∃q,rd r=some q:=⟨_,by unfold rd;rw[if_pos h1]⟩
   obtain⟨b,eb⟩: ∃q,rd s=some q:=⟨_,by unfold rd;rw[if_pos h2]⟩
   obtain⟨ra,fa⟩:=rd_some ea
   obtain⟨sb,fb⟩:=rd_some eb
   have oa:okQ (some a):=fun q h=>by cases h;exact fa
   have ob:okQ (some b):=fun q h=>by cases h;exact fb
   have c2:=rO (some a) (some b) oa ob
   rw[←ea,←eb] at c2
   generalize op2 (· + ·) (rd r) (rd s)=z at c2 ⊢
   rw[nO z] at c2
   rw[ea,eb,show(ro (some a))=r from ra.symm,show(ro (some b))=s from sb.symm] at c2
   simp[h1,h2,RT.c,h2g,Ne.symm h2g,h32,Ne.symm h32,h3g,Ne.symm h3g]
   refine aD c2 ?_
   simp[h2g,Ne.symm h2g,h32,Ne.symm h32,h3g,Ne.symm h3g]
   exact aK [.agg [.bool (decide (nm z<0)),.sl (iv (lim (nm z).natAbs)),.sl (iv (lim (dn z)))]] 1 (by simp[h2g,Ne.symm h2g,h32,Ne.symm h32,h3g,Ne.symm h3g]) (by simp[frz,V.cl]) (by simp[hg,hb2,hb3])
  ·have eb:rd s=none:=by unfold rd;rw[if_neg h2]
   have er:op2 (· + ·) (rd r) (rd s)=none:=by rw[eb];cases rd r<;>rfl
   rw[er]
   simp[h1,h2]
   exact aK [.agg [.bool false,.nils,.nils]] 1 (by simp[h2g,Ne.symm h2g,h32,Ne.symm h32,h3g,Ne.symm h3g]) (by simp[frz,nm,dn,V.cl,iv,aW]) (by simp[hg,hb2,hb3])
 ·have eb:rd r=none:=by unfold rd;rw[if_neg h1]
  have er:op2 (· + ·) (rd r) (rd s)=none:=by rw[eb];rfl
  rw[er]
  simp[h1]
  exact aK [.agg [.bool false,.nils,.nils]] 1 (by simp[h2g,Ne.symm h2g,h32,Ne.symm h32,h3g,Ne.symm h3g]) (by simp[frz,nm,dn,V.cl,iv,aW]) (by simp[hg,hb2,hb3])

theorem Bs :Tryz.prog.cellsOf 3=1:=by kernel_rfl
theorem N8 :Tryz.prog.cellsOf 4=1:=by kernel_rfl
theorem yD :Tryz.prog.cellsOf 9=1:=by kernel_rfl
theorem Gm :Tryz.prog.cellsOf 207=4:=by kernel_rfl
theorem aU6 {cs:List V} (h:cs.length=2): ∃a b,cs= [a,b]:=by
 match cs,h with
 | [a, b], _ => exact ⟨a, b, rfl⟩
theorem aU7 {cs:List V} (h:cs.length=3): ∃a b c,cs= [a,b,c]:=by
 match cs,h with
 | [a, b, c], _ => exact ⟨a, b, c, rfl⟩
theorem aUF {cs:List V} (h:cs.length=4): ∃a b c d,cs= [a,b,c,d]:=by
 match cs,h with
 | [a, b, c, d], _ => exact ⟨a, b, c, d, rfl⟩
theorem Yc {cs:List V} (h:CO Tryz.prog 207 cs): ∃j:J,cs=j.c∧j.fit:=by
 obtain⟨hl,hf⟩:=xE Tryz.underlying207 h
 rw[Gm] at hl
 obtain⟨a,b,c,d,rfl⟩:=aUF hl
 simp[Bs,N8,yD] at hf
 obtain⟨h0,h1,h2,h3⟩:=hf
 obtain⟨s,h0,hs⟩:=aBR Tryz.underlying9 h0
 obtain⟨x,h1,hx⟩:=B6 Tryz.underlying3 h1
 obtain⟨y,h2,hy⟩:=B6 Tryz.underlying3 h2
 obtain⟨f,h3⟩:=Xm Tryz.underlying4 h3
 cases h0;cases h1;cases h2;cases h3
 exact⟨⟨s,x,y,f⟩,rfl,hs,wf_i64 hx,wf_i64 hy⟩

theorem Co :Tryz.prog.cellsOf 217=3:=by kernel_rfl
theorem I8 :Tryz.prog.cellsOf 71=2:=by kernel_rfl
theorem Dt :Tryz.prog.cellsOf 68=1:=by kernel_rfl
theorem W9 :Tryz.prog.cellsOf 69=1:=by kernel_rfl
theorem Bv :1≤Tryz.prog.bytesOf 207:=by
 have:Tryz.prog.bytesOf 207=40:=by kernel_rfl
 omega
theorem S3 :1≤Tryz.prog.bytesOf 217:=by
 have:Tryz.prog.bytesOf 217=24:=by kernel_rfl
 omega
def aEP (n:Int):Prop:= -9223372036854775808≤n∧n≤9223372036854775807
structure Mb.fit (m : Mb) : Prop where
 a:aEP m.a
 b:aEP m.b
 kind:aEP m.kind
structure Str.fit (s : Str) : Prop where
 js:s.js.length≤140737488351232
 ms:s.ms.length≤140737488351232
 names: ∀j,j∈s.js→j.name.size≤140737488351232
 aT0: ∀j,j∈s.js→j.fit
 members: ∀m,m∈s.ms→m.fit
theorem Vh {cs:List V} (h:CO Tryz.prog 217 cs): ∃m:Mb,cs=m.c∧m.fit:=by
 obtain⟨hl,hf⟩:=xE Tryz.underlying217 h
 rw[Co] at hl
 obtain⟨a,b,c,rfl⟩:=aU7 hl
 simp[Bs,N8,yD] at hf
 obtain⟨h0,h1,h2⟩:=hf
 obtain⟨x,h0,hx⟩:=B6 Tryz.underlying3 h0
 obtain⟨y,h1,hy⟩:=B6 Tryz.underlying3 h1
 obtain⟨z,h2,hz⟩:=B6 Tryz.underlying3 h2
 cases h0;cases h1;cases h2
 exact⟨⟨x,y,z⟩,rfl,wf_i64 hx,wf_i64 hy,wf_i64 hz⟩
theorem aJV {xs:List (List V)} (hx: ∀x,x∈xs→CO Tryz.prog 207 x): ∃js:List J,xs=jv js∧ ∀j,j∈js→j.fit:=by
 induction xs with
 | nil => exact ⟨[], rfl, fun n hn => by cases hn⟩
 | cons x xs ih =>
   obtain⟨ns,rfl,hns⟩:=ih fun y hy=>hx y (List.mem_cons_of_mem _ hy)
   obtain⟨n,rfl,hn⟩:=Yc (hx x List.mem_cons_self)
   refine⟨n::ns,rfl,fun m hm=> ?_⟩
   rcases List.mem_cons.1 hm with rfl | hm
   ·exact hn
   ·exact hns m hm
theorem aO6 {xs:List (List V)} (hx: ∀x,x∈xs→CO Tryz.prog 217 x): ∃js:List Mb,xs=mv js∧ ∀j,j∈js→j.fit:=by
 induction xs with
 | nil => exact ⟨[], rfl, fun n hn => by cases hn⟩
 | cons x xs ih =>
   obtain⟨ns,rfl,hns⟩:=ih fun y hy=>hx y (List.mem_cons_of_mem _ hy)
   obtain⟨n,rfl,hn⟩:=Vh (hx x List.mem_cons_self)
   refine⟨n::ns,rfl,fun m hm=> ?_⟩
   rcases List.mem_cons.1 hm with rfl | hm
   ·exact hn
   ·exact hns m hm
theorem Rb {xs:List (List V)} {b n:Nat} (hl:xs.length*b≤n) (hb:1≤b):xs.length≤n:=Nat.le_trans (Nat.le_mul_of_pos_right _ hb) hl
theorem Ks {cs:List V} (h:CO Tryz.prog 71 cs): ∃s:Str,cs=s.c∧s.fit:=by
 obtain⟨hl,hf⟩:=xE Tryz.underlying71 h
 rw[I8] at hl
 obtain⟨a,b,rfl⟩:=aU6 hl
 simp[Dt,W9] at hf
 obtain⟨h0,h1⟩:=hf
 obtain⟨x,h0,hx,hlx⟩:=Z8 Tryz.underlying68 h0
 obtain⟨y,h1,hy,hly⟩:=Z8 Tryz.underlying69 h1
 cases h0;cases h1
 obtain⟨js,rfl,hjs⟩:=aJV hx
 obtain⟨ms,rfl,hms⟩:=aO6 hy
 exact⟨⟨js,ms⟩,rfl,by simpa using Rb hlx Bv,by simpa using Rb hly S3,fun j hj=>(hjs j hj).1,hjs,hms⟩

def szR (r:RT) (left:Int):Int:=if less left r.m.length<0 then -1 else less (less left r.m.length) r.d.length
def aXR (s:SP) (left:Int):Int:=if szR s.lo left<0 then -1 else szR s.hi (szR s.lo left)
theorem Aq (neg:Bool) (m:List Int) (hm:m.length≤140737488351232):RO Tryz.prog 207 [.agg [.bool neg,.sl (iv m)],.agg [.bool neg,.sl (iv m)]] (.bool true):=by
 refine aJ Tryz.func207 rfl rfl (by rw[Tryz.ntmps207];simp) fun bl=> ?_
 rw[Tryz.ntmps207,Tryz.results207]
 refine aC ?_
 simp
 intro g1 hg1 hb1 g2 hg2 h21 hb2
 try simp[h21,Ne.symm h21]
 refine aD (R3 m m hm) ?_
 simp
 exact aK [.bool true] 0 (by simp) rfl (by simp[hb1,hb2])
theorem Ry (r:RT) (hr:r.le 140737488351232):RO Tryz.prog 130 [.agg r.c,.agg r.c] (.bool true):=by
 refine aJ Tryz.func130 rfl rfl (by rw[Tryz.ntmps130];simp) fun bl=> ?_
 rw[Tryz.ntmps130,Tryz.results130]
 refine aC ?_
 simp[RT.c]
 intro g1 hg1 hb1 g2 hg2 h21 hb2
 try simp[h21,Ne.symm h21]
 refine aD (Aq r.neg r.m hr.1) ?_
 simp[h21,Ne.symm h21]
 refine aD (R3 r.d r.d hr.2) ?_
 simp
 exact aK [.bool true] 0 (by simp) rfl (by simp[hb1,hb2])

def dB (neg:Bool) (m:List Int):List D:= [.c (.bool neg),fl 1 (iv m)]
def dR (r:RT):List D:= [.c (.bool r.neg),fl 1 (iv r.m),fl 1 (iv r.d)]
theorem Qk {bl:Int→Option Blk} {neg:Bool} {m:List Int} {v:V} {gs:List Int} :OwnD bl (.a (dB neg m)) v gs ↔ ∃vm,v= .agg [.bool neg,vm]∧OwnD bl (fl 1 (iv m)) vm gs:=by
 rw[OwnD];unfold dB
 constructor
 ·rintro⟨vs,rfl,h⟩
  rw[OwnL] at h
  obtain⟨v,vs',g1,g2,rfl,rfl,_,h1,h2⟩:=h
  rw[OwnD] at h1
  obtain⟨rfl,_,rfl⟩:=h1
  obtain⟨w,rfl⟩: ∃w,vs'= [w]:=by
   have:=h2.length
   match vs',this with
   | [w], _ => exact ⟨w, rfl⟩
  exact⟨w,rfl,pK.1 h2⟩
 ·rintro⟨vm,rfl,h⟩
  exact⟨_,rfl,jB (H3 _) (pK.2 h) (fun x hx=>by cases hx)⟩
theorem uU {bl:Int→Option Blk} {r:RT} {vs:List V} {gs:List Int} :OwnL bl (dR r) vs gs ↔ ∃vm vd gm gd,vs= [.bool r.neg,vm,vd]∧gs=gm++gd∧(∀g,g∈gm→g∉gd)∧OwnD bl (fl 1 (iv r.m)) vm gm∧OwnD bl (fl 1 (iv r.d)) vd gd:=by
 unfold dR
 constructor
 ·intro h
  rw[OwnL] at h
  obtain⟨v,vs',g1,g2,rfl,rfl,_,h1,h2⟩:=h
  rw[OwnD] at h1
  obtain⟨rfl,_,rfl⟩:=h1
  obtain⟨vm,vd,gm,gd,rfl,rfl,hd,h3,h4⟩:=iF.1 h2
  exact⟨vm,vd,gm,gd,rfl,rfl,hd,h3,h4⟩
 ·rintro⟨vm,vd,gm,gd,rfl,rfl,hd,h3,h4⟩
  exact jB (g1:= []) (g2:=gm++gd) (H3 _) (iF.2 ⟨vm,vd,gm,gd,rfl,rfl,hd,h3,h4⟩) (fun x hx=>by cases hx)
theorem Tf {bl:Int→Option Blk} {r:RT} {v:V} {gs:List Int} :OwnD bl (.a (dR r)) v gs ↔ ∃vm vd gm gd,v= .agg [.bool r.neg,vm,vd]∧gs=gm++gd∧(∀g,g∈gm→g∉gd)∧OwnD bl (fl 1 (iv r.m)) vm gm∧OwnD bl (fl 1 (iv r.d)) vd gd:=by
 rw[OwnD]
 constructor
 ·rintro⟨vs,rfl,h⟩
  obtain⟨vm,vd,gm,gd,rfl,h2⟩:=uU.1 h
  exact⟨vm,vd,gm,gd,rfl,h2⟩
 ·rintro⟨vm,vd,gm,gd,rfl,h2⟩
  exact⟨_,rfl,uU.2 ⟨vm,vd,gm,gd,rfl,h2⟩⟩
theorem aLM (r:RT):D.fzL (dR r)=r.c:=by simp[dR,D.fzL,D.fz,RT.c]
theorem aCC (r:RT) (n:Nat):D.depL (n+1) (dR r):=by simp[dR,D.depL,D.dep,iZ]
theorem aQS (r:RT):D.scL (dR r)=true:=by simp[dR,D.scL,D.sc,V.ow,aPU]
theorem Zz {bl:Int→Option Blk} {g:Int} (hg:bl g=none) (b:Option Blk): ∀x y,bl x=some y→upd bl g b x=some y:=fun x y hx=>by rw[aA,if_neg (fun e=>by rw[e,hg] at hx;cases hx)];exact hx
def mkR (k:Nat) (r:RT):RT:=⟨r.neg,marks k r.m.length,marks (k+r.m.length:Nat) r.d.length⟩
def aOL (k:Nat) (r:RT):Nat:=k+r.m.length+r.d.length
def dS (s:SP):List D:=dR s.lo++(dR s.hi++ [.c (.bool s.nl),.c (.bool s.nh)])
def aYG (k:Nat) (s:SP):Nat:=aOL (aOL k s.lo) s.hi

theorem SP.Jc {s:SP} {k l:Nat} (h:s.le k) (hkl:k≤l):s.le l:=⟨⟨by have:=h.1.1;omega,by have:=h.1.2;omega⟩,by have:=h.2.1;omega,by have:=h.2.2;omega⟩
theorem RT.Jc {s:RT} {k l:Nat} (h:s.le k) (hkl:k≤l):s.le l:=⟨by have:=h.1;omega,by have:=h.2;omega⟩

def rv (rs:List RT):List (List V):=rs.map RT.c
@[simp] theorem N9 (rs : List RT) : (rv rs).length = rs.length := by simp [rv]
@[simp] theorem aSB (rs : List RT) (i : Nat) (h : i < (rv rs).length) : (rv rs)[i] = (rs[i]'(by simpa using h)).c := by simp [rv]
def dRs (rs:List RT):D:= .s 3 (rs.map dR)
theorem Rp (rs:List RT):(dRs rs).fz= .sl (rv rs):=by
 unfold dRs rv
 rw[D.fz,zP,List.map_map]
 congr 1
 refine List.map_congr_left fun r _=> ?_
 show List.map D.fz (dR r)=r.c
 rw[←uT,aLM]
theorem Ja (rs:List RT) (n:Nat):(dRs rs).dep (n+2):=by
 unfold dRs
 rw[D.dep]
 refine⟨by omega,?_⟩
 induction rs with
 | nil => simp [D.depR]
 | cons r rs ih => simp only [List.map_cons, D.depR]; exact ⟨aCC r _, ih⟩
theorem aDY (rs:List RT):(dRs rs).sc=true:=by
 unfold dRs
 rw[D.sc]
 induction rs with
 | nil => simp [D.scR]
 | cons r rs ih => simp only [List.map_cons, D.scR, aQS, ih]; rfl
theorem U9 {bl:Int→Option Blk} {rs:List RT} {v:V} {gs:List Int} (h:OwnD bl (dRs rs) v gs) (n:Nat):frz bl (n+2) v=some (.sl (rv rs)):=by
 rw[h.frz (Ja rs n),Rp]
theorem xL {bl:Int→Option Blk} {rs:List RT} {v:V} {gs:List Int} :OwnD bl (dRs rs) v gs ↔ (rs= []∧v= .nils∧gs= [])∨ ∃g els gs',v= .lsl g 3 0 rs.length∧gs=g::gs'∧g∉gs'∧bl g=some ⟨3,els⟩∧(g<0→els= [])∧OwnR bl 3 (rs.map dR) els gs':=by
 unfold dRs
 rw[OwnD]
 constructor
 ·rintro(⟨h1,h2,h3⟩| ⟨g,els,gs',h1,h2,h3,h4,h5,h6⟩)
  ·exact .inl ⟨by simpa using h1,h2,h3⟩
  ·exact .inr ⟨g,els,gs',by simpa using h1,h2,h3,h4,h5,h6⟩
 ·rintro(⟨h1,h2,h3⟩| ⟨g,els,gs',h1,h2,h3,h4,h5,h6⟩)
  ·exact .inl ⟨by simpa using h1,h2,h3⟩
  ·exact .inr ⟨g,els,gs',by simpa using h1,h2,h3,h4,h5,h6⟩
theorem Vn {bl:Int→Option Blk} {rs:List RT} {v:V} {gs:List Int} (h:OwnD bl (dRs rs) v gs):v.one=true∧v.cells= [v]:=by
 rcases xL.1 h with ⟨_,rfl,_⟩| ⟨g,els,gs',rfl,_⟩<;>exact⟨rfl,rfl⟩
def szTo :List RT→Int→Int
 | [], left => left
 | r :: rs, left => if szR r left < 0 then -1 else szTo rs (szR r left)
def aYH (rs:List RT) (left:Int):Int:=if less left rs.length<0 then -1 else szTo rs (less left rs.length)
def Bm (rs:List RT) (k:Nat):Prop:=rs.length≤k∧ ∀r,r∈rs→r.le k
def wK (rs:List RT):Nat:=(rs.map fun r=>r.m.length+r.d.length).sum
theorem Nb (rs:List RT) (hq:Bm rs 1048576):RO Tryz.prog 61 [.sl (rv rs),.sl (rv rs)] (.bool true):=by
 have hw:=hq.1
 refine aJ Tryz.func61 rfl rfl (by rw[Tryz.ntmps61];simp) fun bl=> ?_
 rw[Tryz.ntmps61,Tryz.results61]
 refine aC ?_
 simp
 refine aI (fun i:Nat=> [(0,.sl (rv rs)),(1,.sl (rv rs)),(5,.int .i64 i)]) (fun _=>bl) (fun i=>i≤rs.length) (fun i=>rs.length - i) _ 0 (Nat.zero_le _) ⟨rfl,by simp,Sub.refl _⟩ ?_
 intro i hi
 refine aC ?_
 simp
 refine⟨fun h1=> ?_,fun h1=> ?_⟩
 ·refine cI aL (by kernel_rfl) ?_
  simp[h1,RT.c]
  refine aN (Ry rs[i] (RT.Jc (hq.2 _ (List.getElem_mem h1)) (by omega))) ?_
  simp (disch:=omega) [i64_in,aB]
  exact⟨i+1,by omega,by omega,rfl,by simp,Sub.refl _⟩
 ·exact aS (by simp) rfl rfl
def mkQ (k:Nat) (r:RT):RT:=⟨(k:Int).tmod 3==0,marks (k+1:Nat) r.m.length,marks (k+1+r.m.length:Nat) r.d.length⟩
def yX (k:Nat) (r:RT):Nat:=k+1+r.m.length+r.d.length
def mkQs :Nat→List RT→List RT
 | _, [] => []
 | k, r :: rs => mkQ k r :: mkQs (yX k r) rs
def fQ (k:Nat) (rs:List RT):Nat:=rs.foldl yX k
@[simp] theorem yI : ∀ (k : Nat) (rs : List RT), (mkQs k rs).length = rs.length
 | _, [] => rfl
 | k, r :: rs => by rw [mkQs, List.length_cons, List.length_cons, yI]
theorem qH (k:Nat) (rs:List RT) (i:Nat) (h:i<rs.length):fQ k (rs.take (i+1))=yX (fQ k (rs.take i)) rs[i]:=by
 unfold fQ
 rw[List.take_add_one,List.getElem?_eq_getElem h,Option.toList_some,List.foldl_append];rfl
theorem V9 : ∀(k:Nat) (rs:List RT) (i:Nat) (h:i<rs.length),(mkQs k rs)[i]'(by rw[yI];exact h)=mkQ (fQ k (rs.take i)) rs[i]
 | k, r :: rs, 0, h => rfl
 | k, r :: rs, i + 1, h => by
   simp only[mkQs,List.getElem_cons_succ]
   rw[V9 (yX k r) rs i (by simpa using h)]
   rfl
theorem lV : ∀(k:Nat) (rs:List RT),fQ k rs=k+rs.length+wK rs
 | k, [] => by simp [fQ, wK]
 | k, r :: rs => by
   have:=lV (yX k r) rs
   have e:fQ k (r::rs)=fQ (yX k r) rs:=rfl
   have e2:wK (r::rs)=(r.m.length+r.d.length)+wK rs:=by unfold wK;rw[List.map_cons,List.sum_cons]
   rw[e,this,e2,List.length_cons]
   unfold yX
   omega
theorem tT (k:Nat) (rs:List RT) (i:Nat):fQ k (rs.take i)≤fQ k rs:=by
 rw[lV,lV]
 have h1:(rs.take i).length≤rs.length:=List.length_take_le' i rs
 have h2:wK rs=wK (rs.take i)+wK (rs.drop i):=by
  unfold wK
  rw[←List.sum_append,←List.map_append,List.take_append_drop]
 omega
structure Mk where
 i:Nat
 els:List (List V)
 b:Int→Option Blk
theorem Md (k:Nat) (rs:List RT) (i:Nat) (h:i<rs.length):((mkQs k rs).take (i+1)++rs.drop (i+1)).map dR=(((mkQs k rs).take i++rs.drop i).map dR).set i (dR (mkQ (fQ k (rs.take i)) rs[i])):=by
 have h2:i<(mkQs k rs).length:=by simpa using h
 rw[List.take_add_one,List.getElem?_eq_getElem h2,V9 k rs i h,Option.toList_some,List.drop_eq_getElem_cons h]
 simp only[List.map_append,List.map_cons,List.map_nil]
 rw[List.set_append_right _ _ (by simp;omega)]
 simp[show min i rs.length=i by omega]
theorem Bu {bl:Int→Option Blk} {K:V→(Int→Option Blk)→Prop} (rs:List RT) (k:Nat) (v:V) (gs:List Int) (h:OwnD bl (dRs rs) v gs) (hk:fQ k rs≤4611686018427387000)
  (hK: ∀bl',OwnD bl' (dRs (mkQs k rs)) v gs→(∀g,g∉gs→ ∀b,bl g=some b→bl' g=some b)→K (.int .i64 (fQ k rs:Nat)) bl'):cH Tryz.prog 62 [v,.int .i64 k] bl K:=by
 refine cP Tryz.func62 rfl rfl (by rw[Tryz.ntmps62];simp) ?_
 rw[Tryz.ntmps62,Tryz.results62]
 refine aC ?_
 rcases xL.1 h with ⟨rfl,rfl,rfl⟩| ⟨g,els,gs',rfl,rfl,hg,hb,cO,ho⟩
 ·simp
  refine aI (fun _:Unit=> [(0,.nils),(1,.int .i64 k),(5,.int .i64 0)]) (fun _=>bl) (fun _=>True) (fun _=>0) _ () trivial ⟨rfl,by simp,Sub.refl _⟩ ?_
  intro _ _
  refine aC ?_
  simp
  rw[cE]
  refine⟨[.int .i64 k],by simp,?_⟩
  exact hK bl (xL.2 (.inl ⟨rfl,rfl,rfl⟩)) (fun _ _ _ h=>h)
 ·have hlen:=OwnR.length ho
  simp at hlen
  simp
  refine aI (fun p:Mk=> [(0,.lsl g 3 0 rs.length),(1,.int .i64 (fQ k (rs.take p.i):Nat)),(5,.int .i64 p.i)]) (fun p=>p.b)
   (fun p=>p.i≤rs.length∧p.els.length=rs.length∧p.b g=some ⟨3,p.els⟩∧OwnR p.b 3 (((mkQs k rs).take p.i++rs.drop p.i).map dR) p.els gs'∧(∀x,x∉g::gs'→ ∀y,bl x=some y→p.b x=some y))
   (fun p=>rs.length - p.i) 38 ⟨0,els,bl⟩ ⟨Nat.zero_le _,hlen,hb,by simpa using ho,fun x _ y h=>h⟩ ⟨rfl,by simp[fQ],Sub.refl _⟩ ?_
  rintro⟨i,els,b⟩ ⟨hi,hel,hbg,hor,hfr⟩
  simp only at hi hel hbg hor hfr
  refine aC ?_
  simp
  have hle:=tT k rs i
  have hsm:=lV k rs
  refine⟨fun h1=> ?_,fun h1=> ?_⟩
  ·have hge:0≤g:=by
    rcases Int.lt_or_le g 0 with hlt | hge
    ·have h2:=cO hlt;subst h2;simp at hlen;omega
    ·exact hge
   have hrl:((mkQs k rs).take i++rs.drop i).length=rs.length:=by simp;omega
   have hri:((mkQs k rs).take i++rs.drop i)[i]'(by omega)=rs[i]:=by
    rw[List.getElem_append_right (by simp;omega)]
    simp[show min i rs.length=i by omega]
   obtain⟨e,gi,a1,a2,a3,a4,a5,a6⟩:=hor.at i (by simpa using (by omega:i<((mkQs k rs).take i++rs.drop i).length))
   rw[List.getElem_map,hri] at a2
   obtain⟨vm,vd,gm,gd,rfl,rfl,hd,om,od⟩:=uU.1 a2
   have c1:=om.one.1
   have d1:=od.one.1
   have hs:=qH k rs i h1
   have aBE:=tT k rs (i+1)
   have hst:=Md k rs i h1
   generalize fQ k (rs.take i)=q at *
   have hr:rs[i].m.length+rs[i].d.length+q<4611686018427387904:=by unfold yX at hs;omega
   have hil:i<els.length:=by omega
   have ea:els[i]= [.bool rs[i].neg,vm,vd]:=by
    rw[List.getElem?_eq_getElem hil] at a1;exact Option.some.inj a1
   have gi1:g∉gm:=fun hh=>hg (a5 g (List.mem_append_left _ hh))
   have gi2:g∉gd:=fun hh=>hg (a5 g (List.mem_append_right _ hh))
   simp[h1,hbg,hil,ea,c1,d1]
   simp (disch:=omega) [i64_in]
   obtain⟨m3,hm3⟩: ∃m3,((q:Int).tmod 3==0)=m3:=⟨_,rfl⟩
   rw[hm3,show(q:Int)+1=(q+1:Nat) by simp]
   have aT5:q+1+rs[i].m.length+rs[i].d.length≤fQ k rs:=by unfold yX at hs;omega
   obtain⟨Lw,he2⟩: ∃e,els.set i [.bool m3,vm,vd]=e:=⟨_,rfl⟩
   have ei2:Lw[i]? =some [.bool m3,vm,vd]:=by rw[←he2,List.getElem?_set_self hil]
   have el2:Lw.length=rs.length:=by rw[←he2,List.length_set,hel]
   have es2:Lw.set i [.bool m3,vm,vd]=Lw:=by rw[←he2,List.set_set]
   rw[he2]
   refine yU rs[i].m (q+1:Nat) vm gm (om.frame fun x hx=>by simp[show x≠g from fun e=>gi1 (e▸hx)]) (by omega) fun b1 om1 k1=> ?_
   have eb1:b1 g=some ⟨3,Lw⟩:=by rw[k1 g gi1];simp
   simp[h1,eb1,ei2]
   rw[show(q:Int)+1+rs[i].m.length=(q+1+rs[i].m.length:Nat) by simp]
   refine yU rs[i].d (q+1+rs[i].m.length:Nat) vd gd (od.frame fun x hx=>by
    rw[k1 x (fun hh=>hd x hh hx)]
    simp[show x≠g from fun e=>gi2 (e▸hx)]) (by omega) fun b2 od2 k2=> ?_
   simp (disch:=omega) [i64_in,aB]
   refine⟨⟨i+1,Lw,b2⟩,⟨by simp only;omega,el2,by simp only;rw[k2 g gi2];exact eb1,?_,fun x hx1 hx2 y hy=> ?_⟩,by simp only;omega,rfl,by simp[hs,yX],Sub.refl _⟩
   ·have:=a6 b2 (dR (mkQ q rs[i])) [.bool m3,vm,vd] (uU.2 ⟨vm,vd,gm,gd,by simp[mkQ,hm3],rfl,hd,om1.frame fun x hx=>k2 x (hd x hx),od2⟩) rfl (by simp[c1,d1]) (fun x hx hn y hy=>by
     simp at hn
     rw[k2 x hn.2,k1 x hn.1,aA,if_neg (fun e:x=g=>hg (e▸hx))];exact hy)
    rw[he2,←hst] at this
    simpa using this
   ·show b2 x=some y
    rw[k2 x (fun h=>hx2 (a5 x (List.mem_append_right _ h))),k1 x (fun h=>hx2 (a5 x (List.mem_append_left _ h))),aA,if_neg hx1]
    exact hfr x (by simp[hx1,hx2]) y hy
  ·have:i=rs.length:=by omega
   subst this
   rw[cE]
   refine⟨[.int .i64 (fQ k rs:Nat)],by simp,?_⟩
   have ht:(mkQs k rs).take rs.length=mkQs k rs:=List.take_of_length_le (by simp)
   simp only[ht,List.drop_length,List.append_nil] at hor
   exact hK _ (xL.2 (.inr ⟨g,els,gs',by simp,rfl,hg,hbg,fun hn=>by have:=cO hn;subst this;simp at hlen;exact List.eq_nil_of_length_eq_zero (by omega),hor⟩)) hfr
theorem Dn (rs:List RT) (k:Nat) (hk:fQ k rs≤4611686018427387000):RO Tryz.prog 63 [.sl (rv (mkQs k rs)),.int .i64 k] (.int .i64 (fQ k rs:Nat)):=by
 refine aJ Tryz.func63 rfl rfl (by rw[Tryz.ntmps63];simp) fun bl=> ?_
 rw[Tryz.ntmps63,Tryz.results63]
 refine aC ?_
 simp
 refine aI (fun i:Nat=> [(0,.sl (rv (mkQs k rs))),(1,.int .i64 (fQ k (rs.take i):Nat)),(5,.int .i64 i)]) (fun _=>bl) (fun i=>i≤rs.length) (fun i=>rs.length - i) _ 0 (Nat.zero_le _) ⟨rfl,by simp[fQ],Sub.refl _⟩ ?_
 intro i hi
 refine aC ?_
 simp
 refine⟨fun h1=> ?_,fun h1=> ?_⟩
 ·have hsm:=lV k rs
  have hs:=qH k rs i h1
  have aBE:=tT k rs (i+1)
  have hat:=V9 k rs i h1
  generalize fQ k (rs.take i)=q at *
  have aT5:q+1+rs[i].m.length+rs[i].d.length≤fQ k rs:=by unfold yX at hs;omega
  simp[h1,hat,mkQ,RT.c]
  simp (disch:=omega) [i64_in]
  refine aD (xV rs[i].m.length ((q:Int)+1) (by omega)) ?_
  simp[h1,hat,mkQ,RT.c]
  refine⟨fun h=>by omega,fun h=> ?_⟩
  refine aD (xV rs[i].d.length ((q:Int)+1+rs[i].m.length) (by omega)) ?_
  simp[h1,hat,mkQ,RT.c]
  refine⟨fun h=>by omega,fun h=> ?_⟩
  simp (disch:=omega) [i64_in,aB]
  refine⟨i+1,by omega,by omega,rfl,by simp[hs,yX],Sub.refl _⟩
 ·have:i=rs.length:=by omega
  subst this
  exact aS (by simp) rfl rfl

theorem Of (n:Int) (hn:(lim n.natAbs).length≤60):NW Tryz.prog 173 [.agg (biC n)] (.a (dB (decide (n<0)) (lim n.natAbs))):=by
 refine fU Tryz.func173 rfl rfl (by rw[Tryz.ntmps173];simp) fun bl=> ?_
 rw[Tryz.ntmps173,Tryz.results173]
 refine aC ?_
 rw[bW]
 simp
 intro g1 hg1 hb1 g2 hg2 h21 hb2
 try simp[h21,Ne.symm h21]
 refine⟨fun h=>by omega,fun h=> ?_⟩
 try simp[h21,Ne.symm h21]
 refine aY aL (upd bl g1 (some ⟨2,[[.bool (decide (n<0)),.sl (iv (lim n.natAbs))]]⟩)) (by simp[h21,hb2]) [0,1,2,3] 3 (by kernel_rfl) ?_
 simp[h21,Ne.symm h21]
 refine Dz 4 ?_
 simp[h21,Ne.symm h21]
 refine bU (nL (lim n.natAbs) (by omega)) fun v gs b o f fr=> ?_
 obtain⟨c1,c2⟩:=o.one
 have e1: ∀x,x∈gs→x≠g1∧x≠g2∧bl x=none:=fun x hx=>by have:=f x hx;simp[aA] at this;grind
 have n1:b g1=_:=fr g1 fun h=>(e1 g1 h).1 rfl
 have n2:b g2=_:=fr g2 fun h=>(e1 g2 h).2.1 rfl
 simp[h21,Ne.symm h21] at n1 n2
 have hs:Sub bl b:=fun x y hy=>by
  have z1:x≠g1:=fun h=>by rw[h,hb1] at hy;cases hy
  have z2:x≠g2:=fun h=>by rw[h,hb2] at hy;cases hy
  exact bI f fr (by simp[aA,z1,z2,hy])
 have hs1:Sub (upd bl g1 (some ⟨2,[[.bool (decide (n<0)),.sl (iv (lim n.natAbs))]]⟩)) b:=fun x y hy=>by
  rw[aA] at hy
  split at hy
  ·rename_i h;subst h;rw[n1];exact hy
  ·exact hs x y hy
 refine⟨hs1,Dz 5 ?_⟩
 simp[h21,Ne.symm h21,n1,n2,c1,c2]
 refine⟨hs1,Dz 6 ?_⟩
 simp[h21,Ne.symm h21,n1,n2,c1,c2]
 refine⟨hs1.upd (by simp[h21,hb2]) _,Dy ?_⟩
 simp[h21,Ne.symm h21,n1,n2,c1,c2]
 refine dI [.agg [.bool (decide (n<0)),v]] gs (by simp[c1,n1,n2]) ?_ (fun x hx=>(e1 x hx).2.2) (hs.upd hb2 _)
 exact Qk.2 ⟨v,rfl,o.frame fun x hx=>by simp[aA,(e1 x hx).2.1]⟩
theorem Rj (x:Option Rat) (hx:okQ x):NW Tryz.prog 95 [fv x] (.a (dR (ro x))):=by
 cases x with
 | none =>
   refine fU Tryz.func95 rfl rfl (by rw[Tryz.ntmps95];simp) fun bl=> ?_
   rw[Tryz.ntmps95,Tryz.results95]
   refine aC ?_
   simp[fv]
   intro g2 hg2 hb2
   refine dI [.agg [.bool false,.nils,.nils]] [] (by simp) ?_ (by simp) (by simp[hb2])
   exact Tf.2 ⟨.nils,.nils,[],[],rfl,rfl,by simp,dP.2 (.inl ⟨rfl,rfl,rfl⟩),dP.2 (.inl ⟨rfl,rfl,rfl⟩)⟩
 | some q =>
   have hf:=hx q rfl
   have hl:=hf.1
   have hl2:=hf.2
   refine fU Tryz.func95 rfl rfl (by rw[Tryz.ntmps95];simp) fun bl=> ?_
   rw[Tryz.ntmps95,Tryz.results95]
   refine aC ?_
   rw[show fv (some q)= .ptr (rq q).c from rfl,iJ]
   simp
   intro g2 hg2 hb2
   refine aY aL bl (by simp[hb2]) [0,1,2,3,5,6,7,8] 4 (by kernel_rfl) ?_
   simp
   refine Dz 4 ?_
   simp
   have hfw:=Of q.num (by omega)
   rw[bW] at hfw
   refine bU hfw fun v gs b o f fr=> ?_
   obtain⟨vm,rfl,om⟩:=Qk.1 o
   obtain⟨c1,c2⟩:=om.one
   have e1: ∀x,x∈gs→x≠g2∧bl x=none:=fun x hx=>by have:=f x hx;simp[aA] at this;exact this
   have n2:b g2=_:=fr g2 fun h=>(e1 g2 h).1 rfl
   simp at n2
   have hs:Sub bl b:=fun x y hy=>by
    have z2:x≠g2:=fun h=>by rw[h,hb2] at hy;cases hy
    exact bI f fr (by simp[aA,z2,hy])
   refine⟨hs,Dz 9 ?_⟩
   simp
   refine bU (nL (lim q.den) (by omega)) fun w gw b2 ow f2 fr2=> ?_
   obtain⟨d1,d2⟩:=ow.one
   have m2:b2 g2=_:=bI f2 fr2 n2
   have hs2:Sub bl b2:=fun x y hy=>bI f2 fr2 (hs x y hy)
   have e3: ∀x,x∈gw→x≠g2:=fun x hx h=>by have:=f2 x hx;rw[h,n2] at this;cases this
   have e4: ∀x,x∈gs→x∉gw:=fun x hx h=>by
    obtain⟨y,hy⟩:=om.has x hx
    rw[f2 x h] at hy;cases hy
   refine⟨hs2,Dz 10 ?_⟩
   simp[m2,c1,c2,d1,d2]
   refine⟨hs2,Dz 11 ?_⟩
   simp[m2,c1,c2,d1,d2]
   refine⟨hs2.upd hb2 _,Dy ?_⟩
   simp[m2,c1,c2,d1,d2]
   refine dI [.agg [.bool (decide (q.num<0)),vm,w]] (gs++gw) (by simp[c1,d1,m2]) ?_ (fun x hx=> ?_) (hs2.upd hb2 _)
   ·refine Tf.2 ⟨vm,w,gs,gw,rfl,rfl,e4,om.frame fun x hx=> ?_,ow.frame fun x hx=> ?_⟩
    ·simp only[aA];rw[if_neg (e1 x hx).1];exact fr2 x (e4 x hx)
    ·simp only[aA];rw[if_neg (e3 x hx)]
   ·rcases List.mem_append.1 hx with hx | hx
    ·exact(e1 x hx).2
    ·exact aR hs (f2 x hx)
def dT (r:RT) (b:Bool):D:= .t [.a (dR r),.c (.bool b)]
def aYX (s:SP):Option Rat:=if aVS s && !s.nl && !s.nh then op2 (· - ·) (rd s.hi) (rd s.lo) else none
theorem ro_le {x:Option Rat} (h:okQ x):(ro x).m.length≤24∧(ro x).d.length≤24:=by
 cases x with
 | none => simp [ro, rz]
 | some q => exact h q rfl

def fvs (xs:List (Option Rat)):List (List V):=xs.map fun x=> [fv x]
@[simp] theorem aD0 (xs : List (Option Rat)) : (fvs xs).length = xs.length := by simp [fvs]
@[simp] theorem aQN (xs : List (Option Rat)) (i : Nat) (h : i < (fvs xs).length) : (fvs xs)[i] = [fv (xs[i]'(by simpa using h))] := by simp [fvs]
@[simp] theorem aW5 (x : Option Rat) : (fv x).cl = true := by cases x <;> rfl
@[simp] theorem aWN (x : Option Rat) : (fv x).one = true := by cases x <;> rfl
@[simp] theorem aPB (x : Option Rat) : (fv x).cells = [fv x] := by cases x <;> rfl
theorem Tn (xs:List (Option Rat)):(fvs xs).all (fun r=>r.all V.cl)=true:=by simp[fvs]
theorem Al (xs:List (Option Rat)): ∀r,r∈fvs xs→r.length=1:=by
 intro r hr
 obtain⟨n,_,rfl⟩:=List.mem_map.1 hr
 rfl
theorem S2 {bl:Int→Option Blk} {xs:List (Option Rat)} {v:V} {gs:List Int} :OwnD bl (fl 1 (fvs xs)) v gs ↔ (xs= []∧v= .nils∧gs= [])∨ ∃g,v= .lsl g 1 0 xs.length∧gs= [g]∧bl g=some ⟨1,fvs xs⟩∧(g<0→xs= []):=by
 rw[oP (Tn xs) (Al xs)]
 simp[fvs]
def okL (xs:List (Option Rat)):Prop:= ∀x,x∈xs→okQ x
def dL (xs:List (Option Rat)) (b:Bool):D:= .t [fl 1 (fvs xs),.c (.bool b)]
theorem oY {bl:Int→Option Blk} {d:D} {b:Bool} {v:V} {gs:List Int} :OwnD bl (.t [d,.c (.bool b)]) v gs ↔ ∃w,v= .tup [w,.bool b]∧OwnD bl d w gs:=by
 rw[OwnD]
 constructor
 ·rintro⟨vs,rfl,h⟩
  obtain⟨v,w,g1,g2,rfl,rfl,hd,h1,h2⟩:=iF.1 h
  rw[OwnD] at h2
  obtain⟨rfl,_,rfl⟩:=h2
  exact⟨v,rfl,by simpa using h1⟩
 ·rintro⟨w,rfl,h⟩
  exact⟨_,rfl,iF.2 ⟨w,.bool b,gs,[],rfl,by simp,fun x hx h=>(by cases h),h,H3 b⟩⟩
def lO (rs:List RT):Bool:=rs.all fun r=>(rd r).isSome
def bD (rs:List RT):List (Option Rat):=rs.map rd
@[simp] theorem Yp (rs : List RT) : (bD rs).length = rs.length := by simp [bD]
theorem G9 (rs:List RT):okL (bD rs):=by
 intro x hx
 obtain⟨r,_,rfl⟩:=List.mem_map.1 hx
 exact aD5 r
def Nz (rs:List RT):Bool:=decide (rs.length≤24)&& lO rs
def bJ (xs:List (Option Rat)):Bool:=xs.all Option.isSome
def bA (xs:List (Option Rat)):List RT:=xs.map ro
@[simp] theorem W0 (xs : List (Option Rat)) : (bA xs).length = xs.length := by simp [bA]
def stQ (xs:List (Option Rat)):List RT:=if bJ xs=true then bA xs else []
def dV (rs:List RT) (b:Bool):D:= .t [dRs rs,.c (.bool b)]
theorem aDN (rs:List RT) (b:Bool) (n:Nat):(dV rs b).dep (n+3):=by
 unfold dV;rw[D.dep];exact⟨by omega,by simp[D.depL,D.dep,Ja]⟩
theorem aOQ (rs:List RT) (b:Bool):(dV rs b).fz= .tup [.sl (rv rs),.bool b]:=by simp[dV,D.fz,D.fzL,Rp]
theorem aAY (rs:List RT) (b:Bool):(dV rs b).sc=true:=by simp[dV,D.sc,D.scL,aDY,V.ow]
theorem Oj {bl:Int→Option Blk} {rs:List RT} {b:Bool} {v:V} {gs:List Int} (h:OwnD bl (dV rs b) v gs): ∃w,v= .tup [w,.bool b]∧OwnD bl (dRs rs) w gs∧w.one=true∧w.cells= [w]:=by
 obtain⟨w,rfl,o⟩:=oY.1 h
 exact⟨w,rfl,o,Vn o⟩
theorem zX {bl:Int→Option Blk} (b:Bool):OwnD bl (dV [] b) (.tup [.nils,.bool b]) []:=oY.2 ⟨.nils,rfl,xL.2 (.inl ⟨rfl,rfl,rfl⟩)⟩
theorem Kd (xs:List (Option Rat)) (hx:okL xs) (hw:xs.length≤1048576):NW Tryz.prog 73 [.sl (fvs xs)] (dV (stQ xs) (bJ xs)):=by
 refine fU Tryz.func73 rfl rfl (by rw[Tryz.ntmps73];simp) fun bl=> ?_
 rw[Tryz.ntmps73,Tryz.results73]
 refine aC ?_
 simp
 refine⟨by omega,by unfold maxLen;omega,fun g hg0 hg=> ?_⟩
 refine aI (fun p:aWP=> [(4,.lsl g 3 0 xs.length),(10,.sl (fvs xs)),(11,.int .i64 xs.length),(12,.int .i64 p.els.length)]) (fun p=>p.b)
  (fun p=>p.els.length≤xs.length∧(∀x,x∈xs.take p.els.length→x.isSome=true)∧p.b g=some ⟨3,p.els++List.replicate (xs.length - p.els.length) [.bool false,.nils,.nils]⟩∧OwnR p.b 3 (((bA xs).map dR).take p.els.length) p.els p.gs∧g∉p.gs∧(∀x,x∈p.gs→bl x=none)∧Sub bl p.b)
  (fun p=>xs.length - p.els.length) 26 ⟨[],[],upd bl g (some ⟨3,List.replicate xs.length [.bool false,.nils,.nils]⟩)⟩ ⟨Nat.zero_le _,by simp,by simp,by simp[OwnR],by simp,by simp,by simp[hg]⟩ ⟨rfl,by simp,by simp⟩ ?_
 rintro⟨els,gs,b⟩ ⟨hi,bH,hb,ho,hn,hf,hs⟩
 simp only at hi bH hb ho hn hf hs
 refine aC ?_
 simp
 refine⟨fun h=> ?_,fun h=> ?_⟩
 ·rcases ex:xs[els.length] with _ | q
  ·have hno:bJ xs=false:=by
    rw[Bool.eq_false_iff]
    intro hh
    have:=List.all_eq_true.1 hh xs[els.length] (List.getElem_mem h)
    rw[ex] at this;cases this
   have hst:stQ xs= []:=by unfold stQ;rw[hno];rfl
   simp[h,ex,fv]
   rw[hno,hst]
   refine dI [.nils,.bool false] [] (by simp) (zX _) (by simp) hs
  ·simp[h,ex,fv]
   have hq0:okQ (some q):=by rw[←ex];exact hx _ (List.getElem_mem h)
   have Tk:=Rj (some q) hq0
   rw[show fv (some q)= .ptr (rq q).c from rfl] at Tk
   refine bU Tk fun v gv b' o f fr=> ?_
   rw[OwnD] at o
   obtain⟨vs,rfl,o⟩:=o
   obtain⟨vm,vd,_,_,rfl,_,_,om,od⟩:=uU.1 o
   have c1:=om.one.1
   have d1:=od.one.1
   have hb':b' g=_:=bI f fr hb
   have hgv:g∉gv:=fun hh=>by have:=f g hh;rw[hb] at this;cases this
   simp[h,hb',Rr els [.bool false,.nils,.nils] xs.length h,c1,d1]
   simp (disch:=omega) [i64_in,aB]
   have gg:=Mu els [.bool false,.nils,.nils] [.bool (ro (some q)).neg,vm,vd] xs.length h
   refine⟨⟨els++ [[.bool (ro (some q)).neg,vm,vd]],gs++gv,upd b' g (some ⟨3,(els++ [[.bool (ro (some q)).neg,vm,vd]])++List.replicate (xs.length - (els++ [[V.bool (ro (some q)).neg,vm,vd]]).length) [.bool false,.nils,.nils]⟩)⟩,⟨by simp;omega,?_,by simp,?_,?_,?_,?_⟩,by simp;omega,rfl,by simp,sub_eq ?_⟩
   ·intro x hx
    simp only[List.length_append,List.length_singleton] at hx
    rw[List.take_add_one,List.getElem?_eq_getElem h] at hx
    rcases List.mem_append.1 hx with hx | hx
    ·exact bH x hx
    ·obtain rfl:x=xs[els.length]:=by simpa using hx
     rw[ex];rfl
   ·have h2:els.length<(bA xs).length:=by simpa using h
    have ht:((bA xs).map dR).take (els++ [[V.bool (ro (some q)).neg,vm,vd]]).length=((bA xs).map dR).take els.length++ [dR (ro (some q))]:=by
     rw[List.length_append,List.length_singleton,List.take_add_one,List.getElem?_map,List.getElem?_eq_getElem h2];simp[bA,ex]
    simp only
    rw[ht]
    refine OwnR.snoc (o.frame fun x hx=>by simp[show x≠g from fun e=>hgv (e▸hx)]) rfl (by simp[c1,d1]) (ho.cZ fun x hx y hy=> ?_) fun x hx hx2=> ?_
    ·rw[aA,if_neg (fun e=>hn (by rw[←e];exact hx))];exact bI f fr hy
    ·exact ho.not (f x hx2) hx
   ·simp only[List.mem_append];rintro(h | h)
    ·exact hn h
    ·exact hgv h
   ·intro x hx
    rcases List.mem_append.1 hx with hx | hx
    ·exact hf x hx
    ·exact aR hs (f x hx)
   ·exact Rz hg fun x y hy=>bI f fr (hs x y hy)
   ·exact congrArg (fun e=>upd b' g (some (Blk.mk 3 e))) gg
 ·have hl:els.length=xs.length:=by omega
  have Uu:bJ xs=true:=List.all_eq_true.2 fun x hx=>bH x (by rw[hl,List.take_length];exact hx)
  have hst:stQ xs=bA xs:=by unfold stQ;rw[Uu];rfl
  rw[Uu,hst]
  refine dI [.lsl g 3 0 xs.length,.bool true] (g::gs) (by simp) ?_ (by simpa [hg] using hf) hs
  refine oY.2 ⟨_,rfl,xL.2 (.inr ⟨g,els,gs,by simp,rfl,hn,?_,by omega,?_⟩)⟩
  ·show b g=_
   rw[hb,hl];simp
  ·rw[hl] at ho
   rw[List.take_of_length_le (by simp)] at ho
   exact ho
theorem F9 {bl:Int→Option Blk} {n:Nat} {x y:V} {b:Bool} (h:frz bl n x=some y):frz bl (n+1) (.tup [x,.bool b])=some (.tup [y,.bool b]):=by
 rw[V3]
 simp only[List.mapM_cons,List.mapM_nil,h,show frz bl n (.bool b)=some (.bool b) by cases n<;>simp[frz]]
 rfl
theorem Ig (rs:List RT):(rv rs).all (fun r=>r.all V.cl)=true:=by simp[rv,RT.c,V.cl]
theorem Kz (a b:List RT):rv (a++b)=rv a++rv b:=by simp[rv]
theorem Vs {zs:List (Option Rat)} (h:okL zs) (hl:zs.length≤1048576):Bm (stQ zs) 1048576∧wK (stQ zs)≤100000000:=by
 have hle: ∀r,r∈stQ zs→r.m.length≤24∧r.d.length≤24:=by
  intro r hr
  unfold stQ at hr
  split at hr
  ·obtain⟨x,hx,rfl⟩:=List.mem_map.1 hr
   exact ro_le (h x hx)
  ·cases hr
 have hn:(stQ zs).length≤zs.length:=by
  unfold stQ;split
  ·simp
  ·simp
 have hs:wK (stQ zs)≤48*(stQ zs).length:=by
  generalize stQ zs=rs at hle
  clear hn h hl
  unfold wK
  induction rs with
  | nil => simp
  | cons r rs ih =>
    rw[List.map_cons,List.sum_cons,List.length_cons]
    have h1:=hle r List.mem_cons_self
    have h2:=ih fun x hx=>hle x (List.mem_cons_of_mem _ hx)
    omega
 exact⟨⟨by omega,fun r hr=>⟨by have:=(hle r hr).1;omega,by have:=(hle r hr).2;omega⟩⟩,by omega⟩
theorem uD :okL [none]:=by
 intro x hx
 obtain rfl:x=none:=by simpa using hx
 intro q h;cases h

theorem nI (rs:List RT) (hq:Bm rs 1048576):RO Tryz.prog 211 [.sl (rv rs)] (.bool (lO rs)):=by
 have hw:=hq.1
 refine aJ Tryz.func211 rfl rfl (by rw[Tryz.ntmps211];simp) fun bl=> ?_
 rw[Tryz.ntmps211,Tryz.results211]
 refine aC ?_
 simp
 refine aI (fun i:Nat=> [(5,.sl (rv rs)),(6,.int .i64 rs.length),(7,.int .i64 i)]) (fun _=>bl) (fun i=>i≤rs.length∧ ∀r,r∈rs.take i→(rd r).isSome=true) (fun i=>rs.length - i) _ 0 ⟨Nat.zero_le _,by simp⟩ ⟨rfl,by simp,Sub.refl _⟩ ?_
 rintro i ⟨hi,bH⟩
 refine aC ?_
 simp
 refine⟨fun h=> ?_,fun h=> ?_⟩
 ·simp[h,RT.c]
  intro g2 hg2 hb2
  have hr:=hq.2 _ (List.getElem_mem h)
  refine aD (eK rs[i] (by have:=hr.1;omega) (by have:=hr.2;omega)) ?_
  simp
  refine⟨fun hok=> ?_,fun hok=> ?_⟩
  ·have hno:lO rs=false:=by
    rw[Bool.eq_false_iff]
    intro hh
    have:=List.all_eq_true.1 hh rs[i] (List.getElem_mem h)
    rw[Ic] at this;exact hok this
   exact aK [.bool false] 0 (by simp) (by simp[frz,hno]) (by simp[hb2])
  ·simp (disch:=omega) [i64_in,aB]
   refine⟨i+1,⟨by omega,fun r hr=> ?_⟩,by omega,rfl,by simp,by simp[hb2]⟩
   rw[List.take_add_one,List.getElem?_eq_getElem h] at hr
   rcases List.mem_append.1 hr with hr | hr
   ·exact bH r hr
   ·obtain rfl:r=rs[i]:=by simpa using hr
    exact Ic.2 hok
 ·have hi2:i=rs.length:=by omega
  have Uu:lO rs=true:=List.all_eq_true.2 fun r hr=>bH r (by rw[hi2,List.take_length];exact hr)
  exact aS (by simp[Uu]) rfl rfl
def Iq (s:Str) (q:List RT):Bool:=(sOk s && decide (q.length=s.ms.length))&& lO q
def Tu (m:Mb) (x:Option Rat):Bool:=(decide (m.kind=1)&& decide (sgq x<0))|| (decide (m.kind=2)&& decide (0<sgq x))
def aTY (ms:List Mb) (q:List RT) (n:Nat):Prop:= ∀k (h1:k<ms.length) (h2:k<q.length),k<n→Tu ms[k] (rd q[k])=false
def aXU (s:Str) (q:List RT):Bool:=Iq s q && (List.zip s.ms q).all fun p=> !Tu p.1 (rd p.2)

def pTo (e:Mb→Int) (s:Str) (q:List (Option Rat)) (j:Int):Nat→Option Rat
 | 0 => some 0
 | n + 1 => if j = (mat s n).a ∨ j = (mat s n).b then op2 (· + ·) (pTo e s q j n) (op2 (· * ·) (q.getD n none) (some (e (mat s n) : Rat))) else pTo e s q j n
def pX (s:Str) (q:List (Option Rat)) (j:Int):Option Rat:=pTo (eqX s j) s q j s.ms.length
def pY (s:Str) (q:List (Option Rat)) (j:Int):Option Rat:=pTo (eqY s j) s q j s.ms.length
theorem Ly :((0:Int):Rat)=0:=rfl

def aCF (s:Str) (q:List RT) (j:Int):Bool:=Iq s q && (decide (0≤j)&& decide (j<s.js.length))
def pqs (s:Str) (q:List RT) (j:Int):List (Option Rat):=if aCF s q j=true then [pX s (bD q) j,pY s (bD q) j] else [none]
theorem aDK (x y:Option Rat) (hx:okQ x) (hy:okQ y):RO Tryz.prog 137 [.agg (ro x).c,.agg (ro y).c] (.agg (ro (op2 (· + ·) x y)).c):=by
 have h1:=ro_le hx
 have h2:=ro_le hy
 have:=Kh (ro x) (ro y) ⟨by omega,by omega⟩ ⟨by omega,by omega⟩
 rwa [A9 hx,A9 hy] at this

def lN (l:List Int) (k:Nat):Int:=l.getD k 0
def fX (s:Str) (l:List Int) (q:List (Option Rat)) (i:Nat):Option Rat:=op2 (· + ·) (pX s q i) (some (lN l (2*i):Rat))
def fY (s:Str) (l:List Int) (q:List (Option Rat)) (i:Nat):Option Rat:=op2 (· + ·) (pY s q i) (some (lN l (2*i+1):Rat))
def isZ (x:Option Rat):Bool:=x.isSome && decide (sgq x=0)
def aU0 (s:Str) (l:List Int) (q:List (Option Rat)) (i:Nat):Bool:=isZ (fX s l q i)&& isZ (fY s l q i)
def aW7 (s:Str) (l:List Int) (q:List RT):Bool:=(Iq s q && Q6 s.js l)&& (aQ s.js).all fun j=>aU0 s l (bD q) j.toNat
def aY5 (s:Str) (l:List Int) (q:List RT) (i:Nat):List RT:=if bJ [pX s (bD q) i,pY s (bD q) i]=true then [ro (fX s l (bD q) i),ro (fY s l (bD q) i)] else []
def aYA (s:Str) (l:List Int) (q:List RT) (i:Nat):Bool:=bJ [fX s l (bD q) i,fY s l (bD q) i]

theorem aEH (x:Option Rat):RO Tryz.prog 103 [fv x] (fv (x.map (- ·))):=by
 cases x with
 | none =>
   refine aJ Tryz.func103 rfl rfl (by rw[Tryz.ntmps103];simp) fun bl=> ?_
   rw[Tryz.ntmps103,Tryz.results103]
   refine aC ?_
   simp[fv]
   exact aS (by simp) rfl rfl
 | some q =>
   have hop:=mZ q.num
   rw[bW,bW,Int.natAbs_neg] at hop
   refine aJ Tryz.func103 rfl rfl (by rw[Tryz.ntmps103];simp) fun bl=> ?_
   rw[Tryz.ntmps103,Tryz.results103]
   refine aC ?_
   rw[show fv (some q)= .ptr (rq q).c from rfl,iJ,show fv ((some q).map (- ·))= .ptr [.bool (decide (-q.num<0)),.sl (iv (lim q.num.natAbs)),.sl (iv (lim q.den))] by
    show V.ptr (rq (-q)).c=_
    rw[iJ]
    show V.ptr [.bool (decide (-q.num<0)),.sl (iv (lim (-q.num).natAbs)),.sl (iv (lim q.den))]=_
    rw[Int.natAbs_neg]]
   simp
   refine aY aL bl (Sub.refl _) [0,1,2,3,4,5,6,7,8] 3 (by kernel_rfl) ?_
   simp
   refine aN hop ?_
   simp
   refine Dz 9 ?_
   simp
   refine Dz 10 ?_
   simp
   intro g hg0 hg
   refine⟨by simp[hg],Dz 11 ?_⟩
   simp
   refine⟨by simp[hg],Dy ?_⟩
   simp
   refine aK [.loc g 3 0 0] 1 (by simp) ?_ (by simp[hg])
   show frz _ 1 (.loc g 3 0 0)=_
   rw[rG (e:= [.bool (decide (0<q.num)),.sl (iv (lim q.num.natAbs)),.sl (iv (lim q.den))]) (by simp[dropB,hg])]
   rfl
def aTZ (s:Str) (l:List Int) (q:List RT) (j:Int):Bool:=(Iq s q && Q6 s.js l)&& ((decide (0≤j)&& decide (j<s.js.length))&& (s.js.getD j.toNat default).fixed)
def aY8 (s:Str) (l:List Int) (q:List RT) (j:Int):List (Option Rat):=if aTZ s l q j=true then [(fX s l (bD q) j.toNat).map (- ·),(fY s l (bD q) j.toNat).map (- ·)] else [none]

def idx (js:List J) (i:Nat):Nat:=(cA js i).length
def fxd (js:List J) (i:Nat):Bool:=(js.getD i default).fixed
def dAt (js:List J) (d:List (Option Rat)) (t p:Nat):Option Rat:=if fxd js (p / 2)=true then some 0 else if idx js (p / 2)<t then d.getD (2*idx js (p / 2)+p % 2) none else some 0
def dsp (js:List J) (d:List (Option Rat)) (t:Nat):List (Option Rat):=(List.range (2*js.length)).map (dAt js d t)
def aX8 (js:List J) (d:List (Option Rat)):List (Option Rat):=dsp js d (aQ js).length
def dX (js:List J) (d:List (Option Rat)) (i:Nat):Option Rat:=if fxd js i=true then some 0 else d.getD (2*idx js i) none
def dY (js:List J) (d:List (Option Rat)) (i:Nat):Option Rat:=if fxd js i=true then some 0 else d.getD (2*idx js i+1) none
theorem uJ {d:List (Option Rat)} (hd:okL d) (i:Nat):okQ (d.getD i none):=by
 rcases Nat.lt_or_ge i d.length with h | h
 ·rw[cL _ _ _ h];exact hd _ (List.getElem_mem h)
 ·rw[List.getD_eq_getElem?_getD,List.getElem?_eq_none h];exact fun _ e=>by cases e
theorem Um :okQ (some 0):=fun x h=>by cases h;exact Kt
def aAH (s:Str) (d:List RT):Bool:=(sOk s && decide (d.length=2*(aQ s.js).length))&& lO d

def vsg (p:Int) (x:Option Rat):Option Rat:=if p<0 then x.map (- ·) else x
def stI (acc:List (Option Rat)) (p:Int×Int) (x:Option Rat):List (Option Rat):=
 acc.set p.1.toNat (if(acc.getD p.1.toNat none).isSome=true then op2 (· + ·) (acc.getD p.1.toNat none) (vsg p.2 x) else vsg p.2 x)
def stS (acc:List (Option Rat)) (p:Int×Int) (x:Option Rat):List (Option Rat):=
 acc.set p.1.toNat (if 0<p.2 then op2 (· + ·) (acc.getD p.1.toNat none) x else op2 (· - ·) (acc.getD p.1.toNat none) x)
def fT (ms:List Mb) (d:List (Option Rat)) (t:Nat):List (Option Rat):=(List.range t).foldl (fun acc j=>stI acc ((aP ms).getD j (0,0)) (d.getD j none)) (List.replicate ms.length none)
def gI (ms:List Mb) (d:List (Option Rat)) (t:Nat):List (Option Rat):=(List.range t).foldl (fun acc j=>stS acc ((aP ms).getD j (0,0)) (d.getD j none)) (List.replicate ms.length (some 0))
theorem jQ (ms:List Mb) (d:List (Option Rat)) (t:Nat):fT ms d (t+1)=stI (fT ms d t) ((aP ms).getD t (0,0)) (d.getD t none):=by
 unfold fT;rw[List.range_succ,List.foldl_append];rfl
theorem jO (ms:List Mb) (d:List (Option Rat)) (t:Nat):gI ms d (t+1)=stS (gI ms d t) ((aP ms).getD t (0,0)) (d.getD t none):=by
 unfold gI;rw[List.range_succ,List.foldl_append];rfl
theorem dQ (ms:List Mb) (d:List (Option Rat)): ∀t,(fT ms d t).length=ms.length
 | 0 => by simp [fT]
 | t + 1 => by rw [jQ, stI, List.length_set, dQ ms d t]
theorem lF (ms:List Mb) (d:List (Option Rat)): ∀t,(gI ms d t).length=ms.length
 | 0 => by simp [gI]
 | t + 1 => by rw [jO, stS, List.length_set, lF ms d t]
theorem Qb :okQ none:=fun _ e=>by cases e
theorem aBN {p:Int} {x:Option Rat} (h:okQ x):okQ (vsg p x):=by
 unfold vsg;split
 ·exact pS h
 ·exact h
theorem Hv {xs:List (Option Rat)} (h:okL xs) (i:Nat) {x:Option Rat} (hx:okQ x):okL (xs.set i x):=fun y hy=>by
 rcases List.mem_or_eq_of_mem_set hy with h1 | h1
 ·exact h y h1
 ·rw[h1];exact hx
theorem sA (ms:List Mb) {d:List (Option Rat)} (hd:okL d): ∀t,okL (fT ms d t)
 | 0 => fun y hy => by
   have:y∈List.replicate ms.length (none:Option Rat):=hy
   rw[List.mem_replicate] at this
   rw[this.2];exact Qb
 | t + 1 => by
   rw[jQ,stI]
   refine Hv (sA ms hd t) _ ?_
   split
   ·exact zV _ _ _
   ·exact aBN (uJ hd _)
theorem S8 (ms:List Mb) (d:List (Option Rat)): ∀t,okL (gI ms d t)
 | 0 => fun y hy => by
   have:y∈List.replicate ms.length (some 0:Option Rat):=hy
   rw[List.mem_replicate] at this
   rw[this.2];exact Um
 | t + 1 => by
   rw[jO,stS]
   refine Hv (S8 ms d t) _ ?_
   split
   ·exact zV _ _ _
   ·exact zV _ _ _
theorem S4 {ms:List Mb} {p:Int×Int} : ∀n,n≤ms.length→p∈aU ms n→ ∃k:Nat,p.1=k∧k<ms.length∧(p.2=1∨p.2= -1):=by
 intro n
 induction n with
 | zero => intro _ h; simp [aU] at h
 | succ n ih =>
   intro hn h
   rw[iA] at h
   rcases List.mem_append.1 h with h | h
   ·exact ih (by omega) h
   ·refine⟨n,?_⟩
    unfold nP at h
    rcases List.mem_append.1 h with h | h
    ·split at h
     ·cases h
     ·obtain rfl:p=_:=by simpa using h
      exact⟨rfl,by omega,.inl rfl⟩
    ·split at h
     ·cases h
     ·obtain rfl:p=_:=by simpa using h
      exact⟨rfl,by omega,.inr rfl⟩
theorem Eg (ms:List Mb) (n:Nat) (j:Nat) (hj:j<(aU ms n).length): ∀N,n≤N→(aU ms N).getD j (0,0)=(aU ms n).getD j (0,0)∧(aU ms n).length≤(aU ms N).length:=by
 intro N hN
 induction N with
 | zero => obtain rfl : n = 0 := by omega
           exact⟨rfl,Nat.le_refl _⟩
 | succ N ih =>
   rcases Nat.lt_or_ge n (N+1) with h | h
   ·obtain⟨h1,h2⟩:=ih (by omega)
    rw[iA]
    refine⟨?_,by rw[List.length_append];omega⟩
    rw[←h1,List.getD_eq_getElem?_getD,List.getElem?_append_left (by omega)]
    exact(List.getD_eq_getElem?_getD ..).symm
   ·obtain rfl:n=N+1:=by omega
    exact⟨rfl,Nat.le_refl _⟩
theorem fV {xs:List (Option Rat)} {i:Nat} (h:i<xs.length) (x:Option Rat):(xs.set i x).getD i none=x:=by
 rw[List.getD_eq_getElem?_getD,List.getElem?_set_self h];rfl
theorem getD_set_ne {xs:List (Option Rat)} {i k:Nat} (h:i≠k) (x:Option Rat):(xs.set i x).getD k none=xs.getD k none:=by
 rw[List.getD_eq_getElem?_getD,List.getElem?_set_ne h,List.getD_eq_getElem?_getD]
theorem vP {x:Option Rat} (h:okQ x):op2 (· + ·) (some 0) x=x:=by
 cases x with
 | none => rfl
 | some q =>
   show fit (0+q)=some q
   rw[Rat.zero_add];unfold fit;rw[if_pos (h q rfl)]
theorem Y3 {x:Option Rat} (h:okQ x):op2 (· - ·) (some 0) x=x.map (- ·):=by
 have hn:=pS h
 cases x with
 | none => rfl
 | some q =>
   show fit (0 - q)=some (-q)
   rw[Rat.sub_eq_add_neg,Rat.zero_add];unfold fit;rw[if_pos (hn (-q) rfl)]
theorem Z3 (x y:Option Rat):op2 (· + ·) x (y.map (- ·))=op2 (· - ·) x y:=by
 cases x with
 | none => rfl
 | some a =>
   cases y with
   | none=>rfl
   | some b=>show fit (a+ -b)=fit (a - b);rw[Rat.sub_eq_add_neg]
def xJ (ms:List Mb) (A B:List (Option Rat)) (n:Nat):Prop:= ∀k,k<ms.length→(k<n→A.getD k none=B.getD k none)∧(n≤k→A.getD k none=none∧B.getD k none=some 0)
theorem Nn (ms:List Mb) (d:List (Option Rat)) (hd:okL d) (hs: ∀j,j<(aP ms).length→(d.getD j none).isSome=true) (hk: ∀m,m∈ms→1≤m.kind∧m.kind≤3): ∀n,n≤ms.length→xJ ms (fT ms d (aU ms n).length) (gI ms d (aU ms n).length) n:=by
 intro n
 induction n with
 | zero =>
   intro _ k hk
   refine⟨fun h=>by omega,fun _=> ?_⟩
   simp[aU,fT,gI,hk]
 | succ n ih =>
   intro hn
   have H:=ih (by omega)
   have hA:=dQ ms d (aU ms n).length
   have hB:=lF ms d (aU ms n).length
   have hmn:ms.getD n default=ms[n]:=cL _ _ _ (by omega)
   have hkk:=hk _ (List.getElem_mem (show n<ms.length by omega))
   have hcs:=iA ms n
   rw[hmn] at hcs
   have W5: ∀i,i<(nP ms[n] n).length→(aP ms).getD ((aU ms n).length+i) (0,0)=(nP ms[n] n).getD i (0,0)∧(aU ms n).length+i<(aP ms).length:=by
    intro i hi
    have h1:=Eg ms (n+1) ((aU ms n).length+i) (by rw[hcs,List.length_append];omega) ms.length (by omega)
    refine⟨?_,?_⟩
    ·rw[show aP ms=aU ms ms.length from rfl,h1.1,hcs,List.getD_eq_getElem?_getD,List.getD_eq_getElem?_getD,List.getElem?_append_right (by omega)]
     simp
    ·have h2:=h1.2
     rw[hcs,List.length_append] at h2
     show _<(aU ms ms.length).length
     omega
   clear ih
   obtain⟨L,hL⟩: ∃L,(aU ms n).length=L:=⟨_,rfl⟩
   rw[hL] at hA hB H W5
   have hAn:=(H n (by omega)).2 (Nat.le_refl _)
   have one: ∀A B:List (Option Rat),∀x,A.length=ms.length→B.length=ms.length→(∀k,k<ms.length→k≠n→A.getD k none=(fT ms d L).getD k none∧B.getD k none=(gI ms d L).getD k none)→A.getD n none=x→B.getD n none=x→xJ ms A B (n+1):=by
    intro A B x lA lB hne hx hy k hk
    by_cases e:k=n
    ·subst e
     exact⟨fun _=>by rw[hx,hy],fun h=>by omega⟩
    ·obtain⟨e1,e2⟩:=hne k hk e
     have:=H k hk
     rw[e1,e2]
     exact⟨fun h=>this.1 (by omega),fun h=>this.2 (by omega)⟩
   rw[hcs,List.length_append,hL]
   by_cases k1:ms[n].kind=1
   ·have ec:nP ms[n] n= [((n:Int),1)]:=by unfold nP;rw[k1];rfl
    have g0:=W5 0 (by rw[ec];simp)
    rw[ec] at g0 ⊢
    have s0:=hs _ g0.2
    have o0:=uJ hd (L+0)
    simp only[Nat.add_zero] at g0 s0 o0
    show xJ ms (fT ms d (L+1)) (gI ms d (L+1)) (n+1)
    rw[jQ,jO,g0.1]
    generalize d.getD L none=x at *
    refine one _ _ x (by simp[stI,hA]) (by simp[stS,hB]) (fun k _ hk=> ?_) ?_ ?_
    ·unfold stI stS;simp only[List.getD_cons_zero,Int.toNat_natCast]
     rw[getD_set_ne (Ne.symm hk),getD_set_ne (Ne.symm hk)];exact⟨rfl,rfl⟩
    ·unfold stI;simp only[List.getD_cons_zero,Int.toNat_natCast]
     rw[fV (by omega),hAn.1];rfl
    ·unfold stS;simp only[List.getD_cons_zero,Int.toNat_natCast]
     rw[fV (by omega),hAn.2,if_pos (by omega)];exact vP o0
   by_cases k2:ms[n].kind=2
   ·have ec:nP ms[n] n= [((n:Int), -1)]:=by unfold nP;rw[k2];rfl
    have g0:=W5 0 (by rw[ec];simp)
    rw[ec] at g0 ⊢
    have s0:=hs _ g0.2
    have o0:=uJ hd (L+0)
    simp only[Nat.add_zero] at g0 s0 o0
    show xJ ms (fT ms d (L+1)) (gI ms d (L+1)) (n+1)
    rw[jQ,jO,g0.1]
    generalize d.getD L none=x at *
    refine one _ _ (x.map (- ·)) (by simp[stI,hA]) (by simp[stS,hB]) (fun k _ hk=> ?_) ?_ ?_
    ·unfold stI stS;simp only[List.getD_cons_zero,Int.toNat_natCast]
     rw[getD_set_ne (Ne.symm hk),getD_set_ne (Ne.symm hk)];exact⟨rfl,rfl⟩
    ·unfold stI;simp only[List.getD_cons_zero,Int.toNat_natCast]
     rw[fV (by omega),hAn.1];rfl
    ·unfold stS;simp only[List.getD_cons_zero,Int.toNat_natCast]
     rw[fV (by omega),hAn.2,if_neg (by omega)];exact Y3 o0
   have ec:nP ms[n] n= [((n:Int),1),((n:Int), -1)]:=by unfold nP;rw[if_neg k2,if_neg k1];rfl
   have g0:=W5 0 (by rw[ec];simp)
   have g1:=W5 1 (by rw[ec];simp)
   rw[ec] at g0 g1 ⊢
   have s0:=hs _ g0.2
   have s1:=hs _ g1.2
   have o0:=uJ hd (L+0)
   have o1:=uJ hd (L+1)
   simp only[Nat.add_zero] at g0 s0 o0
   show xJ ms (fT ms d (L+1+1)) (gI ms d (L+1+1)) (n+1)
   rw[jQ,jO,jQ,jO,g0.1,g1.1]
   generalize d.getD L none=x at *
   generalize d.getD (L+1) none=y at *
   have eI:(stI (fT ms d L) ((n:Int),1) x).getD n none=x:=by
    unfold stI;simp only[Int.toNat_natCast]
    rw[fV (by omega),hAn.1];rfl
   have eS:(stS (gI ms d L) ((n:Int),1) x).getD n none=x:=by
    unfold stS;simp only[Int.toNat_natCast]
    rw[fV (by omega),hAn.2,if_pos (by omega)];exact vP o0
   have lI:(stI (fT ms d L) ((n:Int),1) x).length=ms.length:=by simp[stI,hA]
   have lS:(stS (gI ms d L) ((n:Int),1) x).length=ms.length:=by simp[stS,hB]
   refine one _ _ (op2 (· - ·) x y) (by simp[stI,hA]) (by simp[stS,hB]) (fun k _ hk=> ?_) ?_ ?_
   ·unfold stI stS;simp only[List.getD_cons_zero,List.getD_cons_succ,Int.toNat_natCast]
    rw[getD_set_ne (Ne.symm hk),getD_set_ne (Ne.symm hk),getD_set_ne (Ne.symm hk),getD_set_ne (Ne.symm hk)];exact⟨rfl,rfl⟩
   ·show(stI (stI (fT ms d L) ((n:Int),1) x) ((n:Int), -1) y).getD n none=_
    generalize stI (fT ms d L) ((n:Int),1) x=A1 at *
    unfold stI;simp only[Int.toNat_natCast]
    rw[fV (by omega),eI,if_pos s0,vsg,if_pos (by omega)];exact Z3 x y
   ·show(stS (stS (gI ms d L) ((n:Int),1) x) ((n:Int), -1) y).getD n none=_
    generalize stS (gI ms d L) ((n:Int),1) x=B1 at *
    unfold stS;simp only[Int.toNat_natCast]
    rw[fV (by omega),eS,if_neg (by omega)]
theorem run_eq (ms:List Mb) (d:List (Option Rat)) (hd:okL d) (hs: ∀j,j<(aP ms).length→(d.getD j none).isSome=true) (hk: ∀m,m∈ms→1≤m.kind∧m.kind≤3):fT ms d (aP ms).length=gI ms d (aP ms).length:=by
 have H:=Nn ms d hd hs hk ms.length (Nat.le_refl _)
 change xJ ms (fT ms d (aP ms).length) (gI ms d (aP ms).length) ms.length at H
 apply List.ext_getElem (by rw[dQ,lF])
 intro k h1 h2
 have h3:=(H k (by rwa [dQ] at h1)).1 (by rwa [dQ] at h1)
 rw[cL _ _ _ h1,cL _ _ _ h2] at h3
 exact h3

end Go.Proofs.YticmgmemnpcbbaaGreat.Vm

namespace Go.Proofs.YticmgmemnpcbbaaGreat.Vm
open Go Go.Proofs
set_option linter.unusedSimpArgs false
set_option linter.unusedVariables false
def apX (s:Str) (d:List (Option Rat)) (m:Mb):Option Rat:=op2 (· - ·) (dX s.js d m.b.toNat) (dX s.js d m.a.toNat)
def apY (s:Str) (d:List (Option Rat)) (m:Mb):Option Rat:=op2 (· - ·) (dY s.js d m.b.toNat) (dY s.js d m.a.toNat)
def aEA (s:Str) (d:List (Option Rat)) (k:Nat):Option Rat:=op2 (· + ·) (op2 (· * ·) (some (vx s (mat s k):Rat)) (apX s d (mat s k))) (op2 (· * ·) (some (vy s (mat s k):Rat)) (apY s d (mat s k)))
def aK3 (s:Str) (k:Int) (d:List RT):Bool:=aAH s d && (decide (0≤k)&& decide (k<s.ms.length))
def aY7 (s:Str) (k:Int) (d:List RT):Option Rat:=if aK3 s k d=true then aEA s (bD d) k.toNat else none

def aW1 (rs:List RT):Bool:=rs.all fun r=> !decide (r.d= [])
def aCW (a b:List RT):Bool:=(Nz a && Nz b)&& decide (a.length=b.length)
def aW6 (a b:List RT):List (Option Rat):=if aCW a b=true then List.zipWith (op2 (· + ·)) (bD a) (bD b) else [none]
theorem Se {rs:List RT} (h:lO rs=true) (i:Nat) (hi:i<rs.length): ∃q,rd rs[i]=some q∧rs[i]=ro (some q)∧okQ (some q):=by
 have:=List.all_eq_true.1 h rs[i] (List.getElem_mem hi)
 obtain⟨q,hq⟩:=Option.isSome_iff_exists.1 this
 obtain⟨h1,h2⟩:=rd_some hq
 exact⟨q,hq,h1,fun x hx=>by cases hx;exact h2⟩
def aXK (r:RT) (q:List RT):List (Option Rat):=if(r.ok∧Nz q=true) then(bD q).map (op2 (· * ·) (rd r)) else [none]

def atW (s:Str) (i:Nat):Int:=if fxd s.js i=true then -1 else(idx s.js i:Int)
theorem aAS {rs:List RT} (h:lO rs=true) (i:Nat) (hi:i<rs.length):ro (rd rs[i])=rs[i]:=by
 obtain⟨q,e1,e2,_⟩:=Se h i hi
 rw[e1];exact e2.symm

theorem aA7 (x y:Option Rat) (hx:okQ x) (hy:okQ y):RO Tryz.prog 139 [.agg (ro x).c,.agg (ro y).c] (.agg (ro (op2 (· - ·) x y)).c):=by
 have h1:=ro_le hx
 have h2:=ro_le hy
 have:=Lg (ro x) (ro y) ⟨by omega,by omega⟩ ⟨by omega,by omega⟩
 rwa [A9 hx,A9 hy] at this
def aWJ (bl:Int→Option Blk) (g6:Int) (p:Int×Int):Prop:=0≤p.1∧0≤p.2∧ ¬ p.1=p.2∧ ¬ p.1=g6∧ ¬ p.2=g6∧bl p.1=none∧bl p.2=none

def Qv (m:Mb) (x:Option Rat):Bool:=(!x.isSome || (decide (m.kind≠2)&& decide (0<sgq x)))|| (decide (m.kind≠1)&& decide (sgq x<0))
def aCR (s:Str) (d:List (Option Rat)):Bool:=(List.range s.ms.length).all fun k=> !Qv (mat s k) (aEA s d k)
def aU9 (s:Str) (d:List (Option Rat)) (n:Nat):Prop:= ∀k:Nat,k<n→Qv (mat s k) (aEA s d k)=false
def wkTo (s:Str) (l:List Int) (d:List (Option Rat)):Nat→Option Rat
 | 0 => some 0
 | t + 1 => op2 (· + ·) (op2 (· + ·) (wkTo s l d t) (op2 (· * ·) (some (lN l (2 * ((aQ s.js).getD t 0).toNat) : Rat)) (d.getD (2 * t) none))) (op2 (· * ·) (some (lN l (2 * ((aQ s.js).getD t 0).toNat + 1) : Rat)) (d.getD (2 * t + 1) none))
def wkW (s:Str) (l:List Int) (d:List (Option Rat)):Option Rat:=wkTo s l d (aQ s.js).length
def aY9 (s:Str) (l:List Int) (d:List RT):Bool:=(aAH s d && Q6 s.js l)&& (aCR s (bD d)&& decide (0<sgq (wkW s l (bD d))))

theorem A2 (cs:List (Int×Int)) (i:Nat) (h:i<(cv cs).length):(cv cs)[i]= [.int .i64 (cs[i]'(by simpa using h)).1,.int .i64 (cs[i]'(by simpa using h)).2]:=by simp[cv]
theorem uF (xs:List (Option Rat)) (i:Nat) (x:Option Rat):(fvs xs).set i [fv x]=fvs (xs.set i x):=by simp[fvs,List.map_set]
def mG (s:Str) (d:List RT):Bool:=sOk s && (decide (d.length=(aP s.ms).length)&& lO d)
def mR (s:Str) (d:List RT):List (Option Rat):=if mG s d=true then fT s.ms (bD d) (aP s.ms).length else [none]
theorem E3 {s:Str} {d:List RT} (h:mG s d=true):SOk s∧d.length=(aP s.ms).length∧lO d=true:=by
 unfold mG at h
 simp only[Bool.and_eq_true,decide_eq_true_eq] at h
 exact⟨pH h.1,h.2.1,h.2.2⟩
theorem rV (s:Str) (d:List RT):okL (mR s d)∧(mR s d).length≤24:=by
 unfold mR;split
 ·rename_i h
  obtain⟨hs,_,_⟩:=E3 h
  have:=hs.nm
  exact⟨sA s.ms (G9 d) _,by rw[dQ];omega⟩
 ·exact⟨uD,by simp⟩
theorem Gs :RO Tryz.prog 283 [] (.agg (ro (some 0)).c):=by
 have w0:=dO 0 (by omega)
 rw[Ly] at w0
 refine aJ Tryz.func283 rfl rfl (by rw[Tryz.ntmps283];simp) fun bl=> ?_
 rw[Tryz.ntmps283,Tryz.results283]
 refine aC ?_
 generalize ro (some 0)=z at *
 simp
 intro g hg0 hg
 refine aD w0 ?_
 simp[RT.c]
 exact aK [.agg z.c] 1 (by simp[RT.c]) (by simp[frz,RT.c,V.cl]) (by simp[hg])
theorem Hc (rs:List RT):(rv rs).take rs.length=rv rs:=by rw[←N9 rs,List.take_length]
theorem Il (rs:List RT): ∀r,r∈rv rs→r.length=3:=fun r hr=>by
 obtain⟨x,_,rfl⟩:=List.mem_map.1 hr;rfl
theorem oO {bl:Int→Option Blk} {rs:List RT} {v:V} {gs:List Int} :OwnD bl (fl 3 (rv rs)) v gs ↔ (rs= []∧v= .nils∧gs= [])∨ ∃g,v= .lsl g 3 0 rs.length∧gs= [g]∧bl g=some ⟨3,rv rs⟩∧(g<0→rs= []):=by
 rw[oP (Ig rs) (Il rs)]
 simp[rv]
def lL (n:Nat):List RT:=List.replicate n (ro (some 0))
theorem Gq (n:Nat):lL (n+1)=lL n++ [ro (some 0)]:=by unfold lL;rw[List.replicate_succ']
@[simp] theorem gE (n : Nat) : (lL n).length = n := by simp [lL]
theorem Cy (n:Nat) (hn:n≤1000):NW Tryz.prog 259 [.int .i64 n] (fl 3 (rv (lL n))):=by
 refine fU Tryz.func259 rfl rfl (by rw[Tryz.ntmps259];simp) fun bl=> ?_
 rw[Tryz.ntmps259,Tryz.results259]
 refine aC ?_
 simp
 intro g00 tQ aDZ
 refine aI (fun p:Nat×Int=> [(0,.int .i64 n),(3,.lsl p.2 3 0 p.1)]) (fun p=>upd bl p.2 (some ⟨3,rv (lL p.1)⟩)) (fun p=>p.1≤n∧bl p.2=none∧(p.2<0→p.1=0)) (fun p=>n - p.1) _ (0,g00) ⟨Nat.zero_le _,aDZ,fun _=>rfl⟩ ⟨rfl,by simp,sub_eq (by simp[lL,rv])⟩ ?_
 rintro⟨i,g⟩ ⟨hi,hg,h0⟩
 simp only at hi hg h0
 refine aC ?_
 simp
 refine⟨fun h=> ?_,fun h=> ?_⟩
 ·refine aD Gs ?_
  have hz:=Gq i
  generalize ro (some 0)=z at *
  simp[RT.c]
  intro g2 hg2 h2g hb2
  simp[h2g,Ne.symm h2g,appV,elsV,Int.not_lt.2 hg2]
  refine⟨by omega,fun g3 hg3 hb3=> ?_⟩
  have gL:bl g3=none:=by grind
  simp[aB]
  refine⟨i+1,g3,⟨by omega,gL,by omega⟩,by omega,rfl,by simp,?_⟩
  rw[hz,Kz]
  exact dM (by rw[show(rv (lL i)).take i=rv (lL i) by have:=Hc (lL i);rwa [gE] at this];simp[rv,RT.c]) (by simp[hg,hb2,h2g])
 ·have hi2:i=n:=by omega
  subst hi2
  refine dI [.lsl g 3 0 i] [g] (by simp) ?_ (by simpa using hg) (by simp[hg])
  exact oO.2 (.inr ⟨g,by simp,rfl,by simp,fun h=>by rw[h0 h];rfl⟩)
theorem kN (n:Nat) (hn:n≤24):NW Tryz.prog 212 [.int .i64 n] (fl 3 (rv (lL n))):=by
 refine fU Tryz.func212 rfl rfl (by rw[Tryz.ntmps212];simp) fun bl=> ?_
 rw[Tryz.ntmps212,Tryz.results212]
 refine aC ?_
 simp
 refine aD (kR _ _ _) ?_
 have h1:(n:Int)≤24:=by omega
 simp[h1]
 refine bU (Cy n (by omega)) fun v gs b' o f fr=> ?_
 obtain⟨c1,c2⟩:=o.one
 simp[c1,c2]
 exact dI [v] gs (by simp[c1,c2]) o (fun x hx=>f x hx) (fun x y hy=>bI f fr hy)
theorem L2 (n:Nat) (hn:n≤24):RO Tryz.prog 212 [.int .i64 n] (.sl (rv (lL n))):=by
 have:=gJ 1 (kN n hn) (iZ _ _ 0)
 simpa using this

theorem qW {zs:List (Option Rat)} (h:okL zs):lO (bA zs)=bJ zs:=by
 unfold lO bA bJ
 rw[List.all_map,Bool.eq_iff_iff,List.all_eq_true,List.all_eq_true]
 constructor
 ·intro H x hx
  have:=H x hx
  rwa [Function.comp,A9 (h x hx)] at this
 ·intro H x hx
  rw[Function.comp,A9 (h x hx)];exact H x hx
theorem rP {zs:List (Option Rat)} (h:okL zs) (hl:zs.length≤1048576):Bm (bA zs) 1048576:=by
 refine⟨by simpa using hl,fun r hr=> ?_⟩
 obtain⟨x,hx,rfl⟩:=List.mem_map.1 hr
 have:=ro_le (h x hx)
 exact⟨by omega,by omega⟩
theorem wM (xs:List (Option Rat)) (i:Nat) (x:Option Rat):(rv (bA xs)).set i (ro x).c=rv (bA (xs.set i x)):=by simp[rv,bA,List.map_set]
theorem tN (xs:List (Option Rat)) (i:Nat) (h:i<(bA xs).length):(bA xs)[i]=ro (xs[i]'(by simpa using h)):=by simp[bA]
theorem xU (n:Nat):lL n=bA (List.replicate n (some 0)):=by simp[lL,bA]
theorem qI (s:Str) (d:List RT) (hj:s.js.length≤140737488351232) (hm:s.ms.length≤140737488351232) (hn: ∀j,j∈s.js→j.name.size≤140737488351232) (hd:Bm d 1048576):RO Tryz.prog 135 [.agg s.c,.sl (rv d)] (.tup [.sl (rv (stQ (mR s d))),.bool (bJ (mR s d))]):=by
 refine aJ Tryz.func135 rfl rfl (by rw[Tryz.ntmps135];simp) fun bl=> ?_
 rw[Tryz.ntmps135,Tryz.results135]
 refine aE ?_
 simp[Str.c]
 intro g hg0 hg
 refine cW 1 2 (.ptr s.c) bl (by simp[hg]) (by simp[frz,dropB,hg,Str.c,V.cl]) ?_
 refine aC ?_
 simp[Str.c]
 refine aD (iV s hj hm hn) ?_
 cases hk:sOk s
 ·have hz:mR s d= [none]:=by unfold mR mG;rw[hk];rfl
  rw[hz]
  simp
  exact aK [.nils,.bool false] 1 (by simp) (by simp[frz,V.cl,stQ,bJ,rv]) (Sub.refl _)
 have hs:=pH hk
 have hnm:=hs.nm
 have hz:mG s d=(decide (d.length=(aP s.ms).length)&& lO d):=by unfold mG;rw[hk];rfl
 have hwl:(who s).length=(aP s.ms).length:=by simp[who]
 simp[Str.c]
 refine aD (kQ s hnm) ?_
 simp
 refine bN [(1,.sl (rv d)),(2,.ptr s.c),(4,.nils),(5,.bool false),(6,.sl (iv (who s))),(7,.sl (iv (sgn s)))] _ bl 28 (.bool (!mG s d)) ⟨rfl,by simp[Str.c],Sub.refl _⟩ rfl ?_ ?_
 ·simp[hwl]
  by_cases h:d.length=(aP s.ms).length
  ·have h':(d.length:Int)=((aP s.ms).length:Int):=by omega
   simp[h,h']
   refine aD (nI d hd) ?_
   simp[hz,h]
  ·have h': ¬ (d.length:Int)=((aP s.ms).length:Int):=by omega
   simp[h,h',hz]
 cases hp:mG s d
 ·have hz:mR s d= [none]:=by unfold mR;rw[hp];rfl
  rw[hz]
  simp
  exact aK [.nils,.bool false] 1 (by simp) (by simp[frz,V.cl,stQ,bJ,rv]) (Sub.refl _)
 obtain⟨_,hdl,bH⟩:=E3 hp
 have hD:=G9 d
 have hDl:(bD d).length=(aP s.ms).length:=by simpa using hdl
 have hso: ∀j,j<(aP s.ms).length→((bD d).getD j none).isSome=true:=fun j hj=>by
  rw[cL _ _ _ (by omega)]
  have:=List.all_eq_true.1 bH d[j] (List.getElem_mem (by omega))
  simpa [bD] using this
 have kC:=run_eq s.ms (bD d) hD hso hs.kd
 have hq:mR s d=gI s.ms (bD d) (aP s.ms).length:=by unfold mR;rw[hp,if_pos rfl,kC]
 have hcl:=iI s.ms s.ms.length
 change(aP s.ms).length≤2*s.ms.length at hcl
 have hlR:=lF s.ms (bD d)
 have hoR:=S8 s.ms (bD d)
 have hV:=nI (bA (mR s d)) (rP (rV s d).1 (by have:=(rV s d).2;omega))
 rw[qW (rV s d).1] at hV
 rw[hq] at hV ⊢
 simp[Str.c]
 rcases Nat.eq_zero_or_pos s.ms.length with h0 | kV
 ·have hc0:(aP s.ms).length=0:=by omega
  have e0:gI s.ms (bD d) (aP s.ms).length= []:=List.eq_nil_of_length_eq_zero (by rw[hlR,h0])
  rw[e0] at hV ⊢
  have hZ:=L2 0 (by omega)
  rw[h0]
  refine aD hZ ?_
  simp[hwl,hc0]
  refine aI (fun j:Nat=> [(8,.sl []),(34,.int .i64 0),(35,.int .i64 0)]) (fun _=>bl) (fun j=>True) (fun j=>j) _ 0 trivial ⟨rfl,by simp[lL,rv],Sub.refl _⟩ ?_
  intro j _
  refine aC ?_
  simp
  refine aD hV ?_
  simp[bJ]
  exact aK [.sl [],.bool true] 1 (by simp) (by simp[frz,V.cl,stQ,bJ,rv,bA]) (Sub.refl _)
 refine bU (kN s.ms.length (by omega)) fun v gs b' o f fr=> ?_
 rcases oO.1 o with ⟨h1,_,_⟩| ⟨g8,rfl,rfl,hb8,hg8⟩
 ·have h2:s.ms.length=0:=by have:=congrArg List.length h1;rwa [gE] at this
  omega
 have hn8:bl g8=none:=f g8 (by simp)
 have hp8:0≤g8:=by
  rcases Int.lt_or_le g8 0 with h | h
  ·have h2:s.ms.length=0:=by have:=congrArg List.length (hg8 h);rwa [gE] at this
   omega
  ·exact h
 rw[gE]
 simp
 refine aI (fun j:Nat=> [(1,.sl (rv d)),(6,.sl (iv (who s))),(7,.sl (iv (sgn s))),(8,.lsl g8 3 0 s.ms.length),(33,.sl (iv (who s))),(34,.int .i64 (aP s.ms).length),(35,.int .i64 j)]) (fun j=>upd bl g8 (some ⟨3,rv (bA (gI s.ms (bD d) j))⟩)) (fun j=>j≤(aP s.ms).length) (fun j=>(aP s.ms).length - j) _ 0 (Nat.zero_le _) ⟨rfl,by simp[hwl],by
  intro z b hz
  show b' z=some b
  simp only[aA] at hz
  split at hz
  ·rename_i e;rw[e,hb8,←hz,xU];rfl
  ·exact bI f fr hz⟩ ?_
 intro j hj
 have wj:IntKind.i64.wrap ((j:Int)+1)=(j:Int)+1:=i64_in (by omega) (by omega)
 refine aC ?_
 simp
 refine⟨fun h=> ?_,fun h=> ?_⟩
 ·have rC:(aP s.ms)[j]∈aP s.ms:=List.getElem_mem h
  obtain⟨k,e1,hk,hsg⟩:=S4 s.ms.length (Nat.le_refl _) rC
  have h2:j<d.length:=by omega
  have h3:j<(bD d).length:=by omega
  have hrl:=hlR j
  have hkA:k<(gI s.ms (bD d) j).length:=by omega
  have hst:=jO s.ms (bD d) j
  rw[cL _ _ _ h,cL _ _ _ h3,stS,e1,Int.toNat_natCast,cL _ _ _ hkA] at hst
  have ex:ro (bD d)[j]=d[j]:=by rw[←aAS bH _ h2];simp[bD]
  have ok1:=hoR j _ (List.getElem_mem hkA)
  have ok2:=hD _ (List.getElem_mem h3)
  have hA:=aDK _ _ ok1 ok2
  have hB:=aA7 _ _ ok1 ok2
  have wE:(who s)[j]'(by omega)=(k:Int):=by simp[who,e1]
  have sE:(sgn s)[j]'(by simp[sgn];omega)=(aP s.ms)[j].2:=by simp[sgn]
  have sl:j<(sgn s).length:=by simp[sgn];omega
  have wl:j<(who s).length:=by omega
  have eg:=tN (gI s.ms (bD d) j) k (by simpa using hkA)
  rw[ex] at hA hB
  generalize (bD d)[j]=dx at *
  obtain⟨A,eA⟩: ∃A,gI s.ms (bD d) j=A:=⟨_,rfl⟩
  simp only[eA] at hrl hkA hst hA hB eg ⊢
  rcases hsg with e2 | e2
  ·rw[e2,if_pos (by omega)] at hst
   rw[e2] at sE
   simp[h,wE,sE,sl,wl]
   refine bY aL [0,1,2,3,4,5,6,7,8,9,10,11] 1 12 (by kernel_rfl) ?_
   simp[hrl,hk,hkA,h2,eg,RT.c]
   refine aN hA ?_
   simp[hrl,hk,hkA,RT.c]
   refine bZ (i:=12) (by kernel_rfl) rfl rfl rfl ?_
   simp[hrl,hk,hkA,RT.c]
   refine Dy ?_
   simp[wj,aB]
   refine⟨j+1,by omega,by omega,rfl,by simp,?_⟩
   rw[hst,←wM]
   intro z b hz;simp only[aA,RT.c] at hz ⊢;grind
  ·rw[e2,if_neg (by omega)] at hst
   rw[e2] at sE
   simp[h,wE,sE,sl,wl]
   refine bY aL [0,1,2,3,4,5,6,7,8,9,10,11] 1 12 (by kernel_rfl) ?_
   simp[hrl,hk,hkA,h2,eg,RT.c]
   refine aN hB ?_
   simp[hrl,hk,hkA,RT.c]
   refine bZ (i:=12) (by kernel_rfl) rfl rfl rfl ?_
   simp[hrl,hk,hkA,RT.c]
   refine Dy ?_
   simp[wj,aB]
   refine⟨j+1,by omega,by omega,rfl,by simp,?_⟩
   rw[hst,←wM]
   intro z b hz;simp only[aA,RT.c] at hz ⊢;grind
 ·have hj2:j=(aP s.ms).length:=by omega
  subst hj2
  have hrl:=hlR (aP s.ms).length
  have hfz: ∀(B:Int→Option Blk) (n:Nat),B g8=some ⟨3,rv (bA (gI s.ms (bD d) (aP s.ms).length))⟩→frz (dropB B bl) 1 (.lsl g8 3 0 s.ms.length)=some (.sl (rv (bA (gI s.ms (bD d) (aP s.ms).length)))):=fun B n hB=>
   dH (sz:=3) (n:=s.ms.length) hp8 hn8 (els:=rv (bA (gI s.ms (bD d) (aP s.ms).length))) hB (by simpa using hrl) (Ig _)
  generalize gI s.ms (bD d) (aP s.ms).length=R at *
  have hfb:frz (upd bl g8 (some ⟨3,rv (bA R)⟩)) 1 (.lsl g8 3 0 s.ms.length)=some (.sl (rv (bA R))):=G8 (fun z b hz=>by
   unfold dropB at hz
   split at hz
   ·exact hz
   ·cases hz) 1 (hfz (upd bl g8 (some ⟨3,rv (bA R)⟩)) 0 (by simp))
  simp
  refine aX 1 (ys:= [.sl (rv (bA R))]) (by simp[hfb]) hV rfl ?_
  cases ha:bJ R
  ·simp
   exact aK [.nils,.bool false] 1 (by simp) (by simp[frz,V.cl,stQ,ha,rv]) (by simp[hn8])
  ·simp
   refine aK [.lsl g8 3 0 s.ms.length,.bool true] 2 (by simp) (F9 ?_) (by simp[hn8])
   have hst:stQ R=bA R:=by unfold stQ;rw[ha];rfl
   rw[hst]
   exact hfz _ 0 (by simp)

def gv (cells:List (List (Option Rat))):List (List V):=cells.map fun r=> [.sl (fvs r)]
def dGr (cells:List (List (Option Rat))):D:= .s 1 (cells.map fun r=> [fl 1 (fvs r)])
def dG (r c:Nat) (cells:List (List (Option Rat))):D:= .a [.c (.int .i64 r),.c (.int .i64 c),dGr cells]
def rowOf (c:Nat) (m:Nat→Nat→Option Rat) (i:Nat):List (Option Rat):=(List.range c).map (m i)
def aT3 (r c:Nat) (m:Nat→Nat→Option Rat):List (List (Option Rat)):=(List.range r).map (rowOf c m)
theorem eH (b:Int→Option Blk) (g:Int):Sub (rem b g) b:=fun z y hz=>by
 rw[aF] at hz
 split at hz
 ·cases hz
 ·exact hz

theorem OwnR.append {bl:Int→Option Blk} {sz:Nat} {rs2:List (List D)} {e2:List (List V)} {g2:List Int} (h2:OwnR bl sz rs2 e2 g2): ∀ {rs:List (List D)} {els:List (List V)} {g1:List Int},OwnR bl sz rs els g1→(∀x,x∈g1→x∉g2)→OwnR bl sz (rs++rs2) (els++e2) (g1++g2)
 | [], els, g1, h, hd => by
   rw[OwnR] at h
   obtain⟨rfl,rfl⟩:=h
   exact h2
 | r :: rs, els, g1, h, hd => by
   rw[OwnR] at h
   obtain⟨e,mM,ga,gb,rfl,rfl,h3,h4,h5,h6,h7⟩:=h
   have ih:=OwnR.append h2 h7 fun x hx=>hd x (List.mem_append_right _ hx)
   show OwnR bl sz (r::(rs++rs2)) (e::(mM++e2)) (ga++gb++g2)
   rw[OwnR]
   refine⟨e,mM++e2,ga,gb++g2,rfl,by simp,fun x hx hx2=> ?_,h4,h5,h6,ih⟩
   rcases List.mem_append.1 hx2 with hx2 | hx2
   ·exact h3 x hx hx2
   ·exact hd x (List.mem_append_left _ hx) hx2
structure MX where
 r:Int
 c:Int
 cells:List RT
def MX.c3 (m:MX):List V:= [.int .i64 m.r,.int .i64 m.c,.sl (rv m.cells)]
def dMx (m:MX):List D:= [.c (.int .i64 m.r),.c (.int .i64 m.c),dRs m.cells]
def aN0 (cells:List (List (Option Rat))):Bool:=cells.all bJ
def aYL (r c:Int) (cells:List (List (Option Rat))):MX:=if aN0 cells=true then⟨r,c,(cells.map bA).flatten⟩ else⟨0,0,[]⟩
def dMB (m:MX) (b:Bool):D:= .t [.a (dMx m),.c (.bool b)]
def aWD (cells:List (List (Option Rat))) (i:Nat):List RT:=((cells.take i).map bA).flatten

theorem Sw (a b:Rat) (hb:b.num≠0):sg (decide (a.num<0) !=decide (b.num<0)) (a.num.natAbs*b.den)=a.num*(b.num.sign*b.den):=by
 have h1:b.num.sign.natAbs=1:=by rw[Int.natAbs_sign];simp[hb]
 have h2:(b.num.sign*(b.den:Int)).natAbs=b.den:=by rw[Int.natAbs_mul,h1,Nat.one_mul,Int.natAbs_natCast]
 have hd:=b.den_pos
 have h3:decide (b.num.sign*(b.den:Int)<0)=decide (b.num<0):=by
  rw[decide_eq_decide]
  constructor
  ·intro h
   by_cases h4:b.num<0
   ·exact h4
   ·have:b.num.sign=1:=Int.sign_eq_one_of_pos (by omega)
    rw[this] at h;omega
  ·intro h
   rw[Int.sign_eq_neg_one_of_neg h];omega
 have:=tJ a.num (b.num.sign*b.den)
 rw[h2,h3] at this
 exact this

theorem mC {bl bl0:Int→Option Blk} {g h:Int} {ns ms:List Int} {b:Bool} (h0:0≤g∨ms= []) (h1:0≤h∨ns= []) (hg:bl0 g=none) (hh:bl0 h=none) (hb:bl g=some ⟨1,iv ms⟩) (hc:bl h=some ⟨1,iv ns⟩):frz (dropB bl bl0) 2 (.agg [.bool b,.lsl g 1 0 ms.length,.lsl h 1 0 ns.length])=some (.agg [.bool b,.sl (iv ms),.sl (iv ns)]):=by
 have e1:=sH h0 hg hb
 have e2:=sH h1 hh hc
 have e3:frz (dropB bl bl0) 1 (.bool b)=some (.bool b):=by simp[frz]
 rw[uI]
 simp only[List.mapM_cons,List.mapM_nil,e1,e2,e3]
 rfl
theorem Ew (r:RT) (hm:r.m.length≤1048576) (hd:r.d.length≤1048576):RO Tryz.prog 203 [.agg r.c] (.agg r.c):=by
 have bH: ∀m:List Int,((iv m).all fun c=>c.length==1 && c.all V.one)=true:=fun m=>by simp[iv]
 refine aJ Tryz.func203 rfl rfl (by rw[Tryz.ntmps203];simp) fun bl=> ?_
 rw[Tryz.ntmps203,Tryz.results203]
 refine aE ?_
 simp[RT.c]
 intro g1 hg1 hb1 g2 hg2 h21 hb2
 refine cW 1 1 (.ptr r.c) (upd bl g2 (some ⟨3,[[.bool false,.nils,.nils]]⟩)) (by intro z b hz;simp only[aA,RT.c] at hz ⊢;grind) (by simp[frz,dropB,hb1,h21,Ne.symm h21,RT.c,V.cl]) ?_
 refine aC ?_
 simp
 have F:=trivial
 refine aY aL bl (by simp[hb2]) [0,1,2,4,5,6,10,11] 7 (by kernel_rfl) ?_
 simp[RT.c]
 refine jW (i:=3) (j:=9) (by kernel_rfl) rfl rfl rfl rfl ?_ ?_
 ·simp[]
  intro g3 hg3
  intros
  have aCO: ¬ g3=g2:=by first | assumption | grind
  have F:=ad F aCO
  have b3:bl g3=none:=by first | assumption | grind
  refine⟨by intro z b hz;simp only[aA,aF] at hz ⊢;grind,?_⟩
  refine jW (i:=7) (j:=9) (by kernel_rfl) rfl rfl rfl rfl ?_ ?_
  ·simp[F,appV,elsV,Int.not_lt.2 hg3,bH]
   refine⟨by omega,fun g7 hg7 hb7=> ?_⟩
   have Sj: ¬ g7=g2:=by grind
   have F:=ad F Sj
   have b7:bl g7=none:=by grind
   have z7:0≤g7∨r.m= []:=hg7.imp id (fun h=>by simpa [iv] using h)
   refine⟨by intro z b hz;simp only[aA,aF] at hz ⊢;grind,?_⟩
   refine jW (i:=8) (j:=9) (by kernel_rfl) rfl rfl rfl rfl ?_ ?_
   ·simp[F]
    refine⟨by intro z b hz;simp only[aA,aF] at hz ⊢;grind,?_⟩
    refine Dz 9 ?_
    simp[F]
    intro g9 hg9
    intros
    have Hg: ¬ g9=g2:=by first | assumption | grind
    have aEJ: ¬ g9=g7:=by first | assumption | grind
    have F:=ad (ad F Hg) aEJ
    have b9:bl g9=none:=by first | assumption | grind
    refine⟨by intro z b hz;simp only[aA,aF] at hz ⊢;grind,?_⟩
    refine Dz 12 ?_
    simp[F,appV,elsV,Int.not_lt.2 hg9,bH]
    refine⟨by omega,fun g12 uO pU=> ?_⟩
    have oL: ¬ g12=g2:=by grind
    have oD: ¬ g12=g7:=by grind
    have F:=ad (ad F oL) oD
    have b12:bl g12=none:=by grind
    have z12:0≤g12∨r.d= []:=uO.imp id (fun h=>by simpa [iv] using h)
    refine⟨by intro z b hz;simp only[aA,aF] at hz ⊢;grind,?_⟩
    refine Dz 13 ?_
    simp[F]
    refine⟨by intro z b hz;simp only[aA,aF] at hz ⊢;grind,?_⟩
    refine Dz 14 ?_
    simp[F]
    refine⟨by intro z b hz;simp only[aA,aF] at hz ⊢;grind,?_⟩
    refine Dy ?_
    simp[F]
    refine aK [.agg [.bool r.neg,.lsl g7 1 0 r.m.length,.lsl g12 1 0 r.d.length]] 2 (by simp[F]) (mC z7 z12 b7 b12 ?_ ?_) ?_
    ·simp[F]
    ·simp[F]
    ·intro z b hz;simp only[aA,aF] at hz ⊢;grind
   ·simp[F]
    intro g9 hg9
    intros
    have Hg: ¬ g9=g2:=by first | assumption | grind
    have aEJ: ¬ g9=g7:=by first | assumption | grind
    have F:=ad (ad F Hg) aEJ
    have b9:bl g9=none:=by first | assumption | grind
    refine⟨by intro z b hz;simp only[aA,aF] at hz ⊢;grind,?_⟩
    refine jW (i:=8) (j:=12) (by kernel_rfl) rfl rfl rfl rfl ?_ ?_
    ·simp[F]
     refine⟨by intro z b hz;simp only[aA,aF] at hz ⊢;grind,?_⟩
     refine Dz 12 ?_
     simp[F,appV,elsV,Int.not_lt.2 hg9,bH]
     refine⟨by omega,fun g12 uO pU=> ?_⟩
     have oL: ¬ g12=g2:=by grind
     have oD: ¬ g12=g7:=by grind
     have F:=ad (ad F oL) oD
     have b12:bl g12=none:=by grind
     have z12:0≤g12∨r.d= []:=uO.imp id (fun h=>by simpa [iv] using h)
     refine⟨by intro z b hz;simp only[aA,aF] at hz ⊢;grind,?_⟩
     refine Dz 13 ?_
     simp[F]
     refine⟨by intro z b hz;simp only[aA,aF] at hz ⊢;grind,?_⟩
     refine Dz 14 ?_
     simp[F]
     refine⟨by intro z b hz;simp only[aA,aF] at hz ⊢;grind,?_⟩
     refine Dy ?_
     simp[F]
     refine aK [.agg [.bool r.neg,.lsl g7 1 0 r.m.length,.lsl g12 1 0 r.d.length]] 2 (by simp[F]) (mC z7 z12 b7 b12 ?_ ?_) ?_
     ·simp[F]
     ·simp[F]
     ·intro z b hz;simp only[aA,aF] at hz ⊢;grind
    ·simp[F,appV,elsV,Int.not_lt.2 hg9,bH]
     refine⟨by omega,fun g12 uO pU=> ?_⟩
     have oL: ¬ g12=g2:=by grind
     have oD: ¬ g12=g7:=by grind
     have F:=ad (ad F oL) oD
     have b12:bl g12=none:=by grind
     have z12:0≤g12∨r.d= []:=uO.imp id (fun h=>by simpa [iv] using h)
     refine⟨by intro z b hz;simp only[aA,aF] at hz ⊢;grind,?_⟩
     refine Dz 8 ?_
     simp[F]
     refine⟨by intro z b hz;simp only[aA,aF] at hz ⊢;grind,?_⟩
     refine Dz 13 ?_
     simp[F]
     refine⟨by intro z b hz;simp only[aA,aF] at hz ⊢;grind,?_⟩
     refine Dz 14 ?_
     simp[F]
     refine⟨by intro z b hz;simp only[aA,aF] at hz ⊢;grind,?_⟩
     refine Dy ?_
     simp[F]
     refine aK [.agg [.bool r.neg,.lsl g7 1 0 r.m.length,.lsl g12 1 0 r.d.length]] 2 (by simp[F]) (mC z7 z12 b7 b12 ?_ ?_) ?_
     ·simp[F]
     ·simp[F]
     ·intro z b hz;simp only[aA,aF] at hz ⊢;grind
  ·simp[F]
   intro g9 hg9
   intros
   have Hg: ¬ g9=g2:=by first | assumption | grind
   have aVG: ¬ g9=g3:=by first | assumption | grind
   have F:=ad (ad F Hg) aVG
   have b9:bl g9=none:=by first | assumption | grind
   refine⟨by intro z b hz;simp only[aA,aF] at hz ⊢;grind,?_⟩
   refine Dz 7 ?_
   simp[F,appV,elsV,Int.not_lt.2 hg3,bH]
   refine⟨by omega,fun g7 hg7 hb7=> ?_⟩
   have Sj: ¬ g7=g2:=by grind
   have aCP: ¬ g7=g9:=by grind
   have F:=ad (ad F Sj) aCP
   have b7:bl g7=none:=by grind
   have z7:0≤g7∨r.m= []:=hg7.imp id (fun h=>by simpa [iv] using h)
   refine⟨by intro z b hz;simp only[aA,aF] at hz ⊢;grind,?_⟩
   refine jW (i:=8) (j:=12) (by kernel_rfl) rfl rfl rfl rfl ?_ ?_
   ·simp[F]
    refine⟨by intro z b hz;simp only[aA,aF] at hz ⊢;grind,?_⟩
    refine Dz 12 ?_
    simp[F,appV,elsV,Int.not_lt.2 hg9,bH]
    refine⟨by omega,fun g12 uO pU=> ?_⟩
    have oL: ¬ g12=g2:=by grind
    have oD: ¬ g12=g7:=by grind
    have F:=ad (ad F oL) oD
    have b12:bl g12=none:=by grind
    have z12:0≤g12∨r.d= []:=uO.imp id (fun h=>by simpa [iv] using h)
    refine⟨by intro z b hz;simp only[aA,aF] at hz ⊢;grind,?_⟩
    refine Dz 13 ?_
    simp[F]
    refine⟨by intro z b hz;simp only[aA,aF] at hz ⊢;grind,?_⟩
    refine Dz 14 ?_
    simp[F]
    refine⟨by intro z b hz;simp only[aA,aF] at hz ⊢;grind,?_⟩
    refine Dy ?_
    simp[F]
    refine aK [.agg [.bool r.neg,.lsl g7 1 0 r.m.length,.lsl g12 1 0 r.d.length]] 2 (by simp[F]) (mC z7 z12 b7 b12 ?_ ?_) ?_
    ·simp[F]
    ·simp[F]
    ·intro z b hz;simp only[aA,aF] at hz ⊢;grind
   ·simp[F,appV,elsV,Int.not_lt.2 hg9,bH]
    refine⟨by omega,fun g12 uO pU=> ?_⟩
    have oL: ¬ g12=g2:=by grind
    have oD: ¬ g12=g7:=by grind
    have F:=ad (ad F oL) oD
    have b12:bl g12=none:=by grind
    have z12:0≤g12∨r.d= []:=uO.imp id (fun h=>by simpa [iv] using h)
    refine⟨by intro z b hz;simp only[aA,aF] at hz ⊢;grind,?_⟩
    refine Dz 8 ?_
    simp[F]
    refine⟨by intro z b hz;simp only[aA,aF] at hz ⊢;grind,?_⟩
    refine Dz 13 ?_
    simp[F]
    refine⟨by intro z b hz;simp only[aA,aF] at hz ⊢;grind,?_⟩
    refine Dz 14 ?_
    simp[F]
    refine⟨by intro z b hz;simp only[aA,aF] at hz ⊢;grind,?_⟩
    refine Dy ?_
    simp[F]
    refine aK [.agg [.bool r.neg,.lsl g7 1 0 r.m.length,.lsl g12 1 0 r.d.length]] 2 (by simp[F]) (mC z7 z12 b7 b12 ?_ ?_) ?_
    ·simp[F]
    ·simp[F]
    ·intro z b hz;simp only[aA,aF] at hz ⊢;grind
 ·simp[]
  intro g9 hg9
  intros
  have Hg: ¬ g9=g2:=by first | assumption | grind
  have F:=ad F Hg
  have b9:bl g9=none:=by first | assumption | grind
  refine⟨by intro z b hz;simp only[aA,aF] at hz ⊢;grind,?_⟩
  refine Dz 3 ?_
  simp[F]
  intro g3 hg3
  intros
  have aCO: ¬ g3=g2:=by first | assumption | grind
  have aWV: ¬ g3=g9:=by first | assumption | grind
  have F:=ad (ad F aCO) aWV
  have b3:bl g3=none:=by first | assumption | grind
  refine⟨by intro z b hz;simp only[aA,aF] at hz ⊢;grind,?_⟩
  refine Dz 7 ?_
  simp[F,appV,elsV,Int.not_lt.2 hg3,bH]
  refine⟨by omega,fun g7 hg7 hb7=> ?_⟩
  have Sj: ¬ g7=g2:=by grind
  have aCP: ¬ g7=g9:=by grind
  have F:=ad (ad F Sj) aCP
  have b7:bl g7=none:=by grind
  have z7:0≤g7∨r.m= []:=hg7.imp id (fun h=>by simpa [iv] using h)
  refine⟨by intro z b hz;simp only[aA,aF] at hz ⊢;grind,?_⟩
  refine jW (i:=8) (j:=12) (by kernel_rfl) rfl rfl rfl rfl ?_ ?_
  ·simp[F]
   refine⟨by intro z b hz;simp only[aA,aF] at hz ⊢;grind,?_⟩
   refine Dz 12 ?_
   simp[F,appV,elsV,Int.not_lt.2 hg9,bH]
   refine⟨by omega,fun g12 uO pU=> ?_⟩
   have oL: ¬ g12=g2:=by grind
   have oD: ¬ g12=g7:=by grind
   have F:=ad (ad F oL) oD
   have b12:bl g12=none:=by grind
   have z12:0≤g12∨r.d= []:=uO.imp id (fun h=>by simpa [iv] using h)
   refine⟨by intro z b hz;simp only[aA,aF] at hz ⊢;grind,?_⟩
   refine Dz 13 ?_
   simp[F]
   refine⟨by intro z b hz;simp only[aA,aF] at hz ⊢;grind,?_⟩
   refine Dz 14 ?_
   simp[F]
   refine⟨by intro z b hz;simp only[aA,aF] at hz ⊢;grind,?_⟩
   refine Dy ?_
   simp[F]
   refine aK [.agg [.bool r.neg,.lsl g7 1 0 r.m.length,.lsl g12 1 0 r.d.length]] 2 (by simp[F]) (mC z7 z12 b7 b12 ?_ ?_) ?_
   ·simp[F]
   ·simp[F]
   ·intro z b hz;simp only[aA,aF] at hz ⊢;grind
  ·simp[F,appV,elsV,Int.not_lt.2 hg9,bH]
   refine⟨by omega,fun g12 uO pU=> ?_⟩
   have oL: ¬ g12=g2:=by grind
   have oD: ¬ g12=g7:=by grind
   have F:=ad (ad F oL) oD
   have b12:bl g12=none:=by grind
   have z12:0≤g12∨r.d= []:=uO.imp id (fun h=>by simpa [iv] using h)
   refine⟨by intro z b hz;simp only[aA,aF] at hz ⊢;grind,?_⟩
   refine Dz 8 ?_
   simp[F]
   refine⟨by intro z b hz;simp only[aA,aF] at hz ⊢;grind,?_⟩
   refine Dz 13 ?_
   simp[F]
   refine⟨by intro z b hz;simp only[aA,aF] at hz ⊢;grind,?_⟩
   refine Dz 14 ?_
   simp[F]
   refine⟨by intro z b hz;simp only[aA,aF] at hz ⊢;grind,?_⟩
   refine Dy ?_
   simp[F]
   refine aK [.agg [.bool r.neg,.lsl g7 1 0 r.m.length,.lsl g12 1 0 r.d.length]] 2 (by simp[F]) (mC z7 z12 b7 b12 ?_ ?_) ?_
   ·simp[F]
   ·simp[F]
   ·intro z b hz;simp only[aA,aF] at hz ⊢;grind

def aV3 (row:List Int):List (Option Rat):=row.map fun(n:Int)=>some (n:Rat)
def aXB (rows:List (List Int)):List (List (Option Rat)):=rows.map aV3
def aBS (l:List Int):List RT:=l.map fun(n:Int)=>ro (some (n:Rat))
def small (rows:List (List Int)):Prop:= ∀w,w∈rows→ ∀n,n∈w→ -100≤n∧n≤100
def aZG (s:Str):MX:=if sOk s=true then⟨(dF s).length,s.ms.length,aBS (iD s)⟩ else⟨0,0,[]⟩

def r6 (n:Int):Rat:=mkRat n 6
def q6 (n:Int):Option Rat:=some (r6 n)
def dotTo (a u:List Int):Nat→Int
 | 0 => 0
 | n + 1 => dotTo a u n + lN a n * lN u n
def aOE (a b:List (Option Rat)):Nat→Option Rat
 | 0 => some 0
 | n + 1 => op2 (· + ·) (aOE a b n) (op2 (· * ·) (a.getD n none) (b.getD n none))

theorem Jj (p:Pg):(dPg p).dep 2:=by simp[dPg,D.dep,D.depL,iZ]
theorem Sf (p:Pg):(dPg p).fz= .agg p.v:=by simp[dPg,D.fz,D.fzL,Pg.v]

def bv (bs:List Int):List (List V):=bs.map fun b=> [.int .u8 b]
def cur (bs:List Int) (i h:Int):Blk:=⟨3,[[.sl (bv bs),.int .i64 i,.int .i64 h]]⟩
def lo8 (a:Int):Int:=IntKind.i64.wrap ((BitVec.ofInt 64 a &&& BitVec.ofInt 64 255).toNat)
@[simp high] theorem aKT (P : Program) (t : TypeId) (a : Int) : binV P .and t (.int .i64 a) (.int .i64 255) = some (.int .i64 (lo8 a)) := rfl
def aPG (a:Int) (n:Nat):Int:=a.fdiv (2^n)
def aVI (a b:Int):Int:=IntKind.i64.wrap ((BitVec.ofInt 64 a^^^BitVec.ofInt 64 b).toNat)
@[simp high] theorem aQ6 (P : Program) (t : TypeId) (a : Int) : binV P .shr t (.int .i64 a) (.int .u64 33) = some (.int .i64 (aPG a 33)) := rfl
@[simp high] theorem aQ1 (P : Program) (t : TypeId) (a : Int) : binV P .shr t (.int .i64 a) (.int .u64 45) = some (.int .i64 (aPG a 45)) := rfl
@[simp high] theorem aHL (P : Program) (t : TypeId) (a b : Int) : binV P .xor t (.int .i64 a) (.int .i64 b) = some (.int .i64 (aVI a b)) := rfl
structure aLD (bs : List Int) (i : Int) : Prop where
 n:bs.length≤1048576
 b: ∀x,x∈bs→0≤x∧x<256
 i0:0≤i
 i1:i≤bs.length
end Go.Proofs.YticmgmemnpcbbaaGreat.Vm
