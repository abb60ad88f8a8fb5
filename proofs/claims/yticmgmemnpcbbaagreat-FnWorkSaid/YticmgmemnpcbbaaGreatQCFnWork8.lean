import Derived.Test.YticmgmemnpcbbaaGreatQCFnWork7

namespace Go.Proofs.YticmgmemnpcbbaaGreat.Vm
open Go Go.RowKit Go.Proofs
set_option linter.unusedSimpArgs false
set_option linter.unusedVariables false
theorem Ag {b:Int→Option Blk} {g:Int} {els:List (List V)} {L i:Nat} (h0:0≤g) (hb:b g=some ⟨1,els⟩) (hl:els.length=L) (hi:i+1≤L):
  ∃x,(if(i:Int)+1=0 then some (V.lsl g 1 0 L) else if(i:Int)+1=(L:Int) then some (V.sl []) else some (V.lsl g 1 (i+1) (L - (i+1))))=some x∧elsV b 1 x=some (els.drop (i+1)):=by
 rw[if_neg (by omega)]
 by_cases h:i+1=L
 ·rw[if_pos (by omega)]
  refine⟨_,rfl,?_⟩
  rw[List.drop_eq_nil_of_le (by omega)]
  simp[elsV]
 ·rw[if_neg (by omega)]
  refine⟨_,rfl,?_⟩
  simp only[elsV]
  rw[if_neg (by omega),hb]
  simp only
  rw[if_pos (by simp;omega),List.take_of_length_le (by simp;omega)]
structure aHA where
 j:Nat
 g:TG
 b:Int→Option Blk
set_option maxHeartbeats 1000000 in
theorem Gx {bl:Int→Option Blk} {K:V→(Int→Option Blk)→Prop} (n m:Nat) (E:Nat→Nat→Rat) (g:TG) (t:Lp.Tab) (fr:Nat→Bool) (hm:m≤17) (hn:n+m≤100) (hk0:Lp.yN n m (n+m+1) 1000 E 0 t) (hTT:TT bl g (bD n m E (List.range m) t fr))
  (hK: ∀b' g',g'.T=g.T→g'.F=g.F→TT b' g' (bD n m E (Lp.bH n (Lp.kicks n t m) m) (Lp.kicks n t m) fr)→(∀x,x∈g'.all→x∈g.all∨bl x=none)→(∀x y,bl x=some y→x∉g.all→b' x=some y)→K (.tup []) b'):
  bJ Tryz.prog 206 [.loc g.T 6 0 0,.int .i64 n] bl K:=by
 have hkk:=Lp.lL hk0 (show n≤n+m+1 by omega)
 refine aZ Tryz.func206 rfl rfl (by rw[Tryz.ntmps206];simp) ?_
 rw[Tryz.ntmps206,Tryz.results206]
 refine aC ?_
 simp
 refine aK (fun q:aHA=> [(0,.loc g.T 6 0 0),(1,.int .i64 n),(4,.int .i64 (Lp.bH n (Lp.kicks n t q.j) q.j).length)]) (fun q=>q.b) (fun q=>q.j≤m∧TT q.b q.g (bD n m E (eG n m (Lp.kicks n t q.j) q.j) (Lp.kicks n t q.j) fr)∧q.g.T=g.T∧q.g.F=g.F∧(∀x,x∈q.g.all→x∈g.all∨bl x=none)∧(∀x y,bl x=some y→x∉g.all→q.b x=some y)) (fun q=>m - q.j) _ ⟨0,g,bl⟩ ⟨Nat.zero_le _,by simp only[Lp.kicks];rw[W1];exact hTT,rfl,rfl,fun x hx=> .inl hx,fun _ _ h _=>h⟩ ⟨rfl,by simp[Lp.bH],Sub.refl _⟩ ?_
 rintro⟨j,⟨gT,gR,gB,gF,ids⟩,b⟩ ⟨hj,hTb,rfl,rfl,hal,hfb⟩
 simp only at hj hTb hal hfb
 obtain⟨tj,htj⟩: ∃tj,Lp.kicks n t j=tj:=⟨_,rfl⟩
 have hkj:=hkk j hj
 rw[htj] at hTb hkj
 have hI:=Da hkj hj
 have hR:=Y0 (n:=n) tj hj
 have hlen:=Bl n m j tj
 have hrl:=hR.len
 have bT:b g.T=_:=hTb.hd
 have bB:b gB=_:=hTb.ba
 have bG:b gR=_:=hTb.dW.top
 simp only[bD] at bT bB bG
 have Ge: ∀(q:Nat),Lp.kicks n t (j+1)=Lp.uZ n tj j:=fun _=>by rw[Lp.kicks,htj]
 obtain⟨i,hi⟩: ∃i,(Lp.bH n tj j).length=i:=⟨_,rfl⟩
 rw[hi] at hlen
 have wi:IntKind.i64.wrap ((i:Int)+1)=(i:Int)+1:=i64_in (by omega) (by omega)
 refine aE ?_
 simp[bT,htj,hi]
 refine⟨fun hlt=> ?_,fun hlt=> ?_⟩
 ·have hjm:j<m:=by omega
  have hat:=Fo (n:=n) (t:=tj) hjm
  rw[hi] at hat
  have hiR:i<(eG n m tj j).length:=by omega
  obtain⟨gi,hgi,Bp,Vv,tR⟩:=hTb.dW.at i (by simp only[bD];exact hiR)
  simp only[bD] at tR
  refine cD ?_
  refine aE ?_
  simp[bT,bB,hiR,hat]
  refine⟨fun hbj=> ?_,fun hbj=> ?_⟩
  ·have ek:Lp.kicks n t (j+1)=tj:=by
    rw[Ge 0];unfold Lp.uZ;rw[if_pos hbj]
   obtain⟨e1,e2⟩:=uR (n:=n) (t:=tj) (t':=tj) hjm (fun _ _=>rfl) hbj
   simp[wi,aB]
   refine⟨⟨j+1,⟨g.T,gR,gB,g.F,ids⟩,b⟩,⟨by simp only;omega,by simp only;rw[ek,e1];exact hTb,rfl,rfl,hal,hfb⟩,by simp only;omega,rfl,?_,Sub.refl _⟩
   simp[ek,e2,hi]
  have hnb: ¬ tj.bs j<n:=by omega
  have hzs: ∀c,c<n+m+1→_:=fun c hc=>Lp.nZ hkj.z hjm hc
  refine aE ?_
  simp
  refine aC ?_
  simp
  refine aK (fun k:Nat=> [(0,.loc g.T 6 0 0),(1,.int .i64 n),(4,.int .i64 i),(5,.int .i64 k)]) (fun _=>b) (fun k=>k≤n∧ ∀c,c<k→ ¬ tj.X j c≠0) (fun k=>n - k) _ 0 ⟨Nat.zero_le _,fun c hc=>absurd hc (Nat.not_lt_zero _)⟩ ⟨rfl,by simp,Sub.refl _⟩ ?_
  rintro k ⟨hk,cO⟩
  have wk:IntKind.i64.wrap ((k:Int)+1)=(k:Int)+1:=i64_in (by omega) (by omega)
  refine aC ?_
  simp
  refine aV [(0,.loc g.T 6 0 0),(1,.int .i64 n),(4,.int .i64 i),(5,.int .i64 k)] _ b 40 (.bool (decide (k<n∧Lp.zt m E tj j k=0))) ⟨rfl,by simp,Sub.refl _⟩ rfl ?_ ?_
  ·by_cases hkn:k<n
   ·have e3:(k:Int)<(n:Int)+m+1:=by omega
    simp[hkn,bT,bG,hiR,hgi,tR,hat,show k<n+m+1 by omega,e3]
    refine aD (jS _) ?_
    simp[Int.sign_eq_zero_iff_zero]
    by_cases h0:Lp.zt m E tj j k=0<;>simp[h0]
   ·simp[hkn]
  simp
  refine⟨fun hkn h0=> ?_,fun hno=> ?_⟩
  ·simp[wk,aB]
   refine⟨k+1,⟨by omega,fun c hc=> ?_⟩,by omega,rfl,by simp,Sub.refl _⟩
   by_cases ec:c=k
   ·rw[ec];exact(hzs k (by omega)).2.1 h0
   ·have:=cO c (by omega);grind
  ·refine⟨fun hkn=> ?_,fun hkn=> ?_⟩
   ·have hx:tj.X j k≠0:=fun h0=>hno hkn ((hzs k (by omega)).2.2 h0)
    have ek:Lp.kicks n t (j+1)=Lp.piv tj j k:=by
     rw[Ge 0];unfold Lp.uZ;rw[if_neg hnb,Lp.dZ.2 ⟨hkn,hx,cO⟩]
    obtain⟨Y,hY,hYT⟩:=La hI hR hiR (show k<n+m by omega) (by rw[hat];exact hx) fr
    rw[hat] at hYT
    obtain⟨e1,e2⟩:=uR (n:=n) (t:=tj) (t':=Lp.piv tj j k) hjm (fun x hx=>(Lp.cC tj k (show x≠j by omega)).symm) (by rw[Lp.dK];exact hkn)
    refine P2 ⟨g.T,gR,gB,g.F,ids⟩ (bD n m E (eG n m tj j) tj fr) i k Y hTb (Z8 hI hm hn hR) hiR (show k<n+m by omega) hY fun b' hT' hf'=> ?_
    simp[wi,aB]
    refine⟨⟨j+1,⟨g.T,gR,gB,g.F,ids⟩,b'⟩,⟨by simp only;omega,by simp only;rw[ek,e1];exact hYT b' _ hT',rfl,rfl,hal,fun x y hx hn=> ?_⟩,by simp only;omega,rfl,?_,Sub.refl _⟩
    ·have h1:=hfb x y hx hn
     refine hf' x y h1 fun hm2=> ?_
     rcases hal x hm2 with h2 | h2
     ·exact hn h2
     ·rw[h2] at hx;cases hx
    ·simp[ek,e2,hi]
   ·have ek:Lp.kicks n t (j+1)=tj:=by
     rw[Ge 0];unfold Lp.uZ;rw[if_neg hnb,Lp.eJ.2 fun c hc=>cO c (by omega)]
    obtain⟨e1,e2⟩:=R8 (n:=n) (t:=tj) hjm hnb
    rw[hi] at e1
    have nds:=hTb.nd
    simp only[List.nodup_cons,List.mem_cons,not_or] at nds
    obtain⟨⟨nTR,nTB,nTF,nTi⟩,⟨nRB,nRF,nRi⟩,⟨nBF,nBi⟩,nFi,Nf⟩:=nds
    have hil:=hTb.dW.len
    simp only[bD] at hil
    generalize hL:(eG n m tj j).length=L at *
    refine sL aQ (rem b gR) (uY b gR) [0,1,2,3,4,5,6,7,8,9,10,11,12,13] 4 17 (by kernel_rfl) ?_
    have q1:i≤L:=by omega
    have q2:i+1≤L:=by omega
    have q3:(i:Int)≤L:=by omega
    have q4:(i:Int)+1≤L:=by omega
    have q5:0≤(i:Int)+1:=by omega
    have q6:((i:Int)+1).toNat=i+1:=by omega
    have aEG:0≤gR:=by
     rcases Int.lt_or_le gR 0 with h9 | h9
     ·have:=hTb.pR h9;simp only[bD] at this;omega
     ·exact h9
    obtain⟨x1,hx1,hx2⟩:=Ag (b:=b) (g:=gR) (els:=ids.map fun g=> [V.lsl g 2 0 (n+m+1)]) (L:=L) (i:=i) aEG bG (by simp[hil]) q2
    simp[nTR,bT,wi,sliV,q1,q2,q3,q4,q5,q6,aEG,hx1]
    refine Dq 14 false ?_
    simp[appV,hx2,bG,hil]
    rw[if_pos q1,←List.map_take,←List.map_drop,←List.map_append]
    have hcl:(ids.take i++ids.drop (i+1)).length=L - 1:=by simp;omega
    generalize Ib:ids.take i++ids.drop (i+1)=nids at hcl
    simp[hcl]
    refine⟨by omega,fun gN hgN hbN=> ?_⟩
    have Je: ∀X,Sub (rem b gR) (upd (rem b gR) gN X):=fun X z y hz=>by
     rw[aJ] at hz
     rw[aA,aJ]
     grind
    have nNT: ¬ gN=g.T:=fun e=>by have:=hbN (by rw[e];exact nTR);rw[e,bT] at this;cases this
    have nNB: ¬ gN=gB:=fun e=>by have:=hbN (by rw[e];exact Ne.symm nRB);rw[e,bB] at this;cases this
    have bF:b g.F=_:=hTb.fre
    have nNF: ¬ gN=g.F:=fun e=>by have:=hbN (by rw[e];exact Ne.symm nRF);rw[e,bF] at this;cases this
    have nNi:gN∉ids:=fun hm2=>by
     obtain⟨q,hq⟩:=List.mem_iff_getElem?.1 hm2
     have:=hbN fun e=>nRi (e▸hm2)
     rw[hTb.dW.row q gN hq] at this;cases this
    refine⟨Je _,Dq 15 false ?_⟩
    simp
    refine⟨Je _,Dq 16 false ?_⟩
    simp
    refine⟨Je _,Dq 17 true ?_⟩
    simp[Ne.symm nNT,nTR,bT]
    refine Dd ?_
    obtain⟨b1,hb1⟩: ∃b1,b1=upd (upd (rem b gR) gN (some ⟨1,nids.map fun g=> [.lsl g 2 0 (n+m+1)]⟩)) g.T (some ⟨6,[[.lsl gN 1 0 (L - 1),.bool (decide (Lp.dz m E tj<0)),.sl (iv (lim (Lp.dz m E tj).natAbs)),.lsl gB 1 0 L,.int .i64 (n+m:Nat),.lsl g.F 1 0 (n+m)]]⟩):=⟨_,rfl⟩
    have c1T:b1 g.T=some ⟨6,[[.lsl gN 1 0 (L - 1),.bool (decide (Lp.dz m E tj<0)),.sl (iv (lim (Lp.dz m E tj).natAbs)),.lsl gB 1 0 L,.int .i64 (n+m:Nat),.lsl g.F 1 0 (n+m)]]⟩:=by rw[hb1];simp
    have c1N:b1 gN=some ⟨1,nids.map fun g=> [.lsl g 2 0 (n+m+1)]⟩:=by rw[hb1];simp[nNT]
    have c1: ∀x,x≠g.T→x≠gN→x≠gR→b1 x=b x:=fun x x1 x2 x3=>by rw[hb1,aL _ _ _ _ x1,aL _ _ _ _ x2,aJ,if_neg x3]
    have c1B:b1 gB=b gB:=c1 gB (Ne.symm nTB) (Ne.symm nNB) (Ne.symm nRB)
    rw[bB] at c1B
    refine gV [(0,.loc g.T 6 0 0),(1,.int .i64 n),(4,.int .i64 i),(5,.int .i64 k)] 86 b1 ⟨rfl,by simp,by rw[hb1];exact sub_eq rfl⟩ ?_
    clear hb1
    have aGM:0≤gB:=by
     rcases Int.lt_or_le gB 0 with h9 | h9
     ·have:=hTb.pB h9;simp only[bD] at this;omega
     ·exact h9
    obtain⟨bas,Ic⟩: ∃x,iv (lb L fun p=>tj.bs (atR (eG n m tj j) p))=x:=⟨_,rfl⟩
    have hbl:bas.length=L:=by rw[←Ic];simp
    rw[Ic] at c1B
    refine sL aQ (rem b1 gB) (uY b1 gB) [0,1,2,3,4,5,6,7,8,9,10,11,12,13] 4 17 (by kernel_rfl) ?_
    obtain⟨x2,hx3,hx4⟩:=Ag (b:=b1) (g:=gB) (els:=bas) (L:=L) (i:=i) aGM c1B hbl q2
    simp[nTB,c1T,wi,sliV,q1,q2,q3,q4,q5,q6,aGM,hx3]
    refine Dq 14 false ?_
    simp[appV,hx4,c1B,hbl]
    rw[if_pos q1]
    have Fe:(bas.take i++bas.drop (i+1)).length=L - 1:=by simp;omega
    generalize hnb2:bas.take i++bas.drop (i+1)=nbas at Fe
    simp[Fe]
    refine⟨by omega,fun gM hgM hbM=> ?_⟩
    have vK: ∀X,Sub (rem b1 gB) (upd (rem b1 gB) gM X):=fun X z y hz=>by
     rw[aJ] at hz
     rw[aA,aJ]
     grind
    have mMT: ¬ gM=g.T:=fun e=>by have:=hbM (by rw[e];exact nTB);rw[e,c1T] at this;cases this
    have mMN: ¬ gM=gN:=fun e=>by have:=hbM (by rw[e];exact nNB);rw[e,c1N] at this;cases this
    have c1F:b1 g.F=b g.F:=c1 g.F (Ne.symm nTF) (Ne.symm nNF) (Ne.symm nRF)
    have mMF: ¬ gM=g.F:=fun e=>by have:=hbM (by rw[e];exact Ne.symm nBF);rw[e,c1F,bF] at this;cases this
    have c1i: ∀x,x∈ids→b1 x=b x:=fun x hx=>c1 x (fun e=>nTi (e▸hx)) (fun e=>nNi (e▸hx)) (fun e=>nRi (e▸hx))
    have mMi:gM∉ids:=fun hm2=>by
     obtain⟨q,hq⟩:=List.mem_iff_getElem?.1 hm2
     have:=hbM fun e=>nBi (e▸hm2)
     rw[c1i gM hm2,hTb.dW.row q gM hq] at this;cases this
    refine⟨vK _,Dq 15 false ?_⟩
    simp
    refine⟨vK _,Dq 16 false ?_⟩
    simp
    refine⟨vK _,Dq 17 true ?_⟩
    simp[Ne.symm mMT,nTB,c1T]
    refine Dd ?_
    simp[aB]
    obtain⟨b2,hb2⟩: ∃b2,b2=(upd (upd (rem b1 gB) gM (some ⟨1,nbas⟩)) g.T (some ⟨6,[[.lsl gN 1 0 (L - 1),.bool (decide (Lp.dz m E tj<0)),.sl (iv (lim (Lp.dz m E tj).natAbs)),.lsl gM 1 0 (L - 1),.int .i64 (n+m:Nat),.lsl g.F 1 0 (n+m)]]⟩)):=⟨_,rfl⟩
    have hbF:b2 g.F=b g.F:=by rw[hb2];simp[Ne.symm nTF,Ne.symm mMF,Ne.symm nBF,c1F]
    have aK8:b2 gN=some ⟨1,nids.map fun g=> [.lsl g 2 0 (n+m+1)]⟩:=by rw[hb2];simp[nNT,Ne.symm mMN,nNB,c1N]
    have aKZ:b2 gM=some ⟨1,nbas⟩:=by rw[hb2];simp[mMT]
    have aL6:b2 g.T=some ⟨6,[[.lsl gN 1 0 (L - 1),.bool (decide (Lp.dz m E tj<0)),.sl (iv (lim (Lp.dz m E tj).natAbs)),.lsl gM 1 0 (L - 1),.int .i64 (n+m:Nat),.lsl g.F 1 0 (n+m)]]⟩:=by rw[hb2];simp
    have aMP: ∀x,x∈ids→b2 x=b x:=fun x hx=>by
     have x1:x≠g.T:=fun e=>nTi (e▸hx)
     have x2:x≠gM:=fun e=>mMi (e▸hx)
     have x3:x≠gB:=fun e=>nBi (e▸hx)
     rw[hb2,aL _ _ _ _ x1,aL _ _ _ _ x2,aJ,if_neg x3];exact c1i x hx
    have aKX: ∀x,x≠g.T→x≠gM→x≠gB→b2 x=b1 x:=fun x x1 x2 x3=>by rw[hb2,aL _ _ _ _ x1,aL _ _ _ _ x2,aJ,if_neg x3]
    have aDE:=hTb.cut (b':=b2) (i:=i) (by rw[hL];exact q2) gN gM (by rw[aK8,Ib]) (by rw[aKZ];simp only[hL,Ic,hnb2]) (by rw[aL6,hL]) hbF aMP
     (fun h9=>by rcases hgN with h8 | h8;omega;rw[hL,←hcl,h8];rfl) (fun h9=>by rcases hgM with h8 | h8;omega;rw[hL,←Fe,h8];rfl)
     (by simp only[List.nodup_cons,List.mem_cons,not_or];exact⟨⟨Ne.symm nNT,Ne.symm mMT,nTF,nTi⟩,⟨Ne.symm mMN,nNF,nNi⟩,⟨mMF,mMi⟩,nFi,Nf⟩)
    rw[←e1] at aDE
    refine⟨⟨j+1,⟨g.T,gN,gM,g.F,ids.take i++ids.drop (i+1)⟩,b2⟩,⟨by simp only;omega,by simp only;rw[ek];exact aDE,rfl,rfl,fun x hx=> ?_,fun x y hx hn=> ?_⟩,by simp only;omega,rfl,by simp[ek,e2,hi],by rw[hb2];exact sub_eq rfl⟩
    ·have hT2:=hal g.T (by simp[TG.all])
     have hF2:=hal g.F (by simp[TG.all])
     have aJ8:bl gN=none∨gN∈g.all:=by
      by_cases e:gN=gR
      ·rcases hal gR (by simp[TG.all]) with h9 | h9
       ·exact .inr (e▸h9)
       ·exact .inl (e▸h9)
      ·cases hv:bl gN with
       | none => exact .inl rfl
       | some y =>
         by_cases sU:gN∈g.all
         ·exact .inr sU
         ·have:=hfb gN y hv sU
          rw[hbN e] at this;cases this
     have aLR:bl gM=none∨gM∈g.all:=by
      by_cases e:gM=gB
      ·rcases hal gB (by simp[TG.all]) with h9 | h9
       ·exact .inr (e▸h9)
       ·exact .inl (e▸h9)
      ·by_cases e3:gM=gR
       ·rcases hal gR (by simp[TG.all]) with h9 | h9
        ·exact .inr (e3▸h9)
        ·exact .inl (e3▸h9)
       ·cases hv:bl gM with
        | none => exact .inl rfl
        | some y =>
          by_cases sU:gM∈g.all
          ·exact .inr sU
          ·have h8:=hfb gM y hv sU
           have h7:=hbM e
           rw[c1 gM mMT mMN e3,h8] at h7;cases h7
     simp only[TG.all,List.mem_cons] at hx
     rcases hx with rfl | rfl | rfl | rfl | hx
     ·exact hT2
     ·exact aJ8.symm
     ·exact aLR.symm
     ·exact hF2
     ·exact hal x (by
       simp only[TG.all,List.mem_cons]
       refine .inr (.inr (.inr (.inr ?_)))
       rcases List.mem_append.1 hx with hx | hx
       ·exact List.mem_of_mem_take hx
       ·exact List.mem_of_mem_drop hx)
    ·have h9:=hfb x y hx hn
     have hne: ∀z,z∈TG.all ⟨g.T,gR,gB,g.F,ids⟩→x≠z:=fun z hz e=>by
      rcases hal z hz with h8 | h8
      ·exact hn (e▸h8)
      ·rw[e,h8] at hx;cases hx
     have xT:=hne g.T (by simp[TG.all])
     have xR:=hne gR (by simp[TG.all])
     have xB:=hne gB (by simp[TG.all])
     have xN:x≠gN:=fun e=>by
      have:=hbN fun e2=>xR (e.trans e2)
      rw[←e,h9] at this;cases this
     have xM:x≠gM:=fun e=>by
      have:=hbM fun e2=>xB (e.trans e2)
      rw[←e,c1 x xT xN xR,h9] at this;cases this
     simp only
     rw[aKX x xT xM xB,c1 x xT xN xR]
     exact h9
 ·have hjm:j=m:=by omega
  subst hjm
  rw[Bi] at hTb
  rw[htj] at hK
  rw[mW]
  exact⟨[],by simp,hK b ⟨g.T,gR,gB,g.F,ids⟩ rfl rfl hTb hal hfb⟩

structure PgN (p : Pg) (n m : Nat) : Prop where
 rows:p.rows=m
 bE:p.bE=n
 al:p.a.length=m*n
 bl:p.b.length=m
 cl:p.c.length=n
 am: ∀x,x∈p.a→x.natAbs≤1000
 bm: ∀x,x∈p.b→x.natAbs≤1000
 cm: ∀x,x∈p.c→x.natAbs≤1000
 ml:m≤17
 nl:n+m≤100
def pA (p:Pg) (n i j:Nat):Int:=p.a.getD (i*n+j) 0
def pB (p:Pg) (i:Nat):Int:=p.b.getD i 0
def pC (p:Pg) (j:Nat):Int:=p.c.getD j 0
theorem lG {l:List Int} (h: ∀x,x∈l→x.natAbs≤1000) (i:Nat):(l.getD i 0).natAbs≤1000:=by
 rw[List.getD_eq_getElem?_getD]
 cases hx:l[i]? with
 | none => simp
 | some x => exact h x (List.mem_of_getElem? hx)
theorem vA (l:List Int):l=lz l.length fun i=>l.getD i 0:=by
 apply List.ext_getElem
 ·simp
 ·intro i h1 h2
  simp[lz,List.getD_eq_getElem?_getD,h1]
theorem PgN.b {p:Pg} {n m:Nat} (h:PgN p n m):p.b=lz m (pB p):=by rw[←h.bl];exact vA p.b
theorem PgN.c {p:Pg} {n m:Nat} (h:PgN p n m):p.c=lz n (pC p):=by rw[←h.cl];exact vA p.c
theorem PgN.row {p:Pg} {n m i:Nat} (h:PgN p n m) (hi:i<m):((iv p.a).take (i*n+n)).drop (i*n)=iv (lz n (pA p n i)):=by
 have hl:i*n+n≤p.a.length:=by
  rw[h.al]
  have:=Nat.mul_le_mul_right n (show i+1≤m by omega)
  rwa [Nat.add_mul,Nat.one_mul] at this
 apply List.ext_getElem
 ·simp;omega
 ·intro j h1 h2
  have hj:j<n:=by simpa using h2
  simp only[List.getElem_drop,List.getElem_take,lB,uB,pA]
  rw[List.getD_eq_getElem?_getD,List.getElem?_eq_getElem (by omega)]
  rfl
theorem Ub (p:Pg) (n m i:Nat) (h:PgN p n m) (hi:i<m):RO Tryz.prog 204 [.ptr p.v,.int .i64 i] (.sl (iv (lz n (pA p n i)))):=by
 have hr:=h.row hi
 have hml:=h.ml
 have hnl:=h.nl
 have hal:=h.al
 have hin:i*n≤17*100:=Nat.mul_le_mul (by omega) (by omega)
 have hmn:i*n+n≤m*n:=by
  have:=Nat.mul_le_mul_right n (show i+1≤m by omega)
  rwa [Nat.add_mul,Nat.one_mul] at this
 have e1:(i:Int)*(n:Int)=((i*n:Nat):Int):=(Int.natCast_mul i n).symm
 have e2:((i:Int)+1)*(n:Int)=((i*n+n:Nat):Int):=by rw[Int.add_mul,Int.one_mul,e1];omega
 have w0:IntKind.i64.wrap ((i:Int)+1)=(i:Int)+1:=i64_in (by omega) (by omega)
 have w1:IntKind.i64.wrap ((i:Int)*(n:Int))=(i:Int)*n:=by rw[e1];exact i64_in (by omega) (by omega)
 have w2:IntKind.i64.wrap (((i:Int)+1)*(n:Int))=(i:Int)*n+n:=by rw[e2,i64_in (by omega) (by omega)];simp
 have hc:=h.bE
 have k1:(0:Int)≤(i:Int)*n:=by rw[e1];omega
 have k2:(i:Int)*n≤(i:Int)*n+n:=by omega
 have k3:(i:Int)*n+n≤(p.a.length:Int):=by rw[hal,e1];omega
 have k4:((i:Int)*n).toNat=i*n:=by rw[e1];omega
 have k5:((i:Int)*n+n).toNat=i*n+n:=by rw[e1];omega
 refine aI Tryz.func204 rfl rfl (by rw[Tryz.ntmps204];simp) fun bl=> ?_
 rw[Tryz.ntmps204,Tryz.results204]
 refine aC ?_
 simp
 refine bQ aQ (by kernel_rfl) ?_
 simp[Pg.v,hc,w0,w1,w2,k1,k2,k3,sliV,k4,k5,hr]
 refine⟨fun x hx=>(Z6 _ x hx).symm,?_⟩
 exact aN [.sl (iv (lz n (pA p n i)))] 0 (by simp) (by simp[frz,V.cl]) (Sub.refl _)
def sgB (p:Pg) (i:Nat):Int:=if pB p i<0 then -1 else 1
def eZ (p:Pg) (n m i c:Nat):Int:=if c<n then sgB p i*pA p n i c else if c=n+m then sgB p i*pB p i else if c=n+i then 1 else 0
def eQ (p:Pg) (n m:Nat):Nat→Nat→Rat:=fun i c=>(eZ p n m i c:Rat)
theorem aE6 {p:Pg} {n m:Nat} (h:PgN p n m) (i c:Nat):(eZ p n m i c).natAbs≤1000:=by
 have hs:(sgB p i).natAbs=1:=by unfold sgB;split<;>rfl
 unfold eZ
 split
 ·rw[Int.natAbs_mul,hs,Nat.one_mul];exact lG h.am _
 ·split
  ·rw[Int.natAbs_mul,hs,Nat.one_mul];exact lG h.bm _
  ·split<;>decide
theorem PgN.init {p:Pg} {n m:Nat} (h:PgN p n m):Lp.Init n m 1000 (eQ p n m):=by
 refine⟨⟨fun i c _ _=>⟨_,rfl⟩,fun i c _ _=> ?_⟩,fun i j hi hj=> ?_,fun i hi=> ?_⟩
 ·have:=aE6 h i c
  constructor
  ·rw[show -((1000:Nat):Rat)=((-1000:Int):Rat) from rfl]
   exact Rat.intCast_le_intCast.2 (by omega)
  ·rw[show((1000:Nat):Rat)=((1000:Int):Rat) from rfl]
   exact Rat.intCast_le_intCast.2 (by omega)
 ·unfold eQ eZ
  rw[if_neg (by omega),if_neg (by omega)]
  by_cases e:i=j
  ·rw[if_pos (by omega),if_pos e];rfl
  ·rw[if_neg (by omega),if_neg e];rfl
 ·have:0≤eZ p n m i (n+m):=by
   unfold eZ sgB
   rw[if_neg (by omega),if_pos rfl]
   split
   ·omega
   ·omega
  exact Rat.intCast_le_intCast.2 this
theorem aDG {p:Pg} {n m:Nat} (h:PgN p n m):Lp.vol m (eQ p n m) (Lp.lW n (eQ p n m))=1:=by
 show Lp.det m (fun j i=>eQ p n m i (n+j))=1
 exact Lp.Q7 m _ fun j i hj hi=>by
  rw[h.init.art i j hi hj]
  by_cases e:j=i
  ·rw[if_pos e,if_pos e.symm]
  ·rw[if_neg e,if_neg (Ne.symm e)]
theorem Qs :Lp.iP 1=1:=by unfold Lp.iP;decide
theorem dz0 {p:Pg} {n m:Nat} (h:PgN p n m):Lp.dz m (eQ p n m) (Lp.lW n (eQ p n m))=1:=by
 unfold Lp.dz;rw[aDG h,Qs];rfl
theorem zt0 {p:Pg} {n m:Nat} (h:PgN p n m) (i c:Nat):Lp.zt m (eQ p n m) (Lp.lW n (eQ p n m)) i c=eZ p n m i c:=by
 unfold Lp.zt
 rw[aDG h,Qs,Rat.mul_one]
 show(eQ p n m i c).num=_
 unfold eQ
 simp

def rqs (w:Nat) (f:Nat→Rat):List (List V):=(List.range w).map fun c=>(ro (some (f c))).c
@[simp] theorem Ue (w : Nat) (f : Nat → Rat) : (rqs w f).length = w := by simp [rqs]
theorem rN {w:Nat} {f g:Nat→Rat} (h: ∀c,c<w→f c=g c):rqs w f=rqs w g:=List.map_congr_left fun c hc=>by rw[h c (by simpa using hc)]
theorem Hz (w:Nat) (f:Nat→Rat):(rqs w f).all (fun r=>r.all V.cl)=true:=by simp[rqs,RT.c,V.cl]
@[irreducible] def iR : Nat := 10 ^ 72
theorem K6 :iR*iR<LB^24:=by unfold iR;decide+kernel
theorem N6 {m:Nat} (h:m≤17):Lp.lid 1000 m≤iR:=Nat.le_trans (Lp.nL h) (by unfold iR;decide+kernel)
def Sq (q:Rat):Prop:=Lp.sm iR q
theorem Og {q:Rat} (h:Lp.sm (iR*iR) q):fits q:=by
 obtain⟨h1,h2⟩:=Lp.vX h
 exact⟨aF.2 (Nat.lt_of_le_of_lt h1 K6),aF.2 (Nat.lt_of_le_of_lt h2 K6)⟩
theorem Hp :1≤iR:=by unfold iR;decide+kernel
theorem Cy {q:Rat} (h:Sq q):fits q:=Og (Lp.nO h (by have:=Nat.mul_le_mul_left iR Hp;omega))
theorem Au {f:Rat→Rat→Rat} {p q:Rat} (h:fits (f p q)):op2 f (some p) (some q)=some (f p q):=by unfold op2;simp[fit,h]
theorem okS {q:Rat} (h:fits q):okQ (some q):=fun p hp=>by cases hp;exact h

structure SG where
 T:Int
 R:Int
 B:Int
 C:Int
 ids:List Int
structure SN where
 r:Nat
 w:Nat
 n:Nat
 Z:Nat→Nat→Rat
 co:Nat→Rat
 bs:Nat→Nat
def rrs (r w:Nat) (Z:Nat→Nat→Rat):List (List V):=(List.range r).map fun i=> [.sl (rqs w (Z i))]
@[simp] theorem Wa (r w : Nat) (Z : Nat → Nat → Rat) : (rrs r w Z).length = r := by simp [rrs]
@[simp] theorem Kr (r w : Nat) (Z : Nat → Nat → Rat) (i : Nat) (h : i < (rrs r w Z).length) : (rrs r w Z)[i] = [.sl (rqs w (Z i))] := by simp [rrs]
def SN.c (t:SN):List V:= [.int .i64 t.n,.sl (rrs t.r t.w t.Z),.sl (iv (lb t.r t.bs)),.sl (rqs t.w t.co)]
def SG.all (g:SG):List Int:=g.T::g.R::g.B::g.C::g.ids
structure SS (b : Int → Option Blk) (g : SG) (t : SN) : Prop where
 len:g.ids.length=t.r
 top:b g.R=some ⟨1,g.ids.map fun x=> [.lsl x 3 0 t.w]⟩
 row: ∀(i:Nat) (x:Int),g.ids[i]? =some x→b x=some ⟨3,rqs t.w (t.Z i)⟩
 pos: ∀x,x∈g.ids→0≤x
 hd:b g.T=some ⟨4,[[.int .i64 t.n,.lsl g.R 1 0 t.r,.lsl g.B 1 0 t.r,.lsl g.C 3 0 t.w]]⟩
 ba:b g.B=some ⟨1,iv (lb t.r t.bs)⟩
 cst:b g.C=some ⟨3,rqs t.w t.co⟩
 pT:0≤g.T
 pR:g.R<0→t.r=0
 pB:g.B<0→t.r=0
 pC:0≤g.C
 nd:g.all.Nodup
theorem SS.gL {b b':Int→Option Blk} {g:SG} {t:SN} (h:SS b g t) (hk: ∀x y,x∈g.all→b x=some y→b' x=some y):SS b' g t:=
 ⟨h.len,hk _ _ (by simp[SG.all]) h.top,fun i x hi=>hk _ _ (by simp[SG.all,List.mem_of_getElem? hi]) (h.row i x hi),h.pos,hk _ _ (by simp[SG.all]) h.hd,hk _ _ (by simp[SG.all]) h.ba,hk _ _ (by simp[SG.all]) h.cst,h.pT,h.pR,h.pB,h.pC,h.nd⟩
theorem SS.at {b:Int→Option Blk} {g:SG} {t:SN} (h:SS b g t) (i:Nat) (hi:i<t.r): ∃x,g.ids[i]? =some x∧x∈g.ids∧0≤x∧b x=some ⟨3,rqs t.w (t.Z i)⟩:=by
 have hl:=h.len
 have e:g.ids[i]? =some (g.ids[i]'(by omega)):=List.getElem?_eq_getElem _
 exact⟨_,e,List.mem_of_getElem? e,h.pos _ (List.mem_of_getElem? e),h.row i _ e⟩
theorem SS.inj {b:Int→Option Blk} {g:SG} {t:SN} (h:SS b g t) {i j:Nat} {x:Int} (hi:g.ids[i]? =some x) (hj:g.ids[j]? =some x):i=j:=by
 have nd:=h.nd
 unfold SG.all at nd
 simp only[List.nodup_cons] at nd
 obtain⟨-, -, -, -,nd⟩:=nd
 obtain⟨i1,e1⟩:=List.getElem?_eq_some_iff.1 hi
 obtain⟨j1,e2⟩:=List.getElem?_eq_some_iff.1 hj
 have hp:=List.pairwise_iff_getElem.1 nd
 rcases Nat.lt_trichotomy i j with q | q | q
 ·exact absurd (e1.trans e2.symm) (hp i j i1 j1 q)
 ·exact q
 ·exact absurd (e2.trans e1.symm) (hp j i j1 i1 q)
theorem SS.frz {b:Int→Option Blk} {g:SG} {t:SN} (h:SS b g t) (m:Nat):frz b (m+4) (.loc g.T 4 0 0)=some (.ptr t.c):=by
 have hi: ∀m (k:Int),Vm.frz b m (.int .i64 k)=some (.int .i64 k):=fun m k=>by cases m<;>simp[Vm.frz]
 have h1:Vm.frz b (m+3) (.lsl g.R 1 0 t.r)=some (.sl (rrs t.r t.w t.Z)):=by
  rcases Int.lt_or_le g.R 0 with cQ | hR
  ·have hr:=h.pR cQ
   rw[hr]
   have e:rrs 0 t.w t.Z= []:=rfl
   rw[e]
   simp[Vm.frz,cQ]
  have h1:=gQ (n:=m+2) hR h.top
  rw[List.length_map,h.len] at h1
  rw[h1]
  have h2:(g.ids.map fun x=> [V.lsl x 3 0 t.w]).mapM (fun e:List V=>e.mapM (Vm.frz b (m+2)))=some (rrs t.r t.w t.Z):=by
   refine xI _ _ (by simp[h.len]) fun i x y hx hy=> ?_
   rw[List.getElem?_map] at hx
   cases hi:g.ids[i]? with
   | none => rw [hi] at hx; cases hx
   | some gi =>
     rw[hi] at hx;cases hx
     have hlt:i<t.r:=by rw[←h.len];exact(List.getElem?_eq_some_iff.1 hi).1
     rw[List.getElem?_eq_getElem (by simpa using hlt),Kr] at hy
     cases hy
     have h3:=gQ (bl:=b) (n:=m+1) (sz:=3) (els:=rqs t.w (t.Z i)) (h.pos gi (List.mem_of_getElem? hi)) (h.row i gi hi)
     rw[fP (Hz _ _)] at h3
     simp only[List.mapM_cons,List.mapM_nil]
     rw[show(rqs t.w (t.Z i)).length=t.w by simp] at h3
     rw[h3];rfl
  rw[h2];rfl
 have h2:Vm.frz b (m+3) (.lsl g.B 1 0 t.r)=some (.sl (iv (lb t.r t.bs))):=by
  rcases Int.lt_or_le g.B 0 with cQ | hB
  ·have hr:=h.pB cQ
   rw[hr]
   have e:lb 0 t.bs= []:=rfl
   rw[e]
   simp[Vm.frz,cQ,iv]
  have h1:=gQ (n:=m+2) hB h.ba
  rw[fP (lS _)] at h1
  rw[show(iv (lb t.r t.bs)).length=t.r by simp] at h1
  rw[h1];rfl
 have h3:Vm.frz b (m+3) (.lsl g.C 3 0 t.w)=some (.sl (rqs t.w t.co)):=by
  have h1:=gQ (n:=m+2) h.pC h.cst
  rw[fP (Hz _ _)] at h1
  rw[show(rqs t.w t.co).length=t.w by simp] at h1
  rw[h1];rfl
 rw[kH h.hd]
 simp only[List.mapM_cons,List.mapM_nil,h1,h2,h3,hi]
 rfl
theorem SS.put {b:Int→Option Blk} {g:SG} {t:SN} {i:Nat} {x:Int} (h:SS b g t) (hi:g.ids[i]? =some x) (Z':Nat→Nat→Rat) (hZ: ∀a c,a≠i→c<t.w→t.Z a c=Z' a c):SS (upd b x (some ⟨3,rqs t.w (Z' i)⟩)) g ⟨t.r,t.w,t.n,Z',t.co,t.bs⟩:=by
 have hm:=List.mem_of_getElem? hi
 have nd:=h.nd
 unfold SG.all at nd
 simp only[List.nodup_cons,List.mem_cons,not_or] at nd
 obtain⟨⟨-, -, -,n1⟩,⟨-, -,n2⟩,⟨-,n3⟩,n4, -⟩:=nd
 have e: ∀y,y∉g.ids→y≠x:=fun y hy e=>hy (e▸hm)
 refine⟨h.len,by rw[aL _ _ _ _ (e _ n2)];exact h.top,fun k y hk=> ?_,h.pos,by rw[aL _ _ _ _ (e _ n1)];exact h.hd,by rw[aL _ _ _ _ (e _ n3)];exact h.ba,by rw[aL _ _ _ _ (e _ n4)];exact h.cst,h.pT,h.pR,h.pB,h.pC,h.nd⟩
 by_cases e2:k=i
 ·subst e2
  rw[hi] at hk;cases hk
  rw[bO]
 ·have hne:y≠x:=fun e3=>e2 (h.inj (i:=k) (j:=i) (by rw[hk,e3]) hi)
  rw[aL _ _ _ _ hne,h.row k y hk]
  simp only
  rw[rN fun c hc=>hZ k c e2 hc]

end Go.Proofs.YticmgmemnpcbbaaGreat.Vm

namespace Go.Proofs.YticmgmemnpcbbaaGreat.Vm
open Go Go.RowKit Go.Proofs
set_option linter.unusedSimpArgs false
set_option linter.unusedVariables false
def zpv (Z:Nat→Nat→Rat) (r k:Nat):Nat→Nat→Rat:=fun i c=>if i=r then Z r c / Z r k else Z i c - Z i k*(Z r c / Z r k)
def cpv (Z:Nat→Nat→Rat) (co:Nat→Rat) (r k:Nat):Nat→Rat:=fun c=>co c - co k*(Z r c / Z r k)
def pvS (bs:Nat→Nat) (r k:Nat):Nat→Nat:=fun i=>if i=r then k else bs i
def zAt (Z:Nat→Nat→Rat) (r k i:Nat):Nat→Nat→Rat:=fun a c=>if a=r then Z r c / Z r k else if a<i then zpv Z r k a c else Z a c
structure aL2 (t : SN) : Prop where
 z: ∀i c,i<t.r→c<t.w→Sq (t.Z i c)
 co: ∀c,c<t.w→Sq (t.co c)
 w:t.w≤200
 r:t.r≤100
structure aND where
 i:Nat
 b:Int→Option Blk
end Go.Proofs.YticmgmemnpcbbaaGreat.Vm

namespace Go.Proofs.YticmgmemnpcbbaaGreat.Lp
set_option linter.unusedSimpArgs false
set_option linter.unusedVariables false
theorem D8 {m:Nat} {t:Tab} {C:Nat→Rat} {j:Nat} (hj: ∀i,i<m→t.bs i≠j):rc m (wl C (j+1)) t j= -1:=by
 unfold rc wl
 simp only
 rw[if_pos trivial,fV]
 ·grind
 ·intro i hi;rw[if_neg (hj i hi)];grind
def Deep (m:Nat) (C:Nat→Rat) (t:Tab) (j k:Nat) (s:Int):Prop:=
 (s=0∧ ∀q,q≤k→rc m (wl C q) t j=0)∨(s≠0∧ ∃q,q≤k∧(∀p,p<q→rc m (wl C p) t j=0)∧rc m (wl C q) t j≠0∧s=(rc m (wl C q) t j).num.sign)
theorem sign_zero {q:Rat} :q.num.sign=0 ↔ q=0:=by
 rw[Int.sign_eq_zero_iff_zero]
 exact Rat.num_eq_zero
theorem Deep.start (m:Nat) (C:Nat→Rat) (t:Tab) (j:Nat):Deep m C t j 0 (rc m C t j).num.sign:=by
 by_cases h:rc m C t j=0
 ·refine .inl ⟨sign_zero.2 h,fun q hq=> ?_⟩
  rw[show q=0 by omega];exact h
 ·exact .inr ⟨fun e=>h (sign_zero.1 e),0,Nat.le_refl _,fun p hp=>by omega,h,rfl⟩
theorem Deep.next {m:Nat} {C:Nat→Rat} {t:Tab} {j k:Nat} (h:Deep m C t j k 0) {s:Int} (hs:s=(rc m (wl C (k+1)) t j).num.sign):Deep m C t j (k+1) s:=by
 rcases h with ⟨_,h⟩| ⟨h,_⟩
 ·by_cases e:rc m (wl C (k+1)) t j=0
  ·refine .inl ⟨by rw[hs];exact sign_zero.2 e,fun q hq=> ?_⟩
   by_cases e2:q=k+1
   ·rw[e2];exact e
   ·exact h q (by omega)
  ·exact .inr ⟨fun e2=>e (sign_zero.1 (hs▸e2)),k+1,Nat.le_refl _,fun p hp=>h p (by omega),e,hs⟩
 ·exact absurd rfl h
theorem Deep.mono {m:Nat} {C:Nat→Rat} {t:Tab} {j k k':Nat} {s:Int} (h:Deep m C t j k s) (hs:s≠0) (hk:k≤k'):Deep m C t j k' s:=by
 rcases h with ⟨h,_⟩| ⟨h,q,h1,h2⟩
 ·exact absurd h hs
 ·exact .inr ⟨h,q,by omega,h2⟩
theorem Deep.own {m n:Nat} {C:Nat→Rat} {t:Tab} {j:Nat} (h:Deep m C t j j 0) (hj: ∀i,i<m→t.bs i≠j): ¬ fW (n+1) fun q=>rc m (wl C q) t j:=by
 rintro⟨q,q1,q2,q3⟩
 rcases h with ⟨_,h⟩| ⟨h,_⟩
 ·have h5:=D8 (C:=C) hj
  rcases Nat.lt_trichotomy q (j+1) with g | g | g
  ·simp only at q2;rw[h q (by omega)] at q2;exact absurd q2 (by decide)
  ·subst g;simp only at q2;rw[h5] at q2;exact absurd q2 (by decide)
  ·have:=q3 (j+1) g
   simp only at this
   rw[h5] at this;exact absurd this (by decide)
 ·exact h rfl
noncomputable def Ej (m : Nat) (C : Nat → Rat) (t : Tab) (j n : Nat) : Int := match fstP (fun q => rc m (wl C q) t j ≠ 0) (n + 1) with
 | some q => (rc m (wl C q) t j).num.sign
 | none => 0
theorem S0 (m:Nat) (C:Nat→Rat) (t:Tab) (j n:Nat):Deep m C t j n (Ej m C t j n):=by
 unfold Ej
 cases h:fstP (fun q=>rc m (wl C q) t j≠0) (n+1) with
 | none =>
   have h1:=eJ.1 h
   exact .inl ⟨rfl,fun q hq=>Classical.not_not.1 (h1 q (by omega))⟩
 | some q =>
   obtain⟨h1,h2,h3⟩:=dZ.1 h
   exact .inr ⟨fun e=>h2 (sign_zero.1 e),q,by omega,fun p hp=>Classical.not_not.1 (h3 p hp),h2,rfl⟩
theorem Deep.uniq {m:Nat} {C:Nat→Rat} {t:Tab} {j n:Nat} {s s':Int} (h:Deep m C t j n s) (h':Deep m C t j n s'):s=s':=by
 rcases h with ⟨rfl,h⟩| ⟨h,q,h1,h2,h3,h4⟩<;>rcases h' with ⟨rfl,g⟩| ⟨g,p,g1,g2,g3,g4⟩
 ·rfl
 ·exact absurd (h p g1) g3
 ·exact absurd (g q h1) h3
 ·have:p=q:=by
   rcases Nat.lt_trichotomy p q with x | x | x
   ·exact absurd (h2 p x) g3
   ·exact x
   ·exact absurd (g2 q x) h3
  subst this
  rw[h4,g4]
theorem Deep.eq {m:Nat} {C:Nat→Rat} {t:Tab} {j n:Nat} {s:Int} (h:Deep m C t j n s):Ej m C t j n=s:=(S0 m C t j n).uniq h
end Go.Proofs.YticmgmemnpcbbaaGreat.Lp

namespace Go.Proofs.YticmgmemnpcbbaaGreat.Vm
open Go Go.RowKit Go.Proofs
set_option linter.unusedSimpArgs false
set_option linter.unusedVariables false
def basic (r:Nat) (bs:Nat→Nat) (j:Nat):Prop:= ∃p,p<r∧bs p=j
instance (r : Nat) (bs : Nat → Nat) (j : Nat) : Decidable (basic r bs j) := by unfold basic; infer_instance
structure View (m b : Nat) (E : Nat → Nat → Rat) (T : Lp.Tab) (rows : List Nat) (t : SN) : Prop where
 ti:Lp.TI m E T
 rr:Rows m rows
 len:t.r=rows.length
 bs: ∀p,p<t.r→t.bs p=T.bs (atR rows p)
 nl:t.n≤100
 rl:t.r≤100
 nw:t.w=t.n+1
 wl:t.w≤200
 dead: ∀i,i<m→i∉rows→t.n≤T.bs i
 z: ∀p j,p<t.r→j<t.n→t.Z p j=T.X (atR rows p) j
 zb: ∀p,p<t.r→t.Z p t.n=T.X (atR rows p) b
 tm:aL2 t
structure aM8 where
 k:Nat
 s:Int
end Go.Proofs.YticmgmemnpcbbaaGreat.Vm

namespace Go.Proofs.YticmgmemnpcbbaaGreat.Vm
open Go Go.RowKit Go.Proofs
set_option linter.unusedSimpArgs false
set_option linter.unusedVariables false
def isGC :Oper→Bool
 | ⟨_, .call ⟨.value _, _, _⟩, _, _, _, some _⟩ => true
 | _ => false
section
variable (P : Program) (ds : List (Option Tmp)) (blK : Int → Option Blk)
def HoistG :List Oper→(St→Prop)→St→Prop
 | [], K, σ => K σ
 | o :: rest, K, σ => match o with
   | ⟨d,.call ⟨.value f,args,_⟩,_,_,_,some (j,b)⟩=>match ds[j]? with
     | some (some t)=>match σ.ev (.tmp t) with
       | .bool q=>if q=b then aY (callV σ f args.toList) fun p=> ∃v,RO P p.1 p.2 v∧HoistG rest K (σ.put d v) else HoistG rest K (σ.put d (.tup []))
       | .tup []=>HoistG rest K (σ.put d (.tup []))
       | _=>False
     | _=>False
   | o=>HoistF P ds blK [o] (HoistG rest K) σ
def gcK (rest:List Oper) (K:St→Prop) (σ:St) (d:Option Tmp) (o:Option (FuncId×List V)):Prop:=aY o fun p=> ∃v,RO P p.1 p.2 v∧HoistG P ds blK rest K (σ.put d v)
def gcV (rest:List Oper) (K:St→Prop) (σ:St) (d:Option Tmp) (f:Operand) (args:Array Operand) (b:Bool) (x:V):Prop:=match x with
 | .bool q => if q = b then gcK P ds blK rest K σ d (callV σ f args.toList) else HoistG P ds blK rest K (σ.put d (.tup []))
 | .tup [] => HoistG P ds blK rest K (σ.put d (.tup []))
 | _ => False
def gcS (rest:List Oper) (K:St→Prop) (σ:St) (d:Option Tmp) (f:Operand) (args:Array Operand) (b:Bool) (x:Option (Option Tmp)):Prop:=match x with
 | some (some t) => gcV P ds blK rest K σ d f args b (σ.ev (.tmp t))
 | _ => False
variable (rest : List Oper) (K : St → Prop) (σ : St) (d : Option Tmp) (f : Operand) (args : Array Operand) (ats : Array TypeId) (ty : TypeId) (pos : String) (af : Array Edge) (b : Bool)
@[simp] theorem Vw : HoistG P ds blK [] K σ = K σ := (rfl)
@[simp] theorem Rc (j : Nat) : HoistG P ds blK (⟨d, .call ⟨.value f, args, ats⟩, ty, pos, af, some (j, b)⟩ :: rest) K σ = gcS P ds blK rest K σ d f args b (ds[j]?) := (rfl)
@[simp] theorem aDO (t : Tmp) : gcS P ds blK rest K σ d f args b (some (some t)) = gcV P ds blK rest K σ d f args b (σ.ev (.tmp t)) := (rfl)
@[simp] theorem aG4 : gcV P ds blK rest K σ d f args b (.tup []) = HoistG P ds blK rest K (σ.put d (.tup [])) := (rfl)
end
section
variable (P : Program) (ds : List (Option Tmp)) (blK : Int → Option Blk) (rest : List Oper) (K : St → Prop) (σ : St) (d : Option Tmp) (ty : TypeId) (pos : String) (af : Array Edge) (g : Nat × Bool)
attribute [-simp] xQ
@[simp high] theorem Lk : HoistF P ds blK [] K σ = K σ := (rfl)
end
end Go.Proofs.YticmgmemnpcbbaaGreat.Vm

namespace Go.Proofs.YticmgmemnpcbbaaGreat.Vm
open Go Go.RowKit Go.Proofs
set_option linter.unusedSimpArgs false
set_option linter.unusedVariables false
attribute [-simp] xQ
def Ij (Z:Nat→Nat→Rat) (n j i:Nat):Rat:=Z i n / Z i j
def lvQ (Z:Nat→Nat→Rat) (n j:Nat) (bs:Nat→Nat):Nat→Option Nat
 | 0 => none
 | i + 1 => if 0 < Z i j then match lvQ Z n j bs i with
   | none=>some i
   | some b=>if Ij Z n j i<Ij Z n j b∨Ij Z n j i=Ij Z n j b∧bs i<bs b then some i else some b
   else lvQ Z n j bs i
def aN1 (Z:Nat→Nat→Rat) (n j:Nat):Option Nat→List V
 | none => [.bool false, .nils, .nils]
 | some b => (ro (some (Ij Z n j b))).c
end Go.Proofs.YticmgmemnpcbbaaGreat.Vm

namespace Go.Proofs.YticmgmemnpcbbaaGreat.Vm
open Go Go.RowKit Go.Proofs
set_option linter.unusedSimpArgs false
set_option linter.unusedVariables false
def snV (rows:List Nat) (n b m:Nat) (w0:Nat→Rat) (T:Lp.Tab):SN:=⟨rows.length,n+1,n,fun p c=>T.X (atR rows p) (if c<n then c else b),fun c=>Lp.rc m w0 T (if c<n then c else b),fun p=>T.bs (atR rows p)⟩
theorem SS.congr {b:Int→Option Blk} {g:SG} {r w n:Nat} {Z Z':Nat→Nat→Rat} {co co':Nat→Rat} {bs bs':Nat→Nat} (h:SS b g ⟨r,w,n,Z,co,bs⟩) (hZ: ∀p c,p<r→c<w→Z p c=Z' p c) (hc: ∀c,c<w→co c=co' c) (hb: ∀p,p<r→bs p=bs' p):SS b g ⟨r,w,n,Z',co',bs'⟩:=by
 have hlb:lb r bs=lb r bs':=List.map_congr_left fun p hp=>by rw[hb p (by simpa using hp)]
 refine⟨h.len,h.top,fun i x hi=> ?_,h.pos,h.hd,?_,?_,h.pT,h.pR,h.pB,h.pC,h.nd⟩
 ·have hlt:i<r:=by have:=h.len;simp only at this;rw[←this];exact(List.getElem?_eq_some_iff.1 hi).1
  rw[h.row i x hi]
  simp only
  rw[rN fun c hc2=>hZ i c hlt hc2]
 ·have:=h.ba
  simp only at this ⊢
  rw[this,hlb]
 ·have:=h.cst
  simp only at this ⊢
  rw[this,rN hc]
structure aPO (n0 m n : Nat) (E : Nat → Nat → Rat) (rows : List Nat) (deep : Bool) (w0 : Nat → Rat) (ok : Lp.Tab → Nat → Prop) : Prop where
 ml:m≤17
 nl:n0+m≤100
 nn:n≤n0+m
 rr:Rows m rows
 dead: ∀T,qW n0 m E rows T→ ∀i,i<m→i∉rows→n≤T.bs i
 wt: ∀c,c<n0+m+1→Lp.isInt (w0 c)∧ -((1000:Nat):Rat)≤w0 c∧w0 c≤((1000:Nat):Rat)
 bas: ∀T,qW n0 m E rows T→ ∀j,j<n→basic rows.length (fun p=>T.bs (atR rows p)) j→ ¬ ok T j
structure aM9 where
 e:Nat
 b:Int→Option Blk
structure aNS where
 j:Nat
 en:Int

def wk :V→V
 | .nils => .sl []
 | x => x
theorem Tn {x:V} (h:x.one=true):(wk x).one=true:=by
 cases x<;>first | exact h | rfl
theorem Rx {F:Nat→Prop} {w:World} {x:V} {v:Value} (h:Rep F w x v):Rep F w (wk x) v:=by
 cases x with
 | nils => cases h; exact .sl0 none 0 (fun _ => rfl)
 | _ => exact h
theorem aHI {P:Program} {c:Code} {K:Ex→St→Prop} {σ:St} {g:Int} {s:Nat} {els:List (List V)} (hb:σ.bl g=some ⟨s,els⟩)
  (h:AW P c K ⟨σ.n,σ.sl,upd σ.bl g (some ⟨s,els.map fun e=>e.map wk⟩)⟩):AW P c K σ:=by
 intro w0 M F a w hs
 have hm:=hs.mem
 refine h w0 M F a w ⟨⟨hm.os,hm.tape,hm.output,hm.size,hm.frame,hm.gP,hm.fr,?_,fun x b hx h0=> ?_,fun x b hx=> ?_⟩,hs.size,hs.sl,hs.defers⟩
 ·obtain⟨n,hn⟩:=hm.fin
  refine⟨n,fun x hx=> ?_⟩
  have:=hn x hx
  show upd _ _ _ x=none
  by_cases hxg:x=g
  ·subst hxg;rw[hb] at this;cases this
  ·rw[aL _ _ _ _ hxg];exact this
 ·by_cases hxg:x=g
  ·subst hxg;exact hm.own x _ hb h0
  ·simp only at hx
   rw[aL _ _ _ _ hxg] at hx
   exact hm.own x b hx h0
 ·by_cases hxg:x=g
  ·subst hxg
   simp only at hx
   rw[bO] at hx
   cases hx
   have hB:=hm.blk x _ hb
   unfold cA at hB ⊢
   split at hB
   ·rename_i cQ
    rw[if_pos cQ];simp only at hB ⊢;rw[hB];rfl
   ·rename_i cQ
    rw[if_neg cQ]
    obtain⟨h1,cs,t,h2,h3,h4⟩:=hB
    refine⟨h1,cs,t,h2,by simpa using h3,fun k e he=> ?_⟩
    simp only[List.getElem?_map] at he
    cases he0:els[k]? with
    | none => rw [he0] at he; cases he
    | some e0 =>
      rw[he0] at he;cases he
      obtain⟨h5,h6⟩:=h4 k e0 he0
      refine⟨by simpa using h5,fun j y hy=> ?_⟩
      rw[List.getElem?_map] at hy
      cases hy0:e0[j]? with
      | none=>rw[hy0] at hy;cases hy
      | some y0=>
        rw[hy0] at hy;cases hy
        obtain⟨h7,v,h8,h9⟩:=h6 j y0 hy0
        exact⟨Tn h7,v,h8,Rx h9⟩
  ·simp only at hx
   rw[aL _ _ _ _ hxg] at hx
   exact hm.blk x b hx
theorem aLK :biC 0= [.bool false,.sl []]:=by
 simp[bA,aU,iv]
theorem Pc (n:Nat):(List.replicate n [V.bool false,.nils]).map (fun e=>e.map wk)=zv n fun _=>0:=by
 rw[List.map_replicate]
 apply List.ext_getElem
 ·simp
 ·intro i h1 h2
  simp[zv,aLK,wk]
theorem Ko {N i:Nat} (f:Nat→Int) (v:Int) (h:i<N):(zv N f).set i (biC v)=zv N fun c=>if c=i then v else f c:=by
 apply List.ext_getElem
 ·simp
 ·intro j h1 h2
  rw[List.getElem_set,E4,E4]
  by_cases e:i=j
  ·rw[if_pos e,if_pos e.symm]
  ·rw[if_neg e,if_neg (Ne.symm e)]
theorem Nq (r:Nat) (bs:Nat→Nat):lb (r+1) bs=lb r bs++ [(bs r:Int)]:=by simp[lb,List.range_succ]
theorem TT.start {b:Int→Option Blk} {T R B F:Int} {t:TN} (hr:t.r=0) (hR:b R=some ⟨1,[]⟩) (hB:b B=some ⟨1,[]⟩) (hT:b T=some ⟨6,[[.lsl R 1 0 0,.bool (decide (t.d<0)),.sl (iv (lim t.d.natAbs)),.lsl B 1 0 0,.int .i64 t.n,.lsl F 1 0 t.n]]⟩)
  (hF:b F=some ⟨1,lv t.n t.fr⟩) (pT:0≤T) (pF:0≤F) (nd: [T,R,B,F].Nodup):TT b ⟨T,R,B,F,[]⟩ t:=
 ⟨⟨hr.symm,hR,fun i g h=>(by cases h),fun g h=>(by cases h),fun i j g h=>(by cases h),fun h=>(by cases h)⟩,by simp only[hr];exact hT,by simp only[hr];exact hB,hF,pT,fun _=>hr,fun _=>hr,pF,nd⟩
theorem TT.snoc {b b':Int→Option Blk} {g:TG} {t:TN} (h:TT b g t) (gN gM gr:Int) (hR:b' gN=some ⟨1,(g.ids++ [gr]).map fun g=> [.lsl g 2 0 (t.n+1)]⟩) (hB:b' gM=some ⟨1,iv (lb (t.r+1) t.bs)⟩)
  (hT:b' g.T=some ⟨6,[[.lsl gN 1 0 (t.r+1),.bool (decide (t.d<0)),.sl (iv (lim t.d.natAbs)),.lsl gM 1 0 (t.r+1),.int .i64 t.n,.lsl g.F 1 0 t.n]]⟩) (hF:b' g.F=b g.F) (hi: ∀x,x∈g.ids→b' x=b x)
  (hr:b' gr=some ⟨2,zv (t.n+1) (t.Z t.r)⟩) (h0:0≤gr) (hN:0≤gN) (hM:0≤gM) (nd:(g.T::gN::gM::g.F::(g.ids++ [gr])).Nodup):
  TT b' ⟨g.T,gN,gM,g.F,g.ids++ [gr]⟩ ⟨t.r+1,t.n,t.Z,t.d,t.bs,t.fr⟩:=by
 have hl:=h.dW.len
 have key: ∀(i:Nat) (x:Int),(g.ids++ [gr])[i]? =some x→(i<t.r∧g.ids[i]? =some x)∨(i=t.r∧x=gr):=fun i x hx=>by
  by_cases e:i<t.r
  ·rw[List.getElem?_append_left (by omega)] at hx;exact .inl ⟨e,hx⟩
  ·rw[List.getElem?_append_right (by omega)] at hx
   have:i - g.ids.length=0:=by
    rcases Nat.eq_zero_or_pos (i - g.ids.length) with h | h
    ·exact h
    ·rw[List.getElem?_eq_none (by simp;omega)] at hx;cases hx
   rw[this] at hx;cases hx
   exact .inr ⟨by omega,rfl⟩
 have nd2:=nd
 simp only[List.nodup_cons,List.mem_cons,not_or] at nd2
 obtain⟨-,⟨-, -,nNi⟩, -, -,ndi⟩:=nd2
 have hgr:gr∉g.ids:=fun hm=>by
  rw[List.nodup_append] at ndi
  exact ndi.2.2 gr hm gr (by simp) rfl
 refine⟨⟨by simp[hl],hR,fun i x hx=> ?_,fun x hx=> ?_,fun i j x hx hy=> ?_,nNi⟩,hT,hB,?_,h.pT,fun hn=>absurd hn (by simp only;omega),fun hn=>absurd hn (by simp only;omega),h.pF,nd⟩
 ·rcases key i x hx with ⟨hlt,hx⟩| ⟨rfl,rfl⟩
  ·rw[hi x (List.mem_of_getElem? hx)];exact h.dW.row i x hx
  ·exact hr
 ·rcases List.mem_append.1 hx with hx | hx
  ·exact h.dW.pos x hx
  ·rw[List.mem_singleton.1 hx];exact h0
 ·rcases key i x hx with ⟨hlt,hx⟩| ⟨e1,e2⟩<;>rcases key j x hy with ⟨Un,hy⟩| ⟨e3,e4⟩
  ·exact h.dW.inj i j x hx hy
  ·exact absurd (List.mem_of_getElem? hx) (by rw[e4];exact hgr)
  ·exact absurd (List.mem_of_getElem? hy) (by rw[e2];exact hgr)
  ·rw[e1,e3]
 ·simp only;rw[hF];exact h.fre
theorem TT.aDP {b b':Int→Option Blk} {g:TG} {t:TN} (h:TT b g t) (fr:Nat→Bool) (hF:b' g.F=some ⟨1,lv t.n fr⟩) (hk: ∀x y,x∈g.all→x≠g.F→b x=some y→b' x=some y):TT b' g ⟨t.r,t.n,t.Z,t.d,t.bs,fr⟩:=by
 have nd:=h.nd
 simp only[List.nodup_cons,List.mem_cons,not_or] at nd
 obtain⟨⟨n1,n2,n3,n4⟩,⟨n5,n6,n7⟩,⟨n8,n9⟩,n10,n11⟩:=nd
 refine⟨h.dW.gL fun x y hx hy=> ?_,hk _ _ (by simp[TG.all]) n3 h.hd,hk _ _ (by simp[TG.all]) n8 h.ba,hF,h.pT,h.pR,h.pB,h.pF,h.nd⟩
 rcases hx with rfl | hx
 ·exact hk _ _ (by simp[TG.all]) n6 hy
 ·exact hk _ _ (by simp[TG.all,hx]) (fun e=>n10 (e▸hx)) hy
theorem nQ {m q:Nat} (h:q<m):atR (List.range m) q=q:=by
 unfold atR
 rw[List.getD_eq_getElem?_getD,List.getElem?_eq_getElem (by simpa using h)];simp

theorem SS.snoc {b b':Int→Option Blk} {g:SG} {r w n:Nat} {Z:Nat→Nat→Rat} {co:Nat→Rat} {bs:Nat→Nat} (h:SS b g ⟨r,w,n,Z,co,bs⟩) (gN gM gr:Int) (hR:b' gN=some ⟨1,(g.ids++ [gr]).map fun x=> [.lsl x 3 0 w]⟩) (hB:b' gM=some ⟨1,iv (lb (r+1) bs)⟩)
  (hT:b' g.T=some ⟨4,[[.int .i64 n,.lsl gN 1 0 (r+1),.lsl gM 1 0 (r+1),.lsl g.C 3 0 w]]⟩) (hC:b' g.C=b g.C) (hi: ∀x,x∈g.ids→b' x=b x)
  (hr:b' gr=some ⟨3,rqs w (Z r)⟩) (h0:0≤gr) (hN:0≤gN) (hM:0≤gM) (nd:(SG.all ⟨g.T,gN,gM,g.C,g.ids++ [gr]⟩).Nodup):
  SS b' ⟨g.T,gN,gM,g.C,g.ids++ [gr]⟩ ⟨r+1,w,n,Z,co,bs⟩:=by
 have hl:=h.len
 simp only at hl
 refine⟨by simp[hl],hR,fun i x hx=> ?_,fun x hx=> ?_,hT,hB,by simp only;rw[hC];exact h.cst,h.pT,fun e=>by simp only at e;omega,fun e=>by simp only at e;omega,h.pC,nd⟩
 ·simp only at hx ⊢
  by_cases e:i<r
  ·rw[List.getElem?_append_left (by omega)] at hx
   rw[hi x (List.mem_of_getElem? hx)];exact h.row i x hx
  ·rw[List.getElem?_append_right (by omega)] at hx
   have e0:i - g.ids.length=0:=by
    rcases Nat.eq_zero_or_pos (i - g.ids.length) with q | q
    ·exact q
    ·rw[List.getElem?_eq_none (by simp;omega)] at hx;cases hx
   rw[e0] at hx;cases hx
   rw[show i=r by omega];exact hr
 ·rcases List.mem_append.1 hx with hx | hx
  ·exact h.pos x hx
  ·rw[List.mem_singleton.1 hx];exact h0
noncomputable def aPA (p : Pg) (n m i : Nat) : Nat → Rat := fun c => if c < n ∨ c = n + m then Lp.S i fun r => eQ p n m r c else 0
structure aKT where
 j:Nat
 gC:Int
 b:Int→Option Blk
structure aDC where
 k:Nat
 gw:Int
 b:Int→Option Blk
structure aMQ where
 i:Nat
 g:SG
 b:Int→Option Blk
structure WOk (b : Int → Option Blk) (f : Nat → Rat) (W : aDC) : Prop where
 blk:W.b W.gw=some ⟨3,rqs W.k f⟩
 new:b W.gw=none
 nn:0≤W.gw
 sub:Sub b W.b
theorem WOk.snoc {b:Int→Option Blk} {f:Nat→Rat} {k:Nat} {gw g4 gN:Int} {bw:Int→Option Blk} (h:WOk b f ⟨k,gw,bw⟩) (h4:bw g4=none) (hN:0≤gN) (hn: ¬ gN=gw→ ¬ gN=g4∧bw gN=none):
  WOk b f ⟨k+1,gN,upd (rem bw gw) gN (some ⟨3,rqs (k+1) f⟩)⟩:=by
 have hbN:b gN=none:=by
  by_cases e:gN=gw
  ·rw[e];exact h.new
  ·cases hv:b gN with
   | none => rfl
   | some y => have := h.sub gN y hv; simp only at this; rw [(hn e).2] at this; cases this
 refine⟨bO _ _ _,hbN,hN,fun x y hx=> ?_⟩
 have x1:x≠gN:=fun e=>by rw[e,hbN] at hx;cases hx
 have x2:x≠gw:=fun e=>by have:=h.new;simp only at this;rw[e,this] at hx;cases hx
 simp only
 rw[aL _ _ _ _ x1,aJ,if_neg x2]
 exact h.sub x y hx
end Go.Proofs.YticmgmemnpcbbaaGreat.Vm

namespace Go.Proofs.YticmgmemnpcbbaaGreat.Lp
set_option linter.unusedSimpArgs false
set_option linter.unusedVariables false
noncomputable def opt (n m : Nat) (E : Nat → Nat → Rat) (b : Nat) (C : Nat → Rat) : Option (Option (Nat → Rat)) :=
 open Classical in
 if h: ∃x,qF n m E b C x then some (some fun c=>if c<n then h.choose c else 0)
 else if∃x,hH n m E b x then some none else none
theorem xL {n m b:Nat} {E:Nat→Nat→Rat} {C x:Nat→Rat} (h:qF n m E b C x):opt n m E b C=some (some fun c=>if c<n then x c else 0):=by
 have he: ∃x,qF n m E b C x:=⟨x,h⟩
 unfold opt
 rw[dif_pos he]
 congr 2
 funext c
 split
 ·exact Bv he.choose_spec h c (by assumption)
 ·rfl
theorem H8 {n m b:Nat} {E:Nat→Nat→Rat} {C:Nat→Rat} (h:Unb n m E b C) {x:Nat→Rat} (hx:hH n m E b x):opt n m E b C=some none:=by
 have he: ¬ ∃x,qF n m E b C x:=fun⟨x,hb⟩=>C1 h hb
 unfold opt
 rw[dif_neg he,if_pos ⟨x,hx⟩]
theorem O2 {n m b:Nat} {E:Nat→Nat→Rat} {C:Nat→Rat} (h: ∀x, ¬ hH n m E b x):opt n m E b C=none:=by
 have he: ¬ ∃x,qF n m E b C x:=fun⟨x,hb⟩=>h x hb.1
 unfold opt
 rw[dif_neg he,if_neg fun⟨x,hx⟩=>h x hx]
theorem W5 {n m b:Nat} {E:Nat→Nat→Rat} {x y:Nat→Rat} (h:hH n m E b x) (e: ∀c,c<n→x c=y c):hH n m E b y:=
 ⟨fun c hc=>by rw[←e c hc];exact h.nn c hc,fun i hi=>by
   have:=h.sol i hi
   rw[←this]
   exact aR fun c hc=>by rw[e c hc]⟩
theorem A2 {n:Nat} {C x y:Nat→Rat} (e: ∀c,c<n→x c=y c):dot n C x=dot n C y:=aR fun c hc=>by rw[e c hc]
theorem L7 {n m b:Nat} {E:Nat→Nat→Rat} {C x:Nat→Rat} (h:opt n m E b C=some (some x)):qF n m E b C x:=by
 unfold opt at h
 split at h
 ·rename_i he
  cases h
  have hb:=he.choose_spec
  have e: ∀c,c<n→he.choose c=if c<n then he.choose c else 0:=fun c hc=>by rw[if_pos hc]
  refine⟨W5 hb.1 e,fun y hy hp=>hb.2 y hy ?_⟩
  refine cU hp fun q hq=> ?_
  rw[A2 (C:=wl C q) e]
 ·split at h<;>cases h

def Den (L n:Nat) (x:Nat→Rat):Prop:= ∃v:Int,v≠0∧v.natAbs≤L∧ ∀c,c<n→ ∃a:Int,x c*v=a∧a.natAbs≤L
theorem Den.congr {L n:Nat} {x y:Nat→Rat} (h:Den L n x) (e: ∀c,c<n→x c=y c):Den L n y:=by
 obtain⟨v,h1,h2,h3⟩:=h
 exact⟨v,h1,h2,fun c hc=>by rw[←e c hc];exact h3 c hc⟩
theorem Den.sm {L n:Nat} {x:Nat→Rat} (h:Den L n x) {c:Nat} (hc:c<n):Lp.sm L (x c):=by
 obtain⟨v,h1,h2,h3⟩:=h
 obtain⟨a,ha,hal⟩:=h3 c hc
 exact⟨a,v,h1,ha,hal,h2⟩
theorem Fi {n m N K b:Nat} {E:Nat→Nat→Rat} {t:Tab} (h:TZ m N K E t) (hb:b<N):Den (lid K m) n (xb m b t):=by
 obtain⟨⟨v,hv⟩,hvl⟩:=h.nK
 have hne:=h.vol
 refine⟨v,fun e=>hne (by rw[hv,e];rfl),nI hv hvl,fun c _=> ?_⟩
 by_cases e: ∃i,i<m∧t.bs i=c
 ·obtain⟨i,hi,rfl⟩:=e
  rw[aEF h.ti hi]
  obtain⟨⟨a,ha⟩,hal⟩:=h.entry hi hb
  exact⟨a,by rw[←hv,ha],nI ha hal⟩
 ·rw[Sc fun i hi e2=>e ⟨i,hi,e2⟩]
  exact⟨0,by grind,by simp⟩
theorem Den.sum {L n W:Nat} {x:Nat→Rat} (h:Den L n x) {C:Nat→Int} (hC: ∀c,c<n→(C c).natAbs≤W) (hW:1≤W): ∀k,k≤n→Lp.sm ((n+1)*(W*L)) (S k fun c=>(C c:Rat)*x c):=by
 obtain⟨v,h1,h2,h3⟩:=h
 have key: ∀k,k≤n→ ∃a:Int,(S k fun c=>(C c:Rat)*x c)*v=a∧a.natAbs≤k*(W*L):=by
  intro k
  induction k with
  | zero => intro _; exact ⟨0, by rw [S]; grind, by simp⟩
  | succ k ih =>
    intro hk
    obtain⟨a,ha,hal⟩:=ih (by omega)
    obtain⟨z,hz,hzl⟩:=h3 k (by omega)
    refine⟨a+C k*z,?_,?_⟩
    ·rw[S,Rat.intCast_add,Rat.intCast_mul,←ha,←hz];grind
    ·have e1:=Int.natAbs_add_le a (C k*z)
     have e2:(C k*z).natAbs≤W*L:=by rw[Int.natAbs_mul];exact Nat.mul_le_mul (hC k (by omega)) hzl
     rw[Nat.add_mul,Nat.one_mul];omega
 intro k hk
 obtain⟨a,ha,hal⟩:=key k hk
 refine⟨a,v,h1,ha,Nat.le_trans hal (Nat.mul_le_mul_right _ (by omega)),Nat.le_trans h2 ?_⟩
 have e1:1*L≤W*L:=Nat.mul_le_mul_right _ hW
 have e2:1*(W*L)≤(n+1)*(W*L):=Nat.mul_le_mul_right _ (by omega)
 omega
theorem runs {n m K:Nat} {E:Nat→Nat→Rat} (C:Nat→Rat) (h:Init n m K E):(∀x, ¬ hH n m E (n+m) x)∨
  ∃t rows,Inv n m (n+m) (n+m+1) K E rows t∧(∀i,i∈rows→t.bs i<n)∧nx n (n+m) rows (okL m n C) t=none:=by
 obtain⟨e,h1,h2,h3,h4⟩:=uV (N':=n+m) (F:=fun c=>c<n) h (fun c hc=>by omega) (Nat.le_refl _) (fun c hc=>⟨by omega,hc⟩)
 generalize orb (nx (n+m) (n+m) (List.range m) (okW m (cN n m) fun c=>c<n)) (lW n E) e=t at *
 by_cases hp:rc m (cN n m) t (n+m)=0
 ·right
  have hk:=(lL (h4.uZ hp) (by omega) m (Nat.le_refl _)).inv
  have R:rO n m (n+m) (n+1) n (n+m+1) (wl C) (fun c=>c<n) (bH n (kicks n t m) m) (okL m n C):=aB2 (by omega) (by omega)
  obtain⟨e2,g1,g2,g3⟩:=R.ends hk
  exact⟨_,_,g3 e2 (Nat.le_refl _),R.low (fun c hc=>hc) g3 (fun i hi=>(qZ.1 hi).2) e2 (Nat.le_refl _),g1⟩
 ·exact .inl fun x=>h4.no hp x
theorem answers {n m K:Nat} {E:Nat→Nat→Rat} (C:Nat→Rat) (h:Init n m K E):(opt n m E (n+m) C=none∧ ∀x, ¬ hH n m E (n+m) x)∨(opt n m E (n+m) C=some none∧Unb n m E (n+m) C∧ ∃x,hH n m E (n+m) x)∨
  ∃x,opt n m E (n+m) C=some (some x)∧qF n m E (n+m) C x∧Den (lid K m) n x∧ ∀c,n≤c→x c=0:=by
 rcases runs C h with g | ⟨t,rows,h1,h2,h3⟩
 ·exact .inl ⟨O2 g,g⟩
 ·have hf:hH n m E (n+m) (xb m (n+m) t):=uE h1.z.ti h1.nn (h1.zero h2)
  rcases X8 h1 h2 h3 with ⟨_,hb⟩| ⟨_,hu⟩
  ·refine .inr (.inr ⟨_,xL hb,L7 (xL hb),(Fi (b:=n+m) h1.z (by omega)).congr fun c hc=>by rw[if_pos hc],fun c hc=>if_neg (by omega)⟩)
  ·exact .inr (.inl ⟨H8 hu hf,hu,_,hf⟩)
end Go.Proofs.YticmgmemnpcbbaaGreat.Lp

namespace Go.Proofs.YticmgmemnpcbbaaGreat.Vm
open Go Go.RowKit Go.Proofs
set_option linter.unusedSimpArgs false
set_option linter.unusedVariables false
structure aNJ (p : Pg) (n m : Nat) : Prop where
 a: ∀x,x∈p.a→x.natAbs≤100
 b: ∀x,x∈p.b→x.natAbs≤100
 c: ∀x,x∈p.c→x.natAbs≤100
 m:m≤20
 n:n≤40
noncomputable def A7 (n m : Nat) (E : Nat → Nat → Rat) : Bool := open Classical in decide (∃ x, Lp.hH n m E (n + m) x)
theorem vY {n m:Nat} {E:Nat→Nat→Rat} :A7 n m E=true ↔ ∃x,Lp.hH n m E (n+m) x:=by unfold A7;simp
theorem mD.has {p:Pg} {n m:Nat} {T:Lp.Tab} (h:Lp.mD n m (n+m+1) 1000 (eQ p n m) T):(Lp.rc m (Lp.cN n m) T (n+m)=0) ↔ A7 n m (eQ p n m)=true:=by
 rw[vY]
 constructor
 ·intro h0;exact⟨_,h.Fm h0⟩
 ·rintro⟨x,hx⟩
  exact Classical.byContradiction fun h0=>h.no h0 x hx
end Go.Proofs.YticmgmemnpcbbaaGreat.Vm

namespace Go.Proofs.YticmgmemnpcbbaaGreat.Lp
set_option linter.unusedSimpArgs false
set_option linter.unusedVariables false
def part (w:Nat→Rat) (t:Tab) (rw_:Nat→Nat) (i c:Nat):Rat:=w c - S i fun p=>t.X (rw_ p) c*w (t.bs (rw_ p))
end Go.Proofs.YticmgmemnpcbbaaGreat.Lp

namespace Go.Proofs.YticmgmemnpcbbaaGreat.Vm
open Go Go.RowKit Go.Proofs
set_option linter.unusedSimpArgs false
set_option linter.unusedVariables false
structure aNA where
 i:Nat
 b:Int→Option Blk
structure aMN where
 j:Nat
 d:Bool
 b:Int→Option Blk

def okA (n:Nat):Nat→Bool:=fun c=>decide (c<n)
def oA (n m:Nat):Nat→Int:=fun c=>if n≤c∧c<n+m then -1 else 0
theorem Kv (n m:Nat):wO (oA n m)=Lp.cN n m:=by
 funext c
 unfold wO oA Lp.cN
 split<;>rfl
def tbA (p:Pg) (n m i:Nat) (fr:Nat→Bool):TN:=⟨i,n+m,eZ p n m,1,fun q=>n+q,fr⟩
theorem Em (N:Nat):List.replicate N [V.bool false]=lv N fun _=>false:=by
 unfold lv
 rw[List.map_const',List.length_range]
theorem P5 (N:Nat):List.replicate N [V.int .i64 0]=iv (lz N fun _=>0):=by
 simp[iv,lz,List.map_const']
theorem Hj {N k:Nat} (f:Nat→Int) (v:Int) (h:k<N):(iv (lz N f)).set k [.int .i64 v]=iv (lz N fun c=>if c=k then v else f c):=by
 apply List.ext_getElem
 ·simp
 ·intro j h1 h2
  rw[List.getElem_set,lB,lB,uB,uB]
  by_cases e:k=j
  ·rw[if_pos e,if_pos e.symm]
  ·rw[if_neg e,if_neg (Ne.symm e)]
theorem wL {N:Nat} {f g:Nat→Int} (h: ∀c,c<N→f c=g c):lz N f=lz N g:=List.map_congr_left fun c hc=>by rw[h c (by simpa using hc)]
theorem mG {N:Nat} {f g:Nat→Bool} (h: ∀c,c<N→f c=g c):lv N f=lv N g:=List.map_congr_left fun c hc=>by rw[h c (by simpa using hc)]
theorem TT.first {b:Int→Option Blk} {g:TG} {p:Pg} {n m:Nat} {fr:Nat→Bool} (h:PgN p n m) (ht:TT b g (tbA p n m m fr)):TT b g (bD n m (eQ p n m) (List.range m) (Lp.lW n (eQ p n m)) fr):=by
 have hr:(List.range m).length=m:=by simp
 have hd:=dz0 h
 have hb:lb m (fun q=>(Lp.lW n (eQ p n m)).bs (atR (List.range m) q))=lb m fun q=>n+q:=List.map_congr_left fun q hq=>by
  have hq':q<m:=by simpa using hq
  simp only[nQ hq'];rfl
 refine⟨?_,?_,?_,ht.fre,ht.pT,?_,?_,ht.pF,ht.nd⟩
 ·have:=ht.dW.congr (Z':=fun q c=>Lp.zt m (eQ p n m) (Lp.lW n (eQ p n m)) (atR (List.range m) q) c) fun q c hq _=>by
   simp only[tbA] at hq ⊢
   rw[nQ hq,zt0 h]
  simp only[bD]
  rw[hr];exact this
 ·have e:=ht.hd
  simp only[tbA] at e
  simp only[bD,hd,hr]
  exact e
 ·simp only[bD];rw[hr,hb];exact ht.ba
 ·simp only[bD];rw[hr];exact ht.pR
 ·simp only[bD];rw[hr];exact ht.pB
structure aFF where
 i:Nat
 g:TG
 b:Int→Option Blk
theorem F9 {bl:Int→Option Blk} {K:V→(Int→Option Blk)→Prop} (p:Pg) (n m:Nat) (h:PgN p n m)
  (hN: ∀b' t,Lp.mD n m (n+m+1) 1000 (eQ p n m) t→Lp.rc m (Lp.cN n m) t (n+m)≠0→Sub bl b'→K (.tup [.nilp,.bool false]) b')
  (hS: ∀b' g t,Lp.mD n m (n+m+1) 1000 (eQ p n m) t→Lp.rc m (Lp.cN n m) t (n+m)=0→TT b' g (bD n m (eQ p n m) (Lp.bH n (Lp.kicks n t m) m) (Lp.kicks n t m) (okA n))→(∀x,x∈g.all→bl x=none)→Sub bl b'→K (.tup [.loc g.T 6 0 0,.bool true]) b'):
  bJ Tryz.prog 126 [.ptr p.v] bl K:=by
 have hml:=h.ml
 have hnl:=h.nl
 have wnm:IntKind.i64.wrap ((n:Int)+(m:Int))=((n+m:Nat):Int):=by rw[i64_in (by omega) (by omega)];simp
 have hint: ∀z:Int,z.natAbs≤1000→RO Tryz.prog 160 [.int .i64 z] (.agg (biC z)):=fun z hz=>pS z (by omega)
 refine aZ Tryz.func126 rfl rfl (by rw[Tryz.ntmps126];simp) ?_
 rw[Tryz.ntmps126,Tryz.results126]
 refine aC ?_
 simp
 refine bQ aQ (by kernel_rfl) ?_
 simp[Pg.v,h.rows,h.bE]
 rw[wnm]
 obtain⟨N,hN0⟩: ∃N,n+m=N:=⟨_,rfl⟩
 rw[hN0]
 refine aC ?_
 simp
 refine bY aQ bl (Sub.refl _) [0,1,2] 4 (by kernel_rfl) ?_
 simp
 refine aO (hint 1 (by decide)) ?_
 simp
 refine Dz 3 ?_
 simp
 refine⟨by omega,by unfold maxLen;omega,fun gF hgF hbF=> ?_⟩
 have sF:Sub bl (upd bl gF (some ⟨1,List.replicate N [.bool false]⟩)):=by simp[hbF]
 refine⟨sF,Dz 4 ?_⟩
 simp
 refine⟨sF,Dz 5 ?_⟩
 simp
 intro gT hgT hTF hbT
 refine⟨by simp[hbF,hbT,hTF],Dz 6 ?_⟩
 simp
 refine⟨by simp[hbF,hbT,hTF],Dy ?_⟩
 simp
 obtain⟨b0,hb0⟩: ∃b0,b0=upd (upd bl gF (some ⟨1,List.replicate N [.bool false]⟩)) gT (some ⟨6,[[.nils,.bool false,.sl (iv (lim 1)),.nils,.int .i64 N,.lsl gF 1 0 N]]⟩):=⟨_,rfl⟩
 have b0T:b0 gT=some ⟨6,[[.nils,.bool false,.sl (iv (lim 1)),.nils,.int .i64 N,.lsl gF 1 0 N]]⟩:=by rw[hb0];simp[bA]
 have b0F:b0 gF=some ⟨1,lv N fun _=>false⟩:=by rw[hb0];simp[Ne.symm hTF,Em]
 have s0:Sub bl b0:=by rw[hb0];simp[hbF,hbT,hTF]
 refine gV [(0,.ptr p.v),(4,.int .i64 N),(5,.loc gT 6 0 0),(34,.int .i64 m),(35,.int .i64 0)] 205 b0 ⟨rfl,by simp[Pg.v,h.rows,h.bE],by rw[hb0];exact sub_eq (by simp[bA])⟩ ?_
 clear hb0
 refine qY (g:=gT) (s:=6) 0 0 1 b0T rfl rfl fun gR hgR hRT=> ?_
 have hgR:b0 gR=none:=hgR
 have hRF:gR≠gF:=fun e=>by rw[e,b0F] at hgR;cases hgR
 have b0R:bl gR=none:=by
  cases hv:bl gR with
  | none => rfl
  | some y => have := s0 gR y hv; rw [hgR] at this; cases this
 refine qY (g:=gT) (s:=6) (els:= [[.lsl gR 1 0 0,.bool false,.sl (iv (lim 1)),.nils,.int .i64 N,.lsl gF 1 0 N]]) 0 3 1 (by simp[Ne.symm hRT]) rfl rfl fun gB hgB hBT=> ?_
 simp[hBT] at hgB
 obtain⟨hBR,hgB⟩:=hgB
 have hBF:gB≠gF:=fun e=>by rw[e,b0F] at hgB;cases hgB
 have b0B:bl gB=none:=by
  cases hv:bl gB with
  | none => rfl
  | some y => have := s0 gB y hv; rw [hgB] at this; cases this
 obtain⟨b1,hb1⟩: ∃b1,b1=upd (upd (upd (upd b0 gT (some ⟨6,[[.lsl gR 1 0 0,.bool false,.sl (iv (lim 1)),.nils,.int .i64 N,.lsl gF 1 0 N]]⟩)) gR (some ⟨1,[]⟩)) gT (some ⟨6,[[.lsl gR 1 0 0,.bool false,.sl (iv (lim 1)),.lsl gB 1 0 0,.int .i64 N,.lsl gF 1 0 N]]⟩)) gB (some ⟨1,[]⟩):=⟨_,rfl⟩
 have t1:TT b1 ⟨gT,gR,gB,gF,[]⟩ (tbA p n m 0 (fun _=>false)):=by
  refine TT.start rfl ?_ ?_ ?_ ?_ hgT hgF ?_
  ·rw[hb1];simp[hRT,Ne.symm hBR]
  ·rw[hb1];simp
  ·rw[hb1];simp[Ne.symm hBT,Ne.symm hRT,tbA,hN0]
  ·rw[hb1];simp[Ne.symm hBF,Ne.symm hRF,Ne.symm hTF,tbA,hN0,b0F]
  ·simp;grind
 refine gV [(0,.ptr p.v),(4,.int .i64 N),(5,.loc gT 6 0 0),(34,.int .i64 m),(35,.int .i64 0)] 205 b1 ⟨rfl,by simp,by rw[hb1];exact sub_eq (by simp)⟩ ?_
 have s1:Sub bl b1:=by
  intro x y hx
  have:=s0 x y hx
  have x1:x≠gT:=fun e=>by rw[e,hbT] at hx;cases hx
  have x2:x≠gR:=fun e=>by rw[e,b0R] at hx;cases hx
  have x3:x≠gB:=fun e=>by rw[e,b0B] at hx;cases hx
  rw[hb1]
  simp[x1,x2,x3,this]
 clear hb1
 refine aK (fun q:aFF=> [(0,.ptr p.v),(4,.int .i64 N),(5,.loc gT 6 0 0),(34,.int .i64 m),(35,.int .i64 q.i)]) (fun q=>q.b) (fun q=>q.i≤m∧TT q.b q.g (tbA p n m q.i (fun _=>false))∧q.g.T=gT∧q.g.F=gF∧(∀x,x∈q.g.all→bl x=none)∧Sub bl q.b) (fun q=>m - q.i) _ ⟨0,⟨gT,gR,gB,gF,[]⟩,b1⟩ ⟨Nat.zero_le _,t1,rfl,rfl,by simp[TG.all,hbT,b0R,b0B,hbF],s1⟩ ⟨rfl,by simp,Sub.refl _⟩ ?_
 clear s1 t1 hgB hgR s0 b0T b0F
 clear b0R b0B hBT hBF hBR hRT hRF
 rintro⟨i,⟨gT',gR,gB,gF',ids⟩,b⟩ ⟨him,hTb,e1,e2,hal,hsb⟩
 simp only at e1 e2 him hTb hsb
 subst e1 e2
 have bT:b gT'=_:=hTb.hd
 have bB:b gB=_:=hTb.ba
 have bG:b gR=_:=hTb.dW.top
 have bF:b gF'=_:=hTb.fre
 have hil:=hTb.dW.len
 simp only[tbA] at bT bB bG bF hil
 rw[hN0] at bT bF bG
 have wi:IntKind.i64.wrap ((i:Int)+1)=(i:Int)+1:=i64_in (by omega) (by omega)
 obtain⟨N1,hN1⟩: ∃x,N+1=x:=⟨_,rfl⟩
 rw[hN1] at bG
 have wN:IntKind.i64.wrap ((N:Int)+1)=(N1:Int):=by rw[i64_in (by omega) (by omega)];omega
 refine aE ?_
 simp
 refine aE ?_
 simp
 refine⟨fun hi=> ?_,fun hi=> ?_⟩
 ·refine cK (cD ?_)
  refine aE ?_
  simp
  refine aE ?_
  simp[wN]
  refine⟨by omega,by unfold maxLen;omega,fun gr hgr hbr=> ?_⟩
  refine aHI (g:=gr) (s:=2) (els:=List.replicate N1 [.bool false,.nils]) ?_ ?_
  ·simp
  rw[Pc]
  refine aE ?_
  simp
  have rT: ¬ gr=gT':=fun e=>by rw[e,bT] at hbr;cases hbr
  have rR: ¬ gr=gR:=fun e=>by rw[e,bG] at hbr;cases hbr
  have rB: ¬ gr=gB:=fun e=>by rw[e,bB] at hbr;cases hbr
  have rF: ¬ gr=gF':=fun e=>by rw[e,bF] at hbr;cases hbr
  have ri:gr∉ids:=fun hm2=>by
   obtain⟨q,hq⟩:=List.mem_iff_getElem?.1 hm2
   rw[hTb.dW.row q gr hq] at hbr;cases hbr
  have rbl:bl gr=none:=by
   cases hv:bl gr with
   | none => rfl
   | some y => have := hsb gr y hv; rw [hbr] at this; cases this
  refine jY (fun _:Unit=> [(0,.ptr p.v),(4,.int .i64 N),(5,.loc gT' 6 0 0),(34,.int .i64 m),(35,.int .i64 i),(6,.int .i64 i),(7,.lsl gr 2 0 N1),(8,.int .i64 (sgB p i))]) (fun _=>upd b gr (some ⟨2,zv N1 fun _=>0⟩)) (fun _=>True) 205 ?_ ?_
  ·refine aC ?_
   simp[Pg.v,h.b,hi]
   refine⟨fun cQ=> ?_,fun cQ=> ?_⟩
   ·simp[aG]
    exact⟨rfl,by simp[Pg.v,h.b,sgB,cQ],sub_eq (by simp)⟩
   ·simp[aG]
    exact⟨rfl,by simp[Pg.v,h.b,sgB,cQ],sub_eq (by simp)⟩
  rintro⟨⟩ -
  obtain⟨sg,hsg⟩: ∃x,sgB p i=x:=⟨_,rfl⟩
  have sg1:sg.natAbs=1:=by rw[←hsg];unfold sgB;split<;>rfl
  rw[hsg]
  have hpA: ∀c,(sg*pA p n i c).natAbs≤1000:=fun c=>by rw[Int.natAbs_mul,sg1,Nat.one_mul];exact lG h.am _
  have hpB:(sg*pB p i).natAbs≤1000:=by rw[Int.natAbs_mul,sg1,Nat.one_mul];exact lG h.bm _
  refine jY (fun _:Unit=> [(0,.ptr p.v),(4,.int .i64 N),(5,.loc gT' 6 0 0),(34,.int .i64 m),(35,.int .i64 i),(6,.int .i64 i),(7,.lsl gr 2 0 N1),(8,.int .i64 sg)]) (fun _=>upd b gr (some ⟨2,zv N1 fun c=>if c<n then sg*pA p n i c else 0⟩)) (fun _=>True) 205 ?_ ?_
  ·refine aC ?_
   simp
   refine aD (Ub p n m i h hi) ?_
   simp
   refine aK (fun j:Nat=> [(0,.ptr p.v),(4,.int .i64 N),(5,.loc gT' 6 0 0),(34,.int .i64 m),(35,.int .i64 i),(6,.int .i64 i),(7,.lsl gr 2 0 N1),(8,.int .i64 sg),(51,.sl (iv (lz n (pA p n i)))),(52,.int .i64 n),(53,.int .i64 j)]) (fun j=>upd b gr (some ⟨2,zv N1 fun c=>if c<j then sg*pA p n i c else 0⟩)) (fun j=>j≤n) (fun j=>n - j) _ 0 (Nat.zero_le _) ⟨rfl,by simp,sub_eq (by simp)⟩ ?_
   intro j hj
   have wj:IntKind.i64.wrap ((j:Int)+1)=(j:Int)+1:=i64_in (by omega) (by omega)
   have wa: ∀c,IntKind.i64.wrap (sg*pA p n i c)=sg*pA p n i c:=fun c=>i64_in (by have:=hpA c;omega) (by have:=hpA c;omega)
   refine aC ?_
   simp
   refine⟨fun hjn=> ?_,fun hjn=> ?_⟩
   ·simp[hjn,wa]
    refine aD (hint _ (hpA j)) ?_
    simp[wj,aB,show j<N1 by omega,Ko]
    refine⟨j+1,by omega,by omega,rfl,by simp,?_⟩
    refine sub_eq ?_
    funext x
    simp only[aA]
    split
    ·congr 2
     exact qL fun c hc=>by
      by_cases e:c=j
      ·rw[if_pos e,if_pos (by omega),e]
      ·rw[if_neg e];grind
    ·rfl
   ·rw[show j=n by omega]
    simp[aG]
    exact⟨rfl,by simp,Sub.refl _⟩
  rintro⟨⟩ -
  refine aE ?_
  have wni:IntKind.i64.wrap ((n:Int)+(i:Int))=((n+i:Nat):Int):=by rw[i64_in (by omega) (by omega)];simp
  obtain⟨ni,hni⟩: ∃x,n+i=x:=⟨_,rfl⟩
  rw[hni] at wni
  refine cL aQ [0,1,2,3,4,5,6,7,8] 1 9 (by kernel_rfl) ?_
  simp[Pg.v,h.bE,wni]
  refine aO (hint 1 (by decide)) ?_
  simp[show ni<N1 by omega,show(ni:Int)<N1 by omega]
  refine bX (i:=9) (by kernel_rfl) rfl rfl rfl ?_
  simp[show ni<N1 by omega,Ko]
  refine Dy ?_
  simp
  refine aE ?_
  have wB:IntKind.i64.wrap (sg*pB p i)=sg*pB p i:=i64_in (by omega) (by omega)
  have hNN:N<N1:=by omega
  have Vl:(N:Int)<N1:=by omega
  simp[Pg.v,h.b,hi,wB]
  refine aD (hint _ hpB) ?_
  simp[hNN,Vl,Ko]
  obtain⟨b2,hb2⟩: ∃b2,b2=upd b gr (some ⟨2,zv N1 (eZ p n m i)⟩):=⟨_,rfl⟩
  refine gV [(0,.ptr p.v),(4,.int .i64 N),(5,.loc gT' 6 0 0),(34,.int .i64 m),(35,.int .i64 i),(6,.int .i64 i),(7,.lsl gr 2 0 N1)] 205 b2 ⟨rfl,by simp[Pg.v,h.b,h.bE],?_⟩ ?_
  ·rw[hb2]
   refine sub_eq ?_
   funext x
   simp only[aA]
   split
   ·congr 2
    exact qL fun c hc=>by
     unfold eZ
     rw[hN0,hni,hsg]
     grind
   ·rfl
  have b2r:b2 gr=some ⟨2,zv N1 (eZ p n m i)⟩:=by rw[hb2];simp
  have b2x: ∀x,x≠gr→b2 x=b x:=fun x hx=>by rw[hb2,aL _ _ _ _ hx]
  have b2T:=b2x gT' (Ne.symm rT)
  have b2R:=b2x gR (Ne.symm rR)
  have b2B:=b2x gB (Ne.symm rB)
  have b2F:=b2x gF' (Ne.symm rF)
  have b2i: ∀x,x∈ids→b2 x=b x:=fun x hx=>b2x x fun e=>ri (e▸hx)
  rw[bT] at b2T
  rw[bG] at b2R
  rw[bB] at b2B
  rw[bF] at b2F
  clear hb2
  have nds:=hTb.nd
  simp only[List.nodup_cons,List.mem_cons,not_or] at nds
  obtain⟨⟨nTR,nTB,nTF,nTi⟩,⟨nRB,nRF,nRi⟩,⟨nBF,nBi⟩,nFi,Nf⟩:=nds
  have Kn: ∀x,b2 x=none→x≠gT'∧x≠gR∧x≠gB∧x≠gF'∧x≠gr∧x∉ids:=fun x hx=>by
   refine⟨fun e=> ?_,fun e=> ?_,fun e=> ?_,fun e=> ?_,fun e=> ?_,fun e=> ?_⟩
   ·rw[e,b2T] at hx;cases hx
   ·rw[e,b2R] at hx;cases hx
   ·rw[e,b2B] at hx;cases hx
   ·rw[e,b2F] at hx;cases hx
   ·rw[e,b2r] at hx;cases hx
   ·rw[b2i x e] at hx
    obtain⟨q,hq⟩:=List.mem_iff_getElem?.1 e
    rw[hTb.dW.row q x hq] at hx;cases hx
  refine aE ?_
  simp[b2T,b2R,appV,elsV,hil]
  intro g4 hg4 hb4
  obtain⟨n4T,n4R,n4B,n4F,n4r,n4i⟩:=Kn g4 hb4
  have tk:(ids.map fun g=> [V.lsl g 2 0 N1]).take i=ids.map fun g=> [V.lsl g 2 0 N1]:=List.take_of_length_le (by simp[hil])
  simp[Ne.symm n4T,Ne.symm n4R,n4T,n4R,Int.not_lt.2 hg4,b2R,hil,tk]
  refine⟨by omega,fun gN hgN hbN=> ?_⟩
  have nN:gN≠gT'∧gN≠gB∧gN≠gF'∧gN≠gr∧gN∉ids∧gN≠g4:=by
   by_cases e:gN=gR
   ·subst e
    exact⟨Ne.symm nTR,nRB,nRF,Ne.symm rR,nRi,Ne.symm n4R⟩
   ·obtain⟨q1,q2⟩:=hbN e
    obtain⟨w1,w2,w3,w4,w5,w6⟩:=Kn gN q2
    exact⟨w1,w3,w4,w5,w6,q1⟩
  obtain⟨nNT,nNB,nNF,nNr,nNi,nN4⟩:=nN
  simp[Ne.symm nNT,nNT,Ne.symm n4T,nTR,b2T]
  obtain⟨b3,hb3⟩: ∃b3,b3=upd (upd (rem b2 gR) gN (some ⟨1,(ids++ [gr]).map fun g=> [.lsl g 2 0 N1]⟩)) gT' (some ⟨6,[[.lsl gN 1 0 (i+1),.bool false,.sl (iv (lim 1)),.lsl gB 1 0 i,.int .i64 N,.lsl gF' 1 0 N]]⟩):=⟨_,rfl⟩
  refine gV [(0,.ptr p.v),(4,.int .i64 N),(5,.loc gT' 6 0 0),(34,.int .i64 m),(35,.int .i64 i),(6,.int .i64 i)] 205 b3 ⟨rfl,by simp[Pg.v,h.b,h.bE],?_⟩ ?_
  ·rw[hb3]
   intro z y hz
   simp only[aA,aJ] at hz ⊢
   grind
  have b3N:b3 gN=some ⟨1,(ids++ [gr]).map fun g=> [.lsl g 2 0 N1]⟩:=by rw[hb3];simp[nNT]
  have b3T:b3 gT'=some ⟨6,[[.lsl gN 1 0 (i+1),.bool false,.sl (iv (lim 1)),.lsl gB 1 0 i,.int .i64 N,.lsl gF' 1 0 N]]⟩:=by rw[hb3];simp
  have b3x: ∀x,x≠gT'→x≠gN→x≠gR→b3 x=b2 x:=fun x x1 x2 x3=>by rw[hb3,aL _ _ _ _ x1,aL _ _ _ _ x2,aJ,if_neg x3]
  have b3B:=b3x gB (Ne.symm nTB) (Ne.symm nNB) (Ne.symm nRB)
  rw[b2B] at b3B
  clear hb3
  refine sL aQ (rem b3 gB) (uY b3 gB) [0,1,2,3,4,5,6,7,8,9,10] 5 15 (by kernel_rfl) ?_
  simp[nTB,b3T,Pg.v,h.bE,wni]
  refine Dq 11 false ?_
  simp
  intro g5 hg5 hb5
  have n5:g5≠gT'∧g5≠gN∧g5≠gB:=⟨fun e=>(by rw[e,b3T] at hb5;cases hb5),fun e=>(by rw[e,b3N] at hb5;cases hb5),fun e=>(by rw[e,b3B] at hb5;cases hb5)⟩
  obtain⟨n5T,n5N,n5B⟩:=n5
  have r5:rem b3 gB g5=none:=by rw[aJ,if_neg n5B];exact hb5
  have aDA: ∀X,Sub (rem b3 gB) (upd b3 g5 X):=fun X z y hz=>by
   rw[aJ] at hz
   rw[aA]
   grind
  refine⟨aDA _,Dq 12 false ?_⟩
  have tkB:(iv (lb i fun q=>n+q)).take i=iv (lb i fun q=>n+q):=List.take_of_length_le (by simp)
  simp[n5B,Ne.symm n5B,appV,elsV,Int.not_lt.2 hg5,b3B,tkB]
  have hlb:iv (lb i fun q=>n+q)++ [[.int .i64 ni]]=iv (lb (i+1) fun q=>n+q):=by rw[Nq,eM,hni];rfl
  rw[hlb]
  refine⟨by omega,fun gM hgM hbM=> ?_⟩
  have nM:gM≠gT'∧gM≠gN∧gM≠gF'∧gM≠gr∧gM∉ids∧gM≠g5:=by
   by_cases e:gM=gB
   ·subst e
    exact⟨Ne.symm nTB,Ne.symm nNB,nBF,Ne.symm rB,nBi,Ne.symm n5B⟩
   ·obtain⟨q1,q2⟩:=hbM e
    have q3:gM≠gT':=fun e2=>by rw[e2,b3T] at q2;cases q2
    have q4:gM≠gN:=fun e2=>by rw[e2,b3N] at q2;cases q2
    by_cases e3:gM=gR
    ·subst e3
     exact⟨q3,q4,nRF,Ne.symm rR,nRi,q1⟩
    ·rw[b3x gM q3 q4 e3] at q2
     obtain⟨w1,w2,w3,w4,w5,w6⟩:=Kn gM q2
     exact⟨q3,q4,w4,w5,w6,q1⟩
  obtain⟨nMT,nMN,nMF,nMr,nMi,nM5⟩:=nM
  have vK: ∀X Y,Sub (rem b3 gB) (upd (rem (upd b3 g5 X) gB) gM Y):=fun X Y z y hz=>by
   rw[aJ] at hz
   rw[aA,aJ,aA]
   grind
  have aED: ∀X Y Z,Sub (upd (upd (rem b3 gB) gM Y) gT' Z) (upd (upd (rem (upd b3 g5 X) gB) gM Y) gT' Z):=fun X Y Z z y hz=>by
   simp only[aA,aJ] at hz ⊢
   grind
  refine⟨vK _ _,Dq 13 false ?_⟩
  simp
  refine⟨vK _ _,Dq 14 false ?_⟩
  simp
  refine⟨vK _ _,Dq 15 true ?_⟩
  simp[Ne.symm nMT,nTB,n5T,Ne.symm n5T,b3T]
  refine Dd ?_
  simp
  refine aC ?_
  simp[wi,aB]
  obtain⟨b4,Ok⟩: ∃b4,b4=upd (upd (rem b3 gB) gM (some ⟨1,iv (lb (i+1) fun q=>n+q)⟩)) gT' (some ⟨6,[[.lsl gN 1 0 (i+1),.bool false,.sl (iv (lim 1)),.lsl gM 1 0 (i+1),.int .i64 N,.lsl gF' 1 0 N]]⟩):=⟨_,rfl⟩
  have b4T:b4 gT'=some ⟨6,[[.lsl gN 1 0 (i+1),.bool false,.sl (iv (lim 1)),.lsl gM 1 0 (i+1),.int .i64 N,.lsl gF' 1 0 N]]⟩:=by rw[Ok];simp
  have b4M:b4 gM=some ⟨1,iv (lb (i+1) fun q=>n+q)⟩:=by rw[Ok];simp[nMT]
  have b4x: ∀x,x≠gT'→x≠gM→x≠gB→b4 x=b3 x:=fun x x1 x2 x3=>by rw[Ok,aL _ _ _ _ x1,aL _ _ _ _ x2,aJ,if_neg x3]
  have b4o: ∀x,x≠gT'→x≠gM→x≠gB→x≠gN→x≠gR→x≠gr→b4 x=b x:=fun x x1 x2 x3 x4 x5 x6=>by rw[b4x x x1 x2 x3,b3x x x1 x4 x5,b2x x x6]
  have fr: ∀x,b x=none→bl x=none:=fun x hx=>by
   cases hv:bl x with
   | none => rfl
   | some y => have := hsb x y hv; rw [hx] at this; cases this
  have blR:bl gR=none:=hal gR (by simp[TG.all])
  have blB:bl gB=none:=hal gB (by simp[TG.all])
  have blN:bl gN=none:=by
   by_cases e:gN=gR
   ·rw[e];exact blR
   ·have:=(hbN e).2
    rw[b2x gN nNr] at this;exact fr gN this
  have blM:bl gM=none:=by
   by_cases e:gM=gB
   ·rw[e];exact blB
   ·by_cases e3:gM=gR
    ·rw[e3];exact blR
    ·have:=(hbM e).2
     rw[b3x gM nMT nMN e3,b2x gM nMr] at this;exact fr gM this
  have Ib:=hTb.snoc (b':=b4) gN gM gr (by simp only[tbA];rw[hN0,hN1,b4x gN nNT (Ne.symm nMN) nNB,b3N]) (by simp only[tbA];exact b4M) (by simp only[tbA];rw[hN0,b4T];rfl)
   (by simp only;exact b4o gF' (Ne.symm nTF) (Ne.symm nMF) (Ne.symm nBF) (Ne.symm nNF) (Ne.symm nRF) (Ne.symm rF))
   (fun x hx=>by simp only at hx;exact b4o x (fun e=>nTi (e▸hx)) (fun e=>nMi (e▸hx)) (fun e=>nBi (e▸hx)) (fun e=>nNi (e▸hx)) (fun e=>nRi (e▸hx)) (fun e=>ri (e▸hx)))
   (by simp only[tbA];rw[hN0,hN1,b4x gr rT (Ne.symm nMr) rB,b3x gr rT (Ne.symm nNr) rR,b2r]) hgr hgN hgM (by
     simp only[List.nodup_cons,List.mem_cons,not_or,List.mem_append,List.mem_singleton,List.nodup_append,List.not_mem_nil,or_false]
     refine⟨⟨Ne.symm nNT,Ne.symm nMT,nTF,nTi,Ne.symm rT⟩,⟨Ne.symm nMN,nNF,nNi,nNr⟩,⟨nMF,nMi,nMr⟩,⟨nFi,Ne.symm rF⟩,Nf,by simp,fun a ha c hc=> ?_⟩
     rw[hc];exact fun e=>ri (e▸ha))
  refine⟨⟨i+1,⟨gT',gN,gM,gF',ids++ [gr]⟩,b4⟩,⟨by simp only;omega,Ib,rfl,rfl,fun x hx=> ?_,fun x y hx=> ?_⟩,by simp only;omega,rfl,by simp[h.bE,h.b],by rw[Ok];exact aED _ _ _⟩
  ·simp only[TG.all,List.mem_cons,List.mem_append,List.not_mem_nil,or_false] at hx
   rcases hx with rfl | rfl | rfl | rfl | hx | rfl
   ·exact hbT
   ·exact blN
   ·exact blM
   ·exact hbF
   ·exact hal x (by simp[TG.all,hx])
   ·exact rbl
  ·have nx: ∀z,bl z=none→x≠z:=fun z hz e=>by rw[e,hz] at hx;cases hx
   simp only
   rw[b4o x (nx _ hbT) (nx _ blM) (nx _ blB) (nx _ blN) (nx _ blR) (nx _ rbl)]
   exact hsb x y hx
 ·have hie:i=m:=by omega
  subst hie
  clear hi him
  refine⟨by omega,by unfold maxLen;omega,fun gO hgO hbO=> ?_⟩
  have oT: ¬ gO=gT':=fun e=>by rw[e,bT] at hbO;cases hbO
  have oR: ¬ gO=gR:=fun e=>by rw[e,bG] at hbO;cases hbO
  have oB: ¬ gO=gB:=fun e=>by rw[e,bB] at hbO;cases hbO
  have oF: ¬ gO=gF':=fun e=>by rw[e,bF] at hbO;cases hbO
  have oi:gO∉ids:=fun hm2=>by
   obtain⟨q,hq⟩:=List.mem_iff_getElem?.1 hm2
   rw[hTb.dW.row q gO hq] at hbO;cases hbO
  have nds:=hTb.nd
  simp only[List.nodup_cons,List.mem_cons,not_or] at nds
  obtain⟨⟨nTR,nTB,nTF,nTi⟩,⟨nRB,nRF,nRi⟩,⟨nBF,nBi⟩,nFi,Nf⟩:=nds
  refine aK (fun k:Nat=> [(0,.ptr p.v),(4,.int .i64 N),(5,.loc gT' 6 0 0),(11,.lsl gO 1 0 N),(117,.int .i64 N),(118,.int .i64 k)]) (fun k=>upd (upd b gF' (some ⟨1,lv N fun c=>decide (c<k∧c<n)⟩)) gO (some ⟨1,iv (lz N fun c=>if c<k then oA n i c else 0)⟩)) (fun k=>k≤N) (fun k=>N - k) _ 0 (Nat.zero_le _) ⟨rfl,by simp[Pg.v,h.b,h.bE],?_⟩ ?_
  ·refine sub_eq ?_
   funext x
   simp only[aA]
   rw[P5]
   split
   ·simp
   ·split
    ·rename_i e;rw[e,bF];simp
    ·rfl
  intro k hk
  have wk:IntKind.i64.wrap ((k:Int)+1)=(k:Int)+1:=i64_in (by omega) (by omega)
  refine aE ?_
  simp
  refine aE ?_
  simp
  refine⟨fun hkn=> ?_,fun hkn=> ?_⟩
  ·refine cK (cD ?_)
   refine aE ?_
   simp
   refine cK ?_
   refine cL aQ [0,1,2,3,4,5,6,7,8,9,10,11] 1 12 (by kernel_rfl) ?_
   have nOT:=Ne.symm oT
   simp[Pg.v,h.bE,bT,nOT,nTF,hkn]
   refine bX (i:=12) (by kernel_rfl) rfl rfl rfl ?_
   simp[Ne.symm oF,hkn,Q4, -Bool.decide_and]
   refine Dy ?_
   simp
   refine aC ?_
   simp[Pg.v,h.bE,oF,hkn,wk,aB,Hj]
   refine⟨fun hnk=> ?_,fun hnk=> ?_⟩
   ·refine aC ?_
    simp[wk,aB]
    refine⟨k+1,by omega,by omega,rfl,by simp[h.bE],sub_eq ?_⟩
    have e1:(lv N fun c=>decide (c<k+1)&& decide (c<n))=lv N fun c=>if c=k then decide (k<n) else decide (c<k)&& decide (c<n):=mG fun c _=>by
     by_cases e:c=k
     ·subst e;simp
     ·rw[if_neg e,show decide (c<k+1)=decide (c<k) from by simp;omega]
    have e2:(lz N fun c=>if c<k+1 then oA n i c else 0)=lz N fun c=>if c=k then -1 else if c<k then oA n i c else 0:=wL fun c hc=>by
     by_cases e:c=k
     ·subst e;rw[if_pos (by omega),if_pos rfl];unfold oA;rw[if_pos ⟨hnk,by omega⟩]
     ·rw[if_neg e];grind
    funext x
    simp only[aA]
    rw[e1,e2]
    grind
   ·refine aC ?_
    simp[wk,aB]
    refine⟨k+1,by omega,by omega,rfl,by simp[h.bE],sub_eq ?_⟩
    have e1:(lv N fun c=>decide (c<k+1)&& decide (c<n))=lv N fun c=>if c=k then decide (k<n) else decide (c<k)&& decide (c<n):=mG fun c _=>by
     by_cases e:c=k
     ·subst e;simp
     ·rw[if_neg e,show decide (c<k+1)=decide (c<k) from by simp;omega]
    have e2:(lz N fun c=>if c<k+1 then oA n i c else 0)=lz N fun c=>if c<k then oA n i c else 0:=wL fun c hc=>by
     by_cases e:c=k
     ·subst e;rw[if_pos (by omega),if_neg (by omega)];unfold oA;rw[if_neg (by omega)]
     ·grind
    funext x
    simp only[aA]
    rw[e1,e2]
    grind
  ·have hke:k=N:=by omega
   subst hke
   clear hkn hk
   obtain⟨bM,hbM⟩: ∃bM,bM=upd (upd b gF' (some ⟨1,lv k fun c=>decide (c<k)&& decide (c<n)⟩)) gO (some ⟨1,iv (lz k fun c=>if c<k then oA n i c else 0)⟩):=⟨_,rfl⟩
   rw[←hbM]
   have bMF:bM gF'=some ⟨1,lv k (okA n)⟩:=by
    rw[hbM]
    simp[Ne.symm oF]
    exact mG fun c hc=>by unfold okA;simp[hc]
   have bMO:bM gO=some ⟨1,iv (lz k (oA n i))⟩:=by
    rw[hbM]
    simp
    rw[wL fun c hc=>by rw[if_pos hc]]
   have bMx: ∀x,x≠gF'→x≠gO→bM x=b x:=fun x x1 x2=>by rw[hbM,aL _ _ _ _ x2,aL _ _ _ _ x1]
   clear hbM
   have hTM:=(hTb.aDP (b':=bM) (okA n) (by simp only[tbA];rw[hN0];exact bMF) (fun x y hx hx2 hy=>by
    rw[bMx x hx2 fun e=> ?_];exact hy
    have:=hal x hx
    rw[e] at hy;rw[hbO] at hy;cases hy)).first h
   obtain⟨e,h1,h2,h3,h4⟩:=Lp.uV (F:=fO (n+i) (okA n)) (N':=n+i) h.init (fun c hc=>hc.1) (Nat.le_refl _) (fun c hc=>⟨by omega,by omega,by unfold okA;simpa using hc⟩)
   rw[←Kv] at h1 h2 h3
   have hnx:Lp.nx (n+i) (n+i) (List.range i) (Lp.okW i (wO (oA n i)) (fO (n+i) (okA n))) (Lp.orb (Lp.nx (n+i) (n+i) (List.range i) (Lp.okW i (wO (oA n i)) (fO (n+i) (okA n)))) (Lp.lW n (eQ p n i)) e)=none:=by
    unfold Lp.nx at h1 ⊢
    rw[h1]
   have hoA: ∀c,(oA n i c).natAbs≤1000:=fun c=>by unfold oA;split<;>decide
   have L1:=fun K'=>tQ (bl:=bM) (K:=K') n i (eQ p n i) (List.range i) ⟨gT',gR,gB,gF',ids⟩ (Lp.lW n (eQ p n i)) (okA n) (oA n i) gO e hml hnl (W3 i) hoA (.inl fun q hq=>by simpa using hq) hnx h2 h3 hTM (by rw[hN0];exact bMO) hgO (by simp[TG.all,oT,oR,oB,oF,oi])
   rw[Kv] at h1
   simp only[Kv] at L1
   obtain⟨t,ht⟩: ∃t,Lp.orb (Lp.nx (n+i) (n+i) (List.range i) (Lp.okW i (Lp.cN n i) (fO (n+i) (okA n)))) (Lp.lW n (eQ p n i)) e=t:=⟨_,rfl⟩
   rw[ht] at h1 h4
   simp only[ht] at L1
   simp only[hN0] at L1
   rw[hN0] at h1
   refine L1 _ (fun b' _ hT2 hx2=> ?_) (fun b' k' hk'=>absurd hk' (by rw[h1];simp))
   clear L1
   generalize frK i (oA n i) t (okA n) k=fr at hT2
   simp
   have Vl:k<N1:=by omega
   have aGL:(k:Int)<N1:=by omega
   have cT:b' gT'=_:=hT2.hd
   have cB:b' gB=_:=hT2.ba
   have cG:b' gR=_:=hT2.dW.top
   have cF:b' gF'=_:=hT2.fre
   have hrl:(List.range i).length=i:=by simp
   simp only[bD,hrl,hN0,hN1] at cT cB cG cF
   have cB2:lb i (fun q=>t.bs (atR (List.range i) q))=lb i t.bs:=List.map_congr_left fun q hq=>by
    have hq':q<i:=by simpa using hq
    simp only[nQ hq']
   rw[cB2] at cB
   simp[cT]
   have cS:Sub bl b':=fun x y hx=>by
    have h9:=hsb x y hx
    have x1:x∉TG.all ⟨gT',gR,gB,gF',ids⟩:=fun hm2=>by have:=hal x hm2;rw[this] at hx;cases hx
    have x2:x≠gF':=fun e=>x1 (by rw[e];simp[TG.all])
    have x3:x≠gO:=fun e=>by rw[e,hbO] at h9;cases h9
    exact hx2 x y (by rw[bMx x x2 x3];exact h9) x1
   refine aK (fun j:Nat=> [(0,.ptr p.v),(4,.int .i64 k),(5,.loc gT' 6 0 0),(149,.lsl gB 1 0 i),(150,.int .i64 i),(151,.int .i64 j)]) (fun _=>b') (fun j=>j≤i∧ ∀q,q<j→ ¬ (n≤t.bs q∧0<t.X q (n+i))) (fun j=>i - j) _ 0 ⟨Nat.zero_le _,fun q hq=>by omega⟩ ⟨rfl,by simp[Pg.v,h.b,h.bE],Sub.refl _⟩ ?_
   rintro j ⟨hj,cO⟩
   have wj:IntKind.i64.wrap ((j:Int)+1)=(j:Int)+1:=i64_in (by omega) (by omega)
   refine aE ?_
   simp
   refine aE ?_
   simp
   refine⟨fun hji=> ?_,fun hji=> ?_⟩
   ·refine cK (cD ?_)
    refine aE ?_
    simp[cB,hji]
    obtain⟨gi,hgi,Bp,Vv,tR⟩:=hT2.dW.at j (by simp only[bD,hrl];exact hji)
    simp only[bD] at tR
    rw[hN0,hN1,nQ hji] at tR
    obtain⟨zx,hzx⟩: ∃zx,Lp.zt i (eQ p n i) t j k=zx:=⟨_,rfl⟩
    refine aE ?_
    simp
    refine aV [(0,.ptr p.v),(4,.int .i64 k),(5,.loc gT' 6 0 0),(149,.lsl gB 1 0 i),(150,.int .i64 i),(151,.int .i64 j),(13,.int .i64 j),(14,.int .i64 (t.bs j))] _ b' 175 (.bool (decide (n≤t.bs j∧0<zx))) ⟨rfl,by simp[Pg.v,h.b,h.bE],Sub.refl _⟩ rfl ?_ ?_
    ·simp[Pg.v,h.bE]
     by_cases hnb:n≤t.bs j
     ·have hgj: ∀h,ids[j]'h=gi:=fun h=>by rw[List.getElem?_eq_getElem h] at hgi;exact Option.some.inj hgi
      simp[hnb,Nat.not_lt.2 hnb,cT,cG,hji,hgj,tR,Vl,aGL,hil]
      refine aD (jS _) ?_
      rw[hzx]
      have hsp:0<zx.sign ↔ 0<zx:=by
       rcases Int.lt_trichotomy zx 0 with q | q | q
       ·rw[Int.sign_eq_neg_one_of_neg q];omega
       ·rw[q];decide
       ·rw[Int.sign_eq_one_of_pos q];omega
      simp[hsp]
     ·simp[hnb]
    have hzs:=Lp.nZ h4.inv.z hji (show n+i<n+i+1 by omega)
    rw[hN0,hzx] at hzs
    have hzero:Lp.rc i (Lp.cN n i) t (n+i)=0→t.bs j<n∨t.X j (n+i)=0:=fun h0=>by
     rcases Nat.lt_or_ge (t.bs j) n with g | g
     ·exact .inl g
     ·exact .inr (h4.zero h0 j hji (by omega))
    refine aC ?_
    simp
    refine⟨fun c1 c2=> ?_,fun hno=> ?_⟩
    ·rw[aX]
     refine⟨[.nilp,.bool false],by simp,hN b' t h4 (fun h0=> ?_) cS⟩
     have:=hzs.1.1 c2
     rw[←hN0] at this
     rcases hzero h0 with g | g
     ·omega
     ·rw[g] at this;exact absurd this (by decide)
    ·refine aC ?_
     simp[wj,aB]
     refine⟨j+1,⟨by omega,fun q hq c1 c2=> ?_⟩,by omega,rfl,by simp[h.bE,h.b],Sub.refl _⟩
     by_cases e:q=j
     ·subst e
      rw[hN0] at c2
      have g1:=hno c1
      have g2:=hzs.1.2 c2
      omega
     ·exact cO q (by omega) ⟨c1,c2⟩
   ·have hje:j=i:=by omega
    subst hje
    have hp0:Lp.rc j (Lp.cN n j) t (n+j)=0:=by
     rw[Lp.sW rfl]
     refine Lp.fV fun q hq=> ?_
     split
     ·rename_i hb
      have h8:=h4.inv.nn q hq
      have h9: ¬ 0<t.X q (n+j):=fun g=>cO q hq ⟨hb.1,g⟩
      grind
     ·rfl
    simp[cT]
    refine aK (fun c:Nat=> [(0,.ptr p.v),(4,.int .i64 k),(5,.loc gT' 6 0 0),(181,.int .i64 k),(182,.int .i64 c)]) (fun c=>upd b' gF' (some ⟨1,lv k fun x=>if x<c then okA n x else fr x⟩)) (fun c=>c≤k) (fun c=>k - c) _ 0 (Nat.zero_le _) ⟨rfl,by simp[Pg.v,h.b,h.bE],?_⟩ ?_
    ·refine sub_eq ?_
     funext x
     simp only[aA]
     split
     ·rename_i e;rw[e,cF];simp
     ·rfl
    intro c hc
    have wc:IntKind.i64.wrap ((c:Int)+1)=(c:Int)+1:=i64_in (by omega) (by omega)
    refine aE ?_
    simp
    refine aE ?_
    simp
    refine⟨fun hck=> ?_,fun hck=> ?_⟩
    ·refine cK (cD ?_)
     refine aE ?_
     simp
     refine cL aQ [0,1,2,3,4,5,6,7,8,9,10,11] 1 12 (by kernel_rfl) ?_
     simp[Pg.v,h.bE,cT,nTF,hck]
     refine bX (i:=12) (by kernel_rfl) rfl rfl rfl ?_
     simp[hck,Q4]
     refine Dy ?_
     simp
     refine aC ?_
     simp[wc,aB]
     refine⟨c+1,by omega,by omega,rfl,by simp[h.bE],sub_eq ?_⟩
     funext x
     simp only[aA]
     split
     ·congr 2
      exact mG fun y hy=>by
       by_cases e:y=c
       ·subst e;simp[okA]
       ·rw[if_neg e];grind
     ·rfl
    ·have hce:c=k:=by omega
     subst hce
     obtain⟨bL,hbL⟩: ∃bL,bL=upd b' gF' (some ⟨1,lv c fun x=>if x<c then okA n x else fr x⟩):=⟨_,rfl⟩
     rw[←hbL]
     have bLF:bL gF'=some ⟨1,lv c (okA n)⟩:=by rw[hbL,bO,mG fun x hx=>by rw[if_pos hx]]
     have bLx: ∀x,x≠gF'→bL x=b' x:=fun x x1=>by rw[hbL,aL _ _ _ _ x1]
     clear hbL
     have hTL:=hT2.aDP (b':=bL) (okA n) (by simp only[bD];rw[hN0];exact bLF) (fun x y hx hx2 hy=>by rw[bLx x hx2];exact hy)
     simp[Pg.v,h.bE]
     refine Gx n j (eQ p n j) ⟨gT',gR,gB,gF',ids⟩ t (okA n) hml hnl (h4.uZ hp0) hTL fun b5 g5 e1 e2 hT5 aKY hb5=> ?_
     simp
     rw[aX]
     have n5: ∀x y,bl x=some y→x∉TG.all ⟨gT',gR,gB,gF',ids⟩:=fun x y hx hm2=>by have:=hal x hm2;rw[this] at hx;cases hx
     refine⟨[.loc g5.T 6 0 0,.bool true],by simp[e1],hS b5 g5 t h4 hp0 hT5 (fun x hx=> ?_) fun x y hx=> ?_⟩
     ·rcases aKY x hx with g1 | g1
      ·exact hal x g1
      ·cases hv:bl x with
       | none => rfl
       | some y =>
         have g2:=n5 x y hv
         rw[bLx x fun e=>g2 (by rw[e];simp[TG.all]),cS x y hv] at g1
         cases g1
     ·have g2:=n5 x y hx
      exact hb5 x y (by rw[bLx x fun e=>g2 (by rw[e];simp[TG.all])];exact cS x y hx) g2

section
variable {P : Program}
theorem Mem.see {w0:World} {M F:Nat→Prop} {bl:Int→Option Blk} {w:World} (hm:Mem w0 M F bl w) {g:Int} {b b':Blk} (hb:bl g=some b) (hB:cA F w g b'):Mem w0 M F (upd bl g (some b')) w:=by
 refine⟨hm.os,hm.tape,hm.output,hm.size,hm.frame,hm.gP,hm.fr,?_,fun x c hx h0=> ?_,fun x c hx=> ?_⟩
 ·obtain⟨n,hn⟩:=hm.fin
  refine⟨n,fun x hx=> ?_⟩
  have:=hn x hx
  by_cases hxg:x=g
  ·subst hxg;rw[hb] at this;cases this
  ·rw[aL _ _ _ _ hxg];exact this
 ·by_cases hxg:x=g
  ·subst hxg;exact hm.own x _ hb h0
  ·rw[aL _ _ _ _ hxg] at hx
   exact hm.own x c hx h0
 ·by_cases hxg:x=g
  ·subst hxg
   rw[bO] at hx
   cases hx;exact hB
  ·rw[aL _ _ _ _ hxg] at hx
   exact hm.blk x c hx
def uns (cs:List V):List (List V):=cs.map fun x=> [x]
theorem I7 {F:Nat→Prop} {w:World} {g:Int} {cs:List V} (h0:0≤g):cA F w g ⟨1,uns cs⟩ ↔ cA F w g ⟨cs.length,[cs]⟩:=by
 unfold cA uns
 rw[if_neg (by omega),if_neg (by omega)]
 constructor
 ·rintro⟨h1,c,t,h2,h3,h4⟩
  refine⟨h1,c,t,h2,by simpa using h3,fun k e he=> ?_⟩
  have hk:k=0:=by
   have:=(List.getElem?_eq_some_iff.1 he).1
   simpa using this
  subst hk
  cases he
  refine⟨rfl,fun j x hx=> ?_⟩
  obtain⟨-,h5⟩:=h4 j [x] (by simp[hx])
  obtain⟨h6,v,h7,h8⟩:=h5 0 x rfl
  exact⟨h6,v,by simpa using h7,h8⟩
 ·rintro⟨h1,c,t,h2,h3,h4⟩
  refine⟨h1,c,t,h2,by simpa using h3,fun k e he=> ?_⟩
  simp only[List.getElem?_map] at he
  cases hk:cs[k]? with
  | none => rw [hk] at he; cases he
  | some y =>
    rw[hk] at he;cases he
    refine⟨rfl,fun j x hx=> ?_⟩
    have hj:j=0:=by
     have:=(List.getElem?_eq_some_iff.1 hx).1
     simpa using this
    subst hj
    cases hx
    obtain⟨-,h5⟩:=h4 0 cs rfl
    obtain⟨h6,v,h7,h8⟩:=h5 k y hk
    exact⟨h6,v,by simpa using h7,h8⟩
def TS (P:Program) (o:Oper) (K:St→Prop) (σ:St):Prop:= ∀(w0:World) (M F:Nat→Prop) (a:Act) (w:World) (Q:Exit→Act→World→Prop),Sim w0 M F σ a w→o.wp P a w (Nx w0 M F K) Q
theorem Ja {ops:Array Oper} {Q:Exit→Act→World→Prop} {F0:Nat→Prop} {w0:World} {M:Nat→Prop} {K:St→Prop} {r:List Oper} (hQ: ∀σ F a w,(∀b,F0 b→F b)→Sim w0 M F σ a w→K σ→wpList P ops Q r a w) (l:List Oper):
  ∀(σ:St) (F:Nat→Prop) (a:Act) (w:World),(∀b,F0 b→F b)→Ops P (ops.toList.map (·.dst)) l K σ→Sim w0 M F σ a w→wpList P ops Q (l++r) a w:=by
 induction l with
 | nil => intro σ F a w hF h hs; exact hQ σ F a w hF hs h
 | cons o rest ih =>
   intro σ F a w hF h hs
   have next:T P o (Ops P (ops.toList.map (·.dst)) rest K) σ→o.wp P a w (wpList P ops Q (rest++r)) Q:=fun hT=>
    Oper.wp_mono (fun a' w' hn=>by
     obtain⟨σ',F',hF',hs',hK⟩:=hn
     exact ih σ' F' a' w' (fun b hb=>hF' b (hF b hb)) hK hs') (A6 hT hs)
   unfold Ops at h
   rw[List.cons_append]
   unfold wpList
   split at h
   ·rename_i hg
    rw[if_pos (by simp[Region.wanted,hg])]
    exact .inl (next h)
   ·rename_i j b hg
    split at h
    ·rename_i d hd
     rcases fR h with ⟨q,hq,h1,h2⟩| ⟨hq,h1⟩
     rotate_left
     ·rw[if_neg (by simp[Region.wanted,hg,lP hd hs hq])]
      exact ih _ F _ w hF h1 (hs.put kJ)
     have hy:=vL hd hs hq
     by_cases hqb:q=b
     ·rw[if_pos (by simp[Region.wanted,hg,hy,hqb])]
      have h1':=h1 hqb
      subst hqb
      rw[kM hq] at h1'
      exact .inl (next h1')
     ·rw[if_neg (by simp[Region.wanted,hg,hy,hqb])]
      have Q6:q= !b:=by cases q<;>cases b<;>simp_all
      have h2':=h2 Q6
      rw[←Q6,kM hq] at h2'
      exact ih _ F _ w hF h2' (hs.put kJ)
    ·exact h.elim
theorem Bh {id:Nat} {ops:Array Oper} {K:Ex→St→Prop} {σ:St} (o:Oper) (ho:ops.toList.getLast? =some o) (hg:o.guard=none) (h:OpsF P (ops.toList.map (·.dst)) ops.toList.dropLast (TS P o (K .normal)) σ):AW P (.region id ops false) K σ:=by
 intro w0 M F a w hs
 refine wp_region_list ?_
 have e:ops.toList=ops.toList.dropLast++ [o]:=by
  obtain⟨hne,hl⟩:=List.getLast?_eq_some_iff.1 ho
  rw[hl];simp
 have hgo:=Ja (P:=P) (ops:=ops) (Q:=C3 w0 M F K) (F0:=F) (w0:=w0) (M:=M) (r:= [o]) (K:=TS P o (K .normal)) (fun σ' F' a' w' hF' hs' hK=>by
  unfold wpList
  rw[if_pos (by simp[Region.wanted,hg])]
  refine .inl (Oper.wp_mono (fun a2 w2 hn=> ?_) (hK w0 M F' a' w' _ hs'))
  obtain⟨σ2,F2,h1,h2,h3⟩:=hn
  exact⟨.normal,σ2,F2,rfl,fun b hb=>h1 b (hF' b hb),h2,h3⟩) ops.toList.dropLast σ F a w (fun _ h=>h) (sB h) hs
 rw[←e] at hgo
 exact hgo
theorem yP : ∀(cs l:List V) (o:Nat),o+cs.length≤l.length→splice l o cs=l.take o++(cs++l.drop (o+cs.length))
 | [], l, o, h => by simp [splice]
 | c :: cs, l, o, h => by
   rw[splice,yP cs (l.set o c) (o+1) (by simp at h ⊢;omega)]
   simp only[List.length_cons] at h
   rw[List.take_succ_eq_append_getElem (by simp;omega),List.getElem_set_self,List.take_set_of_le (Nat.le_refl _),List.drop_set_of_lt (by omega)]
   simp[Nat.add_assoc,Nat.add_comm 1]
theorem Ba {α β:Type} [DecidableEq α] (f:α→β) (a:α) (b c:β):upd (upd f a b) a c=upd f a c:=by
 funext x
 simp only[aA]
 split<;>rfl
theorem Mem.Fx {w0:World} {M F:Nat→Prop} {bl:Int→Option Blk} {w:World} (hm:Mem w0 M F bl w) {g:Int} {cs ys:List V} (h0:0≤g) (hb:bl g=some ⟨1,uns cs⟩) (hle:ys.length≤cs.length) (gD: ∀x,x∈ys→x.one=true)
  {vs:List Value} (hvl:vs.length=ys.length) (hvr: ∀(i:Nat) (x:V),ys[i]? =some x→ ∃v,vs[i]? =some v∧Rep F w x v) (hvo: ∀v,v∈vs→v.oneCell'=true):
  ∃w',(storeCells ⟨g.toNat,0,none⟩ vs).run P w= .ok () w'∧Mem w0 M F (upd bl g (some ⟨1,uns (ys++cs.drop ys.length)⟩)) w'∧(∀k,F k→w'.heap[k]? =w.heap[k]?)∧dM w w':=by
 have m1:=hm.see hb ((I7 h0).1 (hm.blk g _ hb))
 obtain⟨w',h1,h2,h3,h4⟩:=m1.store (P:=P) (g:=g) (b:=⟨cs.length,[cs]⟩) (k:=0) (j:=0) (e:=cs) (cs:=ys) (bO _ _ _) rfl (by simpa using hle) gD hvl hvr hvo
 have hsp:splice cs 0 ys=ys++cs.drop ys.length:=by rw[yP ys cs 0 (by omega)];simp
 have hl:(ys++cs.drop ys.length).length=cs.length:=by simp;omega
 rw[Ba] at h2
 simp only[List.set_cons_zero,hsp] at h2
 have m2:=h2.see (bO _ _ _) ((I7 (cs:=ys++cs.drop ys.length) h0).2 (by rw[hl];exact h2.blk g _ (bO _ _ _)))
 rw[Ba] at m2
 exact⟨w',by simpa using h1,m2,h3,h4⟩
theorem Lv {d:Option Nat} {ty:TypeId} {pos:String} {af:Array Edge} {gd:Option (Nat×Bool)} {K:St→Prop} {σ:St} {x y:Operand} {t tx e:TypeId} {g:Int} {n:Nat} {cs ys:List V} (hx:σ.ev x= .lsl g 1 0 n) (hy:σ.ev y= .sl (uns ys))
  (h0:0≤g) (hb:σ.bl g=some ⟨1,uns cs⟩) (hcn:cs.length=n) (hle:ys.length≤n) (hys:((uns ys).all fun c=>c.length==1 && c.all V.one)=true) (he:slE P t=some e) (hz:csz P e=some 1)
  (hK:K (({ σ with bl:=upd σ.bl g (some ⟨1,uns (ys++cs.drop ys.length)⟩) } :St).put d (.int .i64 ys.length))):
  TS P ⟨d,.call { callee:= .builtin .copy,args:= #[x,y],argTypes:= #[t,tx] },ty,pos,af,gd⟩ K σ:=by
 intro w0 M F a w Q hs
 have hxr:=hs.ev x
 rw[hx] at hxr
 have hyr:=hs.ev y
 rw[hy] at hyr
 rcases E6 hxr with ⟨cQ, -⟩| ⟨hg,cap,hlc,iT,hav, -⟩
 ·omega
 have hL:=kQ hs.mem hyr (sz:=1) (Nat.le_refl _) (ys:=uns ys) (by simp only[elsV];rw[if_pos hys])
 obtain⟨xa,xc,news,hxv,hnl,hnc,hno,hnr⟩:=hL
 have hul:(uns ys).length=ys.length:=by simp[uns]
 rw[hul] at hxv hnl
 have hf:(Builtin.firstCells 1 ys.length (.slice xa ys.length xc)).run P w= .ok news.toArray w:=by
  rcases hnc with h | ⟨bb,off,rfl,jF⟩
  ·have hy0:ys= []:=by cases ys with
    | nil => rfl
    | cons => simp [uns] at h
   subst hy0
   have hn0:news= []:=List.eq_nil_of_length_eq_zero (by simpa using hnl)
   subst hn0
   cases xa<;>simp[Builtin.firstCells,loadCells,loadCellsFrom]
  ·exact run_firstCells_some w 1 ys.length ⟨bb,off,none⟩ ys.length xc news hnl (fun j u hu=>by rw[dH];exact jF j u hu)
 have gD: ∀z,z∈ys→z.one=true:=fun z hz=>by
  have:=List.all_eq_true.1 hys [z] (by simp[uns,hz])
  simpa using this
 obtain⟨w',h1,h2,h3,h4⟩:=hs.mem.Fx (P:=P) (vs:=news) h0 hb (by omega) gD (by simpa using hnl) (fun i z hz=>by
  obtain⟨-,h6⟩:=hnr i [z] (by simp[uns,hz])
  obtain⟨-,u,h7,h8⟩:=h6 0 z rfl
  exact⟨u,by simpa using h7,h8⟩) hno
 have hs':Sim w0 M F ({ σ with bl:=upd σ.bl g (some ⟨1,uns (ys++cs.drop ys.length)⟩) } :St) a w':=⟨h2,hs.size,fun t ht=>(hs.sl t ht).mono (fun _ h=>h) h3 h4,hs.defers⟩
 refine aW (v:=goInt ys.length) (w':=w') ?_ ⟨_,F,fun _ h=>h,hs'.put (.int _ _),hK⟩
 have aKH:Nat.min ys.length n=ys.length:=Nat.min_eq_left hle
 simp only[execOp,resolve,Sem.run_bind,Sem.run_pure,Result.andThen_ok,invoke,builtin,List.map_toArray,List.map_cons,List.map_nil,Builtin.copy_,List.getElem?_toArray,List.getElem?_cons_zero,List.getElem?_cons_succ,run_underlying (bN he),hav,hxv,Builtin.lenOf,aKH,run_sizeOf hz,hf]
 rw[Nat.zero_mul,h1];rfl
theorem Ed {e:TypeId} {u:V} (h:zeroC P e=some [u]): ∃i z v,P.info? e=some i∧i.zero=some z∧z.cells= #[v]∧ofCell v=u∧u.one=true:=by
 obtain⟨i,z,h1,h2,h3,h4,h5⟩:=iF h
 have hl:z.cells.toList.length=1:=by
  have:=congrArg List.length h3
  simpa using this.symm
 obtain⟨v,hv⟩:=List.length_eq_one_iff.1 hl
 rw[hv] at h3
 refine⟨i,z,v,h1,h2,?_,?_,by simpa using h4⟩
 ·rw[←Array.toArray_toList (xs:=z.cells),hv]
 ·simpa using h3.symm
theorem Jt {d:Option Nat} {ty:TypeId} {pos:String} {af:Array Edge} {gd:Option (Nat×Bool)} {K:St→Prop} {σ:St} {x:Operand} {t e:TypeId} {g:Int} {n:Nat} {cs:List V} {u:V} (hx:σ.ev x= .lsl g 1 0 n)
  (h0:0≤g) (hb:σ.bl g=some ⟨1,uns cs⟩) (hcn:cs.length=n) (he:slE P t=some e) (hz:zeroC P e=some [u])
  (hK:K (({ σ with bl:=upd σ.bl g (some ⟨1,uns (List.replicate n u)⟩) } :St).put d (.tup []))):
  TS P ⟨d,.call { callee:= .builtin .clear,args:= #[x],argTypes:= #[t] },ty,pos,af,gd⟩ K σ:=by
 intro w0 M F a w Q hs
 obtain⟨i,z,v,hi,hzz,hzc,hvu,hu1⟩:=Ed hz
 have hxr:=hs.ev x
 rw[hx] at hxr
 rcases E6 hxr with ⟨cQ, -⟩| ⟨hg,cap,hlc,iT,hav, -⟩
 ·omega
 have hru:Rep F w u v:=by rw[←hvu];exact lA F w v
 obtain⟨w',h1,h2,h3,h4⟩:=hs.mem.Fx (P:=P) (ys:=List.replicate n u) (vs:=List.replicate n v) h0 hb (by simp;omega) (fun z hz=>by rw[(List.mem_replicate.1 hz).2];exact hu1) (by simp) (fun i y hy=>by
  have hin:i<n:=by have:=(List.getElem?_eq_some_iff.1 hy).1;simpa using this
  rw[List.getElem?_replicate,if_pos hin] at hy
  cases hy
  exact⟨v,by rw[List.getElem?_replicate,if_pos hin],hru⟩) (fun y hy=>by rw[(List.mem_replicate.1 hy).2];exact hru.one hu1)
 have hd:List.replicate n u++cs.drop (List.replicate n u).length=List.replicate n u:=by simp[hcn]
 rw[hd] at h2
 have hs':Sim w0 M F ({ σ with bl:=upd σ.bl g (some ⟨1,uns (List.replicate n u)⟩) } :St) a w':=⟨h2,hs.size,fun t ht=>(hs.sl t ht).mono (fun _ h=>h) h3 h4,hs.defers⟩
 refine aW (v:= .tuple #[]) (w':=w') ?_ ⟨_,F,fun _ h=>h,hs'.put (.tup _ _ rfl (by simp)),hK⟩
 have hzl:(Builtin.zeroCells z.cells n).toList=List.replicate n v:=by
  rw[hzc]
  apply List.ext_getElem
  ·simp[Builtin.zeroCells]
  ·intro j h1 h2
   simp[Builtin.zeroCells,Nat.mod_one]
 have hzv:(zeroValue e).run P w= .ok z w:=by simp[zeroValue,typeInfo,hi,hzz]
 cases n with
 | zero =>
   have hw:w'=w:=by simpa [storeCells] using h1.symm
   subst hw
   simp only[execOp,resolve,Sem.run_bind,Sem.run_pure,Result.andThen_ok,invoke,builtin,List.map_toArray,List.map_cons,List.map_nil,Builtin.clear_,List.getElem?_toArray,List.getElem?_cons_zero,run_underlying (bN he),hav]
 | succ n =>
   simp only[execOp,resolve,Sem.run_bind,Sem.run_pure,Result.andThen_ok,invoke,builtin,List.map_toArray,List.map_cons,List.map_nil,Builtin.clear_,List.getElem?_toArray,List.getElem?_cons_zero,run_underlying (bN he),hav,hzv,hzl]
   rw[Nat.zero_mul,h1];rfl
end

structure Stg (n m : Nat) (E : Nat → Nat → Rat) (C : Nat → Rat) (rows : List Nat) (q : Nat) (fr : Nat → Bool) (t : Lp.Tab) : Prop where
 mid:Lp.Mid n m 1000 E rows (fO (n+m) fr) t
 sel:Lp.Sel n m (n+m) E C q (fO (n+m) fr)
theorem Gr {m N:Nat} {O:Nat→Int} {t:Lp.Tab} {fr:Nat→Bool} (hf:Lp.fstP (Lp.okW m (wO O) (fO N fr) t) N=none):fO N (frK m O t fr N)=Lp.Fn m (wO O) (fO N fr) t:=by
 funext c
 refine propext ?_
 unfold fO Lp.Fn frK
 constructor
 ·rintro⟨h1,h2⟩
  rw[if_pos h1,Bool.and_eq_true] at h2
  obtain⟨h3,h4⟩:=h2
  have h5: ¬ Lp.rc m (wO O) t c<0:=by simpa using h4
  have h6:=Lp.eJ.1 hf c h1
  unfold Lp.okW fO at h6
  refine⟨⟨h1,h3⟩,?_⟩
  have h7: ¬ 0<Lp.rc m (wO O) t c:=fun g=>h6 ⟨⟨h1,h3⟩,g⟩
  grind
 ·rintro⟨⟨h1,h2⟩,h3⟩
  refine⟨h1,?_⟩
  rw[if_pos h1,h2,h3]
  have: ¬ ((0:Rat)<0):=by decide
  simp[this]
theorem K0 {bl:Int→Option Blk} {K:V→(Int→Option Blk)→Prop} (n m:Nat) (E:Nat→Nat→Rat) (rows:List Nat) (g:TG) (t:Lp.Tab) (fr:Nat→Bool) (C:Nat→Rat) (q:Nat) (O:Nat→Int) (gO:Int)
  (hm:m≤17) (hn:n+m≤100) (hr:Rows m rows) (hS:Stg n m E C rows q fr t) (hw:wO O=Lp.wl C q) (hO: ∀c,(O c).natAbs≤1000) (hO0: ∀c,n≤c→O c=0)
  (hTT:TT bl g (bD n m E rows t fr)) (hgO:bl gO=some ⟨1,iv (lz (n+m) O)⟩) (hg0:0≤gO) (hgn:gO∉g.all)
  (hT: ∀b' t' fr',Stg n m E C rows (q+1) fr' t'→TT b' g (bD n m E rows t' fr')→(∀x y,bl x=some y→x∉g.all→b' x=some y)→K (.bool true) b')
  (hF: ∀b',q=0→Lp.Unb n m E (n+m) C→(∃x,Lp.hH n m E (n+m) x)→(∀x y,bl x=some y→x∉g.all→b' x=some y)→K (.bool false) b'):
  bJ Tryz.prog 205 [.loc g.T 6 0 0,.lsl gO 1 0 (n+m)] bl K:=by
 obtain⟨e,h1,h2,h3⟩:=hS.mid.ends (wO O)
 have he:=h3 e (Nat.le_refl _)
 refine tQ n m E rows g t fr O gO e hm hn hr hO (.inr hO0) h1 h2 (fun e' he'=>(h3 e' he').inv) hTT hgO hg0 hgn (fun b' hf hT2 hx=> ?_) fun b' k hf hl hT2 hx=> ?_
 ·have hR:=Lp.Dp (N':=n+m) he.inv he.low he.bas (Nat.le_add_right n m) hf
  refine hT b' _ _ ⟨?_,?_⟩ hT2 hx
  ·rw[Gr hf];exact he.next
  ·rw[Gr hf]
   refine hS.sel.next (t:=Lp.orb (Lp.nx (n+m) (n+m) rows (Lp.okW m (wO O) (fO (n+m) fr))) t e) ?_
   rw[←hw];exact hR
 ·obtain⟨k1,k2,k3⟩:=Lp.dZ.1 hf
  have hkn:k<n:=he.lt k k2.1
  obtain⟨t',ht'⟩: ∃t',Lp.orb (Lp.nx (n+m) (n+m) rows (Lp.okW m (wO O) (fO (n+m) fr))) t e=t':=⟨_,rfl⟩
  rw[ht'] at he k2 hl
  have pG:=k2.2
  rw[hw] at pG
  cases q with
  | zero => exact hF b' rfl (Lp.sZ he.inv he.low hkn hl pG) ⟨_, he.Fm.1⟩ hx
  | succ q => exact absurd hl (Lp.tN he.inv C hkn pG)
def fxs (n:Nat) (x:Nat→Rat):List (List V):=(List.range n).map fun c=> [fv (some (x c))]
@[simp] theorem Uo (n : Nat) (x : Nat → Rat) : (fxs n x).length = n := by simp [fxs]
@[simp] theorem I0 (n : Nat) (x : Nat → Rat) (i : Nat) (h : i < (fxs n x).length) : (fxs n x)[i] = [fv (some (x i))] := by simp [fxs]
theorem sD {n:Nat} {x y:Nat→Rat} (h: ∀c,c<n→x c=y c):fxs n x=fxs n y:=List.map_congr_left fun c hc=>by rw[h c (by simpa using hc)]
theorem On {n i:Nat} (x:Nat→Rat) (v:Rat) (hi:i<n):(fxs n x).set i [fv (some v)]=fxs n fun c=>if c=i then v else x c:=by
 apply List.ext_getElem
 ·simp
 ·intro j h1 h2
  rw[List.getElem_set,I0,I0]
  by_cases e:i=j
  ·rw[if_pos e,if_pos e.symm]
  ·rw[if_neg e,if_neg (Ne.symm e)]
def U3 (n:Nat) (C:Nat→Rat):Option (Option (Nat→Rat))→V
 | none => .tup [.int .i64 2, .sl [], .nilp]
 | some none => .tup [.int .i64 3, .sl [], .nilp]
 | some (some x) => .tup [.int .i64 0, .sl (fxs n x), fv (some (Lp.dot n C x))]

structure aF5 where
 q:Nat
 t:Lp.Tab
 fr:Nat→Bool
 ob:List Int
 b:Int→Option Blk
def qT (q:Nat):Nat→Int:=fun c=>if c=q then -1 else 0
theorem My (C:Nat→Rat) (q:Nat):wO (qT q)=Lp.wl C (q+1):=by
 funext c
 unfold wO qT Lp.wl
 simp only
 split<;>rfl
def fxp (n k:Nat):List (List V):=(List.range n).map fun c=>if c<k then [fv (some 0)] else [.nilp]
@[simp] theorem Tl (n k : Nat) : (fxp n k).length = n := by simp [fxp]
theorem Gu (n:Nat):List.replicate n [V.nilp]=fxp n 0:=by
 unfold fxp
 apply List.ext_getElem
 ·simp
 ·intro i h1 h2;simp
@[simp] theorem aFN (n k i : Nat) (h : i < (fxp n k).length) : (fxp n k)[i] = if i < k then [fv (some 0)] else [.nilp] := by simp [fxp]
theorem Nb {n k:Nat} (h:k<n):(fxp n k).set k [fv (some 0)]=fxp n (k+1):=by
 apply List.ext_getElem
 ·simp
 ·intro j h1 h2
  rw[List.getElem_set]
  simp only[fxp,List.getElem_map,List.getElem_range]
  by_cases e:k=j
  ·rw[if_pos e,if_pos (by omega)]
  ·rw[if_neg e]
   by_cases e2:j<k
   ·rw[if_pos e2,if_pos (by omega)]
   ·rw[if_neg e2,if_neg (by omega)]
theorem Nz (n:Nat):fxp n n=fxs n fun _=>0:=List.map_congr_left fun c hc=>by rw[if_pos (by simpa using hc)]
theorem Sp (n:Nat) (x:Nat→Rat):(fxs n x).all (fun e=>e.all V.cl)=true:=by simp[fxs,V.cl,fv]
noncomputable def xUp (N : Nat) (rows : List Nat) (t : Lp.Tab) (i : Nat) : Nat → Rat := fun c => Lp.S i fun p => if t.bs (atR rows p) = c then t.X (atR rows p) N else 0
theorem El {m N:Nat} {E:Nat→Nat→Rat} {rows:List Nat} {t:Lp.Tab} (h:Lp.TI m E t) (hr:Rows m rows) {i:Nat} (hi:i<rows.length) (c:Nat):(if c=t.bs (atR rows i) then t.X (atR rows i) N else xUp N rows t i c)=xUp N rows t (i+1) c:=by
 show _=xUp N rows t i c+(if t.bs (atR rows i)=c then t.X (atR rows i) N else 0)
 by_cases e:c=t.bs (atR rows i)
 ·rw[if_pos e,if_pos e.symm]
  have:xUp N rows t i c=0:=Lp.fV fun p hp=>by
   refine if_neg fun e2=> ?_
   have h1:=h.inj (hr.lt (dJ (show p<rows.length by omega))) (hr.lt (dJ hi)) (e2.trans e)
   have:=hr.inj (show p<rows.length by omega) hi h1
   omega
  rw[this];grind
 ·rw[if_neg e,if_neg (Ne.symm e)];grind
theorem Na {n m N:Nat} {rows:List Nat} {t:Lp.Tab} (hr:Rows m rows) (hd: ∀i,i<m→i∉rows→n≤t.bs i) {c:Nat} (hc:c<n):xUp N rows t rows.length c=Lp.xb m N t c:=by
 unfold xUp Lp.xb
 exact hr.sum (fun i=>if t.bs i=c then t.X i N else 0) fun i hi hn=>if_neg (by have:=hd i hi hn;omega)
theorem T3 {q:Rat} (h:Lp.sm (10^72) q):few 100000 q:=by
 obtain⟨h1,h2⟩:=Lp.vX h
 have h3:(10:Nat)^72<LB^24:=by decide+kernel
 exact iS (k:=24) ⟨aF.2 (Nat.lt_of_le_of_lt h1 h3),aF.2 (Nat.lt_of_le_of_lt h2 h3)⟩ (by decide)
theorem Iy (p:Pg) (n m:Nat) (h:PgN p n m):RO Tryz.prog 145 [.ptr p.v] (U3 n (wO (pC p)) (Lp.opt n m (eQ p n m) (n+m) (wO (pC p)))):=by
 have hml:=h.ml
 have hnl:=h.nl
 refine aI Tryz.func145 rfl rfl (by rw[Tryz.ntmps145];simp) fun bl=> ?_
 rw[Tryz.ntmps145,Tryz.results145]
 refine aE ?_
 simp
 refine aE ?_
 simp
 refine F9 p n m h (fun b' t h4 hp hb=> ?_) (fun b' g t h4 hp hTT hfr hb=> ?_)
 ·rw[Lp.O2 (h4.no hp)]
  simp[U3]
  refine aC ?_
  simp
  exact aN [.int .i64 2,.nils,.nilp] 1 (by simp) (by simp[frz,V.cl]) hb
 have hK:=(Lp.lL (h4.uZ hp) (show n≤n+m+1 by omega) m (Nat.le_refl _))
 obtain⟨t0,ht0⟩: ∃t0,Lp.kicks n t m=t0:=⟨_,rfl⟩
 rw[ht0] at hTT hK
 have Tx:=hK.inv
 have tE:=Bo n m t0
 have I6: ∀i,i∈Lp.bH n t0 m→t0.bs i<n:=fun i hi=>(Lp.qZ.1 hi).2
 obtain⟨rows,aB8⟩: ∃rows,Lp.bH n t0 m=rows:=⟨_,rfl⟩
 rw[aB8] at hTT Tx tE I6
 have hS0:Stg n m (eQ p n m) (wO (pC p)) rows 0 (okA n) t0:=⟨⟨Tx,I6,fun i hi=>⟨by have:=I6 i hi;omega,by unfold okA;simpa using I6 i hi⟩,fun c hc=>by simpa [okA] using hc.2⟩,Lp.Sel.start fun c hc=>⟨by omega,by simpa [okA] using hc⟩⟩
 clear hK Tx I6
 obtain⟨gT,gR,gB,gF,ids⟩:=g
 have bT:b' gT=_:=hTT.hd
 have bB:b' gB=_:=hTT.ba
 have bG:b' gR=_:=hTT.dW.top
 have bF:b' gF=_:=hTT.fre
 simp only[bD] at bT bB bG bF
 obtain⟨N,hN⟩: ∃N,n+m=N:=⟨_,rfl⟩
 rw[hN] at bT
 have aLD:=hTT.pT
 simp
 refine aE ?_
 simp
 refine aE ?_
 simp[bT]
 refine⟨by omega,by unfold maxLen;omega,fun gO hgO hbO=> ?_⟩
 refine cK ?_
 refine Bh _ rfl rfl ?_
 simp[Pg.v]
 have hcl:p.c.length=n:=h.cl
 have hiv: ∀l:List Int,iv l=uns (l.map (V.int .i64)):=fun l=>by simp[iv,uns]
 refine Lv (g:=gO) (n:=N) (e:=3) (cs:=List.replicate N (.int .i64 0)) (ys:=p.c.map (V.int .i64)) (by simp) (by simp[hiv]) hgO (by simp[uns]) (by simp) (by simp[hcl];omega) (by simp[uns]) (by simp) (by simp) ?_
 have ecp:uns (p.c.map (V.int .i64)++(List.replicate N (V.int .i64 0)).drop (p.c.map (V.int .i64)).length)=iv (lz N (pC p)):=by
  rw[hiv]
  congr 1
  apply List.ext_getElem
  ·simp[hcl];omega
  ·intro j h1 h2
   rw[List.getElem_map,uB]
   unfold pC
   by_cases e:j<n
   ·rw[List.getElem_append_left (by simp[hcl];exact e)]
    simp[List.getD_eq_getElem?_getD,hcl,e]
   ·rw[List.getElem_append_right (by simp[hcl];omega)]
    simp[List.getD_eq_getElem?_getD,hcl,e]
 rw[ecp]
 obtain⟨bC,hbC⟩: ∃bC,bC=upd b' gO (some ⟨1,iv (lz N (pC p))⟩):=⟨_,rfl⟩
 simp
 refine gV [(0,.ptr p.v),(5,.loc gT 6 0 0),(7,.lsl gO 1 0 N)] 124 bC ⟨rfl,by simp[Pg.v],by rw[hbC];exact sub_eq (by simp)⟩ ?_
 have n6: ∀x,x∈TG.all ⟨gT,gR,gB,gF,ids⟩→ ∃y,b' x=some y:=fun x hx=>by
  simp only[TG.all,List.mem_cons] at hx
  rcases hx with rfl | rfl | rfl | rfl | hx
  ·exact⟨_,bT⟩
  ·exact⟨_,bG⟩
  ·exact⟨_,bB⟩
  ·exact⟨_,bF⟩
  ·obtain⟨q,hq⟩:=List.mem_iff_getElem?.1 hx
   exact⟨_,hTT.dW.row q x hq⟩
 have hgn:gO∉TG.all ⟨gT,gR,gB,gF,ids⟩:=fun hm2=>by
  obtain⟨y,hy⟩:=n6 gO hm2
  rw[hbO] at hy;cases hy
 have bCO:bC gO=some ⟨1,iv (lz N (pC p))⟩:=by rw[hbC];simp
 have hTC:TT bC ⟨gT,gR,gB,gF,ids⟩ (bD n m (eQ p n m) rows t0 (okA n)):=hTT.gL fun x y hx hy=>by rw[hbC,aL _ _ _ _ (fun e=>hgn (by rw[←e];exact hx))];exact hy
 have sC:Sub bl bC:=fun x y hx=>by
  have:=hb x y hx
  rw[hbC,aL _ _ _ _ (fun e=>by rw[e,hbO] at this;cases this)];exact this
 have blO:bl gO=none:=by
  cases hv:bl gO with
  | none => rfl
  | some y => have := hb gO y hv; rw [hbO] at this; cases this
 clear hbC bT bB bG bF hTT n6 hbO hb
 refine cK ?_
 refine aC ?_
 simp
 have hst:=fun K'=>K0 (bl:=bC) (K:=K') n m (eQ p n m) rows ⟨gT,gR,gB,gF,ids⟩ t0 (okA n) (wO (pC p)) 0 (pC p) gO hml hnl tE hS0 rfl (fun c=>lG h.cm c) (fun c hc=>by unfold pC;rw[List.getD_eq_getElem?_getD,List.getElem?_eq_none (by omega)];rfl) hTC (by rw[hN];exact bCO) hgO hgn
 rw[hN] at hst
 refine hst _ (fun b1 t1 fr1 hS1 hT1 hx1=> ?_) (fun b1 _ hU hF hx1=> ?_)
 rotate_left
 ·obtain⟨x,hx⟩:=hF
  have eo:=Lp.H8 hU hx
  rw[←hN] at eo
  rw[eo]
  simp[U3]
  exact aN [.int .i64 3,.nils,.nilp] 1 (by simp) (by simp[frz,V.cl]) fun x y hx=>hx1 x y (sC x y hx) fun hm2=>by have:=hfr x hm2;rw[this] at hx;cases hx
 simp
 have aBP: ∀x y,bl x=some y→b1 x=some y:=fun x y hx=>hx1 x y (sC x y hx) fun hm2=>by have:=hfr x hm2;rw[this] at hx;cases hx
 have b1O:b1 gO=some ⟨1,iv (lz N (pC p))⟩:=hx1 gO _ bCO hgn
 clear hst hx1 hTC bCO sC aLD hS0 h4 hp
 refine cK ?_
 refine aC ?_
 simp[Pg.v,h.bE]
 refine aK (fun s:aF5=> [(0,.ptr p.v),(5,.loc gT 6 0 0),(7,.lsl gO 1 0 N),(41,.int .i64 n),(42,.int .i64 s.q)]) (fun s=>s.b) (fun s=>s.q≤n∧Stg n m (eQ p n m) (wO (pC p)) rows (s.q+1) s.fr s.t∧TT s.b ⟨gT,gR,gB,gF,ids⟩ (bD n m (eQ p n m) rows s.t s.fr)∧(s.b gO=some ⟨1,iv s.ob⟩∧s.ob.length=N)∧ ∀x y,bl x=some y→s.b x=some y) (fun s=>n - s.q) _ ⟨0,t1,fr1,lz N (pC p),b1⟩ ⟨Nat.zero_le _,hS1,hT1,⟨b1O,by simp⟩,aBP⟩ ⟨rfl,by simp[Pg.v,h.bE],Sub.refl _⟩ ?_
 clear hS1 hT1 b1O aBP
 rintro⟨q,t,fr,ob,b⟩ ⟨hq,hS,hT,⟨hbO,hol⟩,hbl⟩
 simp only at hq hS hT hbO hol hbl
 have wq:IntKind.i64.wrap ((q:Int)+1)=(q:Int)+1:=i64_in (by omega) (by omega)
 refine aE ?_
 simp
 refine aE ?_
 simp
 refine⟨fun hqn=> ?_,fun hqn=> ?_⟩
 ·refine cK (cD ?_)
  refine aE ?_
  simp
  refine cK ?_
  refine Bh _ rfl rfl ?_
  simp
  refine Jt (g:=gO) (n:=N) (e:=3) (u:= .int .i64 0) (cs:=ob.map (V.int .i64)) (by simp) hgO (by simp[hbO,hiv]) (by simp[hol]) (by simp) (by simp) ?_
  have e0:uns (List.replicate N (V.int .i64 0))=iv (lz N fun _=>0):=by rw[←P5];simp[uns]
  rw[e0]
  simp
  refine aC ?_
  have hqN:q<N:=by omega
  simp[hqN,Hj]
  have hle:(lz N fun c=>if c=q then(-1:Int) else 0)=lz N (qT q):=rfl
  rw[hle]
  obtain⟨b2,hb2⟩: ∃b2,b2=upd b gO (some ⟨1,iv (lz N (qT q))⟩):=⟨_,rfl⟩
  rw[←hb2]
  have b2O:b2 gO=some ⟨1,iv (lz N (qT q))⟩:=by rw[hb2];simp
  have hT2:TT b2 ⟨gT,gR,gB,gF,ids⟩ (bD n m (eQ p n m) rows t fr):=hT.gL fun x y hx hy=>by rw[hb2,aL _ _ _ _ (fun e=>hgn (by rw[←e];exact hx))];exact hy
  have b2l: ∀x y,bl x=some y→b2 x=some y:=fun x y hx=>by
   rw[hb2,aL _ _ _ _ (fun e=>by rw[e,blO] at hx;cases hx)];exact hbl x y hx
  clear hb2
  have hst:=fun K'=>K0 (bl:=b2) (K:=K') n m (eQ p n m) rows ⟨gT,gR,gB,gF,ids⟩ t fr (wO (pC p)) (q+1) (qT q) gO hml hnl tE hS (My _ q) (fun c=>by unfold qT;split<;>decide) (fun c hc=>by unfold qT;rw[if_neg (by omega)]) hT2 (by rw[hN];exact b2O) hgO hgn
  rw[hN] at hst
  refine hst _ (fun b3 t3 fr3 hS3 hT3 hx3=> ?_) (fun b3 e=>by omega)
  simp
  refine aC ?_
  simp[wq,aB]
  refine⟨⟨q+1,t3,fr3,lz N (qT q),b3⟩,⟨by simp only;omega,hS3,hT3,⟨hx3 gO _ b2O hgn,by simp⟩,fun x y hx=>hx3 x y (b2l x y hx) fun hm2=>by have:=hfr x hm2;rw[this] at hx;cases hx⟩,by simp only;omega,rfl,by simp[h.bE],Sub.refl _⟩
 ·have hqe:q=n:=by omega
  subst hqe
  have hB:Lp.qF q m (eQ p q m) N (wO (pC p)) (Lp.xb m N t):=by rw[←hN];exact hS.sel.done hS.mid.Fm.1 hS.mid.Fm.2
  have eo:=Lp.xL hB
  rw[←hN] at eo
  rw[eo]
  have hD:Lp.Den (Lp.lid 1000 m) q (Lp.xb m N t):=Lp.Fi hS.mid.inv.z (by omega)
  simp only[U3]
  have e1:fxs q (fun c=>if c<q then Lp.xb m (q+m) t c else 0)=fxs q (Lp.xb m N t):=sD fun c hc=>by rw[if_pos hc,hN]
  have e2:Lp.dot q (wO (pC p)) (fun c=>if c<q then Lp.xb m (q+m) t c else 0)=Lp.dot q (wO (pC p)) (Lp.xb m N t):=Lp.A2 fun c hc=>by rw[if_pos hc,hN]
  rw[e1,e2]
  clear hB eo e1 e2
  obtain⟨xs,hxs⟩: ∃xs,Lp.xb m N t=xs:=⟨_,rfl⟩
  have bT:b gT=_:=hT.hd
  have bB:b gB=_:=hT.ba
  have bG:b gR=_:=hT.dW.top
  have hil:=hT.dW.len
  simp only[bD] at bT bB bG hil
  rw[hN] at bT
  have hrl:=tE.len
  refine aC ?_
  simp[Pg.v,h.bE]
  refine⟨by omega,by unfold maxLen;omega,fun gx hgx hbx=> ?_⟩
  have xT: ¬ gx=gT:=fun e=>by rw[e,bT] at hbx;cases hbx
  have xR: ¬ gx=gR:=fun e=>by rw[e,bG] at hbx;cases hbx
  have xB: ¬ gx=gB:=fun e=>by rw[e,bB] at hbx;cases hbx
  have xi:gx∉ids:=fun hm2=>by
   obtain⟨j,hj⟩:=List.mem_iff_getElem?.1 hm2
   rw[hT.dW.row j gx hj] at hbx;cases hbx
  have Fe: ∀X,Sub bl (upd b gx X):=fun X x y hx=>by
   have:=hbl x y hx
   rw[aL _ _ _ _ (fun e=>by rw[e,hbx] at this;cases this)];exact this
  refine aK (fun k:Nat=> [(0,.ptr p.v),(5,.loc gT 6 0 0),(9,.lsl gx 1 0 q),(59,.int .i64 q),(60,.int .i64 k)]) (fun k=>upd b gx (some ⟨1,fxp q k⟩)) (fun k=>k≤q) (fun k=>q - k) _ 0 (Nat.zero_le _) ⟨rfl,by simp[Pg.v,h.bE],sub_eq (by rw[Gu])⟩ ?_
  intro k hk
  have wk:IntKind.i64.wrap ((k:Int)+1)=(k:Int)+1:=i64_in (by omega) (by omega)
  refine aC ?_
  simp
  refine⟨fun hkq=> ?_,fun hkq=> ?_⟩
  ·refine aD (jG 0 (by decide)) ?_
   simp[hkq]
   simp[wk,aB,show((0:Int):Rat)=0 from rfl,Nb hkq]
   refine⟨k+1,by omega,by omega,rfl,by simp[h.bE],sub_eq rfl⟩
  have hkq:k=q:=by omega
  subst hkq
  rw[Nz]
  simp[xT,Ne.symm xT,bT]
  refine aK (fun i:Nat=> [(0,.ptr p.v),(5,.loc gT 6 0 0),(9,.lsl gx 1 0 k),(71,.lsl gB 1 0 rows.length),(72,.int .i64 rows.length),(73,.int .i64 i)]) (fun i=>upd b gx (some ⟨1,fxs k (xUp N rows t i)⟩)) (fun i=>i≤rows.length) (fun i=>rows.length - i) _ 0 (Nat.zero_le _) ⟨rfl,by simp[Pg.v,h.bE],sub_eq rfl⟩ ?_
  intro i hi
  have wi:IntKind.i64.wrap ((i:Int)+1)=(i:Int)+1:=i64_in (by omega) (by omega)
  refine aE ?_
  simp
  refine aE ?_
  simp
  refine⟨fun hir=> ?_,fun hir=> ?_⟩
  ·refine cK (cD ?_)
   refine aE ?_
   simp[Ne.symm xB,bB,hir]
   obtain⟨gi,hgi,Bp,Vv,tR⟩:=hT.dW.at i (by simp only[bD];exact hir)
   simp only[bD] at tR
   have hgj: ∀h,ids[i]'h=gi:=fun h=>by rw[List.getElem?_eq_getElem h] at hgi;exact Option.some.inj hgi
   have xgi: ¬ gi=gx:=fun e=>xi (e▸Bp)
   have hbk:t.bs (atR rows i)<k:=hS.mid.low _ (dJ hir)
   have aEA:(t.bs (atR rows i):Int)<k:=by omega
   have aMA:(N:Int)<(k:Int)+m+1:=by omega
   have hdz:=Lp.pO hS.mid.inv.z
   have aM0:=Lp.Pn hS.mid.inv.z
   have aMF:=Lp.Qg hS.mid.inv.z (tE.lt (dJ hir)) (show N<k+m+1 by omega)
   have hzc:=Lp.fE hS.mid.inv.z (tE.lt (dJ hir)) (show N<k+m+1 by omega)
   obtain⟨zx,hzx⟩: ∃zx,Lp.zt m (eQ p k m) t (atR rows i) N=zx:=⟨_,rfl⟩
   obtain⟨dx,hdx⟩: ∃dx,Lp.dz m (eQ p k m) t=dx:=⟨_,rfl⟩
   rw[hdx] at hdz aM0 hzc
   simp only[hdx] at bT
   rw[hzx] at aMF hzc
   have pZ:=Lp.nL hml
   obtain⟨td,htd⟩: ∃td,(10:Nat)^66=td:=⟨_,rfl⟩
   have h24:td<LB^24:=by rw[←htd];decide+kernel
   rw[htd] at pZ
   have hln:(lim zx.natAbs).length≤300000:=Nat.le_trans (aF.2 (Nat.lt_of_le_of_lt (show zx.natAbs≤td by omega) h24)) (by decide)
   have hld:(lim dx.natAbs).length≤300000:=Nat.le_trans (aF.2 (Nat.lt_of_le_of_lt (show dx.natAbs≤td by omega) h24)) (by decide)
   have F6:=nS zx dx.natAbs (by omega) hln hld
   have hmk:mkRat zx dx.natAbs=t.X (atR rows i) N:=by
    have e1:((dx.natAbs:Nat):Rat)=(dx:Rat):=by
     rw[←Rat.intCast_natCast,Int.natAbs_of_nonneg (by omega)]
    have e2:(0:Rat)<(dx:Rat):=Rat.intCast_pos.2 hdz
    rw[Rat.mkRat_eq_div,e1,hzc]
    grind
   rw[hmk] at F6
   clear htd h24 pZ
   refine cL aQ [0,1,2,3,4,5,6,7,8,9,10,11,12,13,14,15,16,17,18,19,20,21] 1 22 (by kernel_rfl) ?_
   simp[Ne.symm xT,Ne.symm xR,bT,bG,hir,hgj,tR,xgi,hil,show N<k+m+1 by omega,aMA,hbk,aEA,hzx]
   refine aO F6 ?_
   simp[hbk,aEA]
   refine bX (i:=22) (by kernel_rfl) rfl rfl rfl ?_
   have hfv:V.ptr (rq (t.X (atR rows i) N)).c=fv (some (t.X (atR rows i) N)):=rfl
   rw[hfv]
   simp[hbk,On]
   refine Dy ?_
   simp
   refine aC ?_
   simp[wi,aB]
   refine⟨i+1,by omega,by omega,rfl,by simp[h.bE],sub_eq ?_⟩
   funext x
   simp only[aA]
   split
   ·congr 2
    exact sD fun c _=>El hS.mid.inv.z.ti tE hir c
   ·rfl
  have hie:i=rows.length:=by omega
  subst hie
  have exs:fxs k (xUp N rows t rows.length)=fxs k xs:=sD fun c hc=>by
   have:=Na (N:=N) tE (fun j hj hn=>(hS.mid.inv.dead j hj hn).1) hc
   rw[this,hxs]
  rw[exs]
  refine aD (jG 0 (by decide)) ?_
  simp[show((0:Int):Rat)=0 from rfl]
  rw[hxs] at hD
  have hCi: ∀c,c<k→(pC p c).natAbs≤1000:=fun c _=>lG h.cm c
  have Ra:=hD.sum (W:=1000) hCi (by decide)
  have h72:(k+1)*(1000*Lp.lid 1000 m)≤10^72:=Nat.le_trans (Nat.mul_le_mul (show k+1≤101 by omega) (Nat.mul_le_mul_left _ (Lp.nL hml))) (by decide+kernel)
  have h66:Lp.lid 1000 m≤10^72:=Nat.le_trans (Lp.nL hml) (by decide+kernel)
  have hfS: ∀j,j≤k→few 100000 (Lp.S j fun c=>(pC p c:Rat)*xs c):=fun j hj=>T3 (Lp.nO (Ra j hj) h72)
  have hfx: ∀c,c<k→few 100000 (xs c):=fun c hc=>T3 (Lp.nO (hD.sm hc) h66)
  have hfC: ∀c,few 100000 (pC p c:Rat):=fun c=>iS (k:=24) (fits_int (by have:=lG h.cm c;unfold pC;omega)) (by decide)
  have hfm: ∀c,c<k→few 100000 (xs c*(pC p c:Rat)):=fun c hc=>T3 (Lp.nO (Lp.Wh (Lp.nO (hD.sm hc) (Lp.nL hml)) (Lp.Wb (hCi c hc) (by decide))) (by decide+kernel))
  clear Ra h72 h66
  refine aK (fun j:Nat=> [(0,.ptr p.v),(9,.lsl gx 1 0 k),(102,.lsl gx 1 0 k),(103,.int .i64 k),(104,.int .i64 j),(13,fv (some (Lp.S j fun c=>(pC p c:Rat)*xs c)))]) (fun _=>upd b gx (some ⟨1,fxs k xs⟩)) (fun j=>j≤k) (fun j=>k - j) _ 0 (Nat.zero_le _) ⟨rfl,by simp[Lp.S],Sub.refl _⟩ ?_
  intro j hj
  have wj:IntKind.i64.wrap ((j:Int)+1)=(j:Int)+1:=i64_in (by omega) (by omega)
  refine aE ?_
  simp
  refine aE ?_
  simp
  refine⟨fun hjk=> ?_,fun hjk=> ?_⟩
  ·refine cK (cD ?_)
   refine aC ?_
   simp[hjk,Pg.v,h.c]
   refine aD (jG (pC p j) (by have:=hCi j hjk;omega)) ?_
   simp
   refine aD (r:=fv (some (xs j*(pC p j:Rat)))) (zS _ _ (hfx j hjk) (hfC j)) ?_
   simp
   have aBR:(Lp.S j fun c=>(pC p c:Rat)*xs c)+xs j*(pC p j:Rat)=Lp.S (j+1) fun c=>(pC p c:Rat)*xs c:=by rw[Lp.S];grind
   have hpl:=G7 _ _ (hfS j (by omega)) (hfm j hjk)
   rw[aBR] at hpl
   refine aD (r:=fv (some (Lp.S (j+1) fun c=>(pC p c:Rat)*xs c))) hpl ?_
   simp
   refine aC ?_
   simp[wj,aB]
   refine⟨j+1,by omega,by omega,rfl,by simp[Pg.v,h.c],Sub.refl _⟩
  ·have hje:j=k:=by omega
   subst hje
   rw[hxs]
   have hf1:frz (dropB (upd b gx (some ⟨1,fxs j xs⟩)) bl) 1 (.lsl gx 1 0 j)=some (.sl (fxs j xs)):=cM hgx (by
    cases hv:bl gx with
    | none => rfl
    | some y => have := hbl gx y hv; rw [hbx] at this; cases this) (bO _ _ _) (by simp) (Sp _ _)
   refine aN [.int .i64 0,.lsl gx 1 0 j,fv (some (Lp.dot j (wO (pC p)) xs))] 2 (by simp;rfl) ?_ (Fe _)
   simp only[retV]
   rw[A4]
   simp only[List.mapM_cons,List.mapM_nil,hf1,sO]
   simp[frz]

noncomputable def aO1 (n : Nat) (C : Nat → Rat) : Option (Option (Nat → Rat)) → V
 | none => .agg [.int .i64 2, .sl [], .bool false, .sl [], .sl []]
 | some none => .agg [.int .i64 3, .sl [], .bool false, .sl [], .sl []]
 | some (some x) => .agg (.int .i64 0 :: .sl (rqs n x) :: (rq (Lp.dot n C x)).c)
structure aNP where
 j:Nat
 gX:Int
 b:Int→Option Blk

theorem Gl (s:Str):(aH s.js).length≤s.js.length:=by
 unfold aH aS
 rw[List.length_map]
 exact Nat.le_trans (List.length_filter_le _ _) (by simp)
theorem aCD {s:Str} (h:SOk s):nR s≤12:=by have:=Gl s;have:=h.nj;unfold nR;omega
theorem Ia {s:Str} (h:SOk s):nC s≤16:=by
 have:=kE s.ms s.ms.length;have:=h.nm
 unfold nC bE;omega
theorem Z0 {l:List Int} {n:Nat} (h: ∀i,i<l.length→ -100≤lat l i∧lat l i≤100):(lat l n).natAbs≤100:=by
 by_cases hn:n<l.length
 ·have:=h n hn;omega
 ·have:lat l n=0:=by simp[lat,hn]
  rw[this];decide
theorem Hw {s:Str} {l:List Int} (h:LOk s l): ∀x,x∈right s l→x.natAbs≤100:=by
 intro x hx
 unfold right at hx
 obtain⟨j, -,hx⟩:=List.mem_flatMap.1 hx
 have h1:=Z0 (n:=(2*j).toNat) h.f
 have h2:=Z0 (n:=(2*j+1).toNat) h.f
 rcases List.mem_cons.1 hx with rfl | hx
 ·omega
 ·have:=List.mem_singleton.1 hx;subst this;omega
theorem Sg {s:Str} (h:SOk s) (i c:Nat) (hc:c<nC s):(ent s i c).natAbs≤100:=by
 obtain⟨-,h2⟩:=mY s c hc
 have h3:=L0 h (i*s.ms.length+(bV s c).1.toNat)
 unfold ent
 rw[Int.natAbs_mul]
 rcases h2 with e | e<;>rw[e]<;>simp<;>omega
theorem Vt {s:Str} (h:SOk s): ∀x,x∈aTo s (nR s*nC s)→x.natAbs≤100:=by
 intro x hx
 unfold aTo at hx
 obtain⟨t,ht,rfl⟩:=List.mem_map.1 hx
 have ht':t<nR s*nC s:=by simpa using ht
 refine Sg h _ _ (Nat.mod_lt _ ?_)
 rcases Nat.eq_zero_or_pos (nC s) with e | e
 ·rw[e] at ht';omega
 ·exact e
theorem qB {s:Str} {l:List Int} (h:LOk s l):PgN (cI s l) (nC s) (nR s):=by
 have h1:=aCD h.sok
 have h2:=Ia h.sok
 refine⟨rfl,rfl,by simp[cI],fD s l,by simp[cI],fun x hx=> ?_,fun x hx=> ?_,fun x hx=> ?_,by omega,by omega⟩
 ·have:=Vt h.sok x hx;omega
 ·have:=Hw h x hx;omega
 ·have:x=0:=by
   simp only[cI] at hx
   exact(List.mem_replicate.1 hx).2
  rw[this];decide

theorem lT (s:Str) (l:List Int) (hL:LOk s l):RO Tryz.prog 72 [.ptr s.c,.sl (iv l),.int .i64 0,.int .i64 0] (.agg (cI s l).v):=by
 have:=eH 2 (tU s l hL) (Mg _)
 rwa [Vh] at this
noncomputable def Pd (s : Str) (l : List Int) : Bool := A7 (nC s) (nR s) (eQ (cI s l) (nC s) (nR s))
noncomputable def yJ (s : Str) (l : List Int) : Bool := lOk s l && Pd s l
theorem U7 (s:Str) (l:List Int) (hL:LOk s l):RO Tryz.prog 75 [.ptr s.c,.sl (iv l)] (.bool (Pd s l)):=by
 have hpg:=qB hL
 obtain⟨p,hp⟩: ∃p,cI s l=p:=⟨_,rfl⟩
 have hF:=lT s l hL
 have hq:Pd s l=A7 (nC s) (nR s) (eQ p (nC s) (nR s)):=by rw[←hp];rfl
 rw[hp] at hpg hF
 rw[hq]
 refine aI Tryz.func75 rfl rfl (by rw[Tryz.ntmps75];simp) fun bl=> ?_
 rw[Tryz.ntmps75,Tryz.results75]
 refine aE ?_
 simp
 refine aE ?_
 simp
 refine aD hF ?_
 simp[Pg.v]
 intro g hg hbg
 refine bZ 1 5 (.ptr p.v) bl (by intro z b hz;simp only[aA] at hz ⊢;grind) (by simp[frz,dropB,hbg,V.cl,Pg.v]) ?_
 refine aC ?_
 simp
 refine F9 p (nC s) (nR s) hpg (fun b' t h4 h0 hb=> ?_) (fun b' g' t h4 h0 _ _ hb=> ?_)
 ·have hno:A7 (nC s) (nR s) (eQ p (nC s) (nR s))=false:=by
   rw[Bool.eq_false_iff];exact fun e=>h0 ((mD.has h4).2 e)
  simp
  exact aN [.bool false] 0 (by simp) (by simp[frz,hno]) hb
 ·have Ee:=(mD.has h4).1 h0
  simp
  exact aN [.bool true] 0 (by simp) (by simp[frz,Ee]) hb
theorem rQ (s:Str) (l:List Int) (hs:s.sz) (hl:l.length≤1048576):RO Tryz.prog 18 [.agg s.c,.sl (iv l)] (.bool (yJ s l)):=by
 refine aI Tryz.func18 rfl rfl (by rw[Tryz.ntmps18];simp) fun bl=> ?_
 rw[Tryz.ntmps18,Tryz.results18]
 refine aE ?_
 simp[Str.c]
 intro g hg hbg
 refine bZ 1 2 (.ptr s.c) bl (by intro z b hz;simp only[aA] at hz ⊢;grind) (by simp[frz,dropB,hbg,V.cl,Str.c]) ?_
 refine cK ?_
 refine aV [(1,.sl (iv l)),(2,.ptr s.c)] _ bl 4 (.bool (yJ s l)) ⟨rfl,by simp[Str.c],Sub.refl _⟩ rfl ?_ ?_
 ·simp[Str.c]
  refine aD (jE s l hs.js hs.ms hs.nm (by omega)) ?_
  simp
  refine⟨fun h=> ?_,fun h=> ?_⟩
  ·simp[yJ,h]
   refine aD (U7 s l (mL h)) ?_
   simp
  ·simp[yJ,h]
 simp
 refine aC ?_
 simp
 exact aM (by simp) rfl rfl

def xl (n:Nat) (x:Nat→Rat):List (Option Rat):=(List.range n).map fun c=>some (x c)
@[simp] theorem Xz (n : Nat) (x : Nat → Rat) : (xl n x).length = n := by simp [xl]
theorem Uq (n:Nat) (x:Nat→Rat):fxs n x=fvs (xl n x):=by simp[fvs,xl,fxs]
theorem Nu {n k:Nat} (x:Nat→Rat) (h:k≤n):(fxs n x).take k=fvs (xl k x):=by
 rw[←Uq]
 unfold fxs
 rw[←List.map_take,List.take_range,Nat.min_eq_left h]
theorem G9 {p:Pg} {n m:Nat} (h:PgN p n m) {x:Nat→Rat} (ho:Lp.opt n m (eQ p n m) (n+m) (wO (pC p))=some (some x)) (c:Nat):fits (x c):=by
 rcases Lp.answers (wO (pC p)) h.init with ⟨e,_⟩| ⟨e,_⟩| ⟨y,e,_,hd,h0⟩
 ·rw[ho] at e;cases e
 ·rw[ho] at e;cases e
 ·rw[ho] at e
  have e:=Option.some.inj (Option.some.inj e)
  subst e
  by_cases hc:c<n
  ·exact Cy (Lp.nO (hd.sm hc) (N6 h.ml))
  ·rw[h0 c (by omega)];exact fits_int (n:=0) (by decide)
theorem Qr {n:Nat} {x:Nat→Rat} (h: ∀c,fits (x c)):okL (xl n x):=fun y hy=>by
 obtain⟨c,_,rfl⟩:=List.mem_map.1 hy
 exact okS (h c)
def tM (s:Str) (n:Nat):Option (Option (Nat→Rat))→V
 | some (some x) => .tup [.sl (fvs (fQ s.ms (xl (nC s) x) (nC s))), .sl ((fxs n x).drop (nC s)), .bool true]
 | _ => .tup [.sl [], .sl [], .bool false]
theorem Bn (s:Str) (hm:s.ms.length≤8) (p:Pg) (n m:Nat) (h:PgN p n m) (hn:nC s≤n):RO Tryz.prog 71 [.ptr s.c,.agg p.v] (tM s n (Lp.opt n m (eQ p n m) (n+m) (wO (pC p)))):=by
 have hS:=Iy p n m h
 obtain⟨o,ho⟩: ∃o,Lp.opt n m (eQ p n m) (n+m) (wO (pC p))=o:=⟨_,rfl⟩
 have xX:=fun x (e:o=some (some x))=>G9 h (ho.trans e)
 rw[ho] at hS ⊢
 have hlen:(bE s.ms).length=nC s:=rfl
 refine aI Tryz.func71 rfl rfl (by rw[Tryz.ntmps71];simp) fun bl=> ?_
 rw[Tryz.ntmps71,Tryz.results71]
 refine aE ?_
 simp[Pg.v]
 intro g hg hbg
 refine bZ 1 3 (.ptr p.v) bl (by intro z b hz;simp only[aA] at hz ⊢;grind) (by simp[frz,dropB,hbg,V.cl,Pg.v]) ?_
 refine aE ?_
 simp[Pg.v]
 refine aD hS ?_
 rcases o with _ | _ | x
 ·simp[U3]
  refine aC ?_
  simp
  exact aN [.nils,.nils,.bool false] 1 (by simp) (by simp[frz,V.cl,tM]) (Sub.refl _)
 ·simp[U3]
  refine aC ?_
  simp
  exact aN [.nils,.nils,.bool false] 1 (by simp) (by simp[frz,V.cl,tM]) (Sub.refl _)
 ·have hF:=Oc s (xl (nC s) x) hm (Qr (xX x rfl)) (by simp[nC])
  rw[hlen] at hF
  simp[U3]
  refine cK ?_
  refine aC ?_
  simp
  refine aC ?_
  simp
  refine aD (pJ s hm) ?_
  simp[hlen]
  have hcl: ∀y,y∈fxs n x→1=y.length:=fun y hy=>by
   obtain⟨c,_,rfl⟩:=List.mem_map.1 hy
   rfl
  have hni:(nC s:Int)≤n:=by omega
  refine bQ aQ (by kernel_rfl) ?_
  simp[sliV,hni,hn,Nu x hn]
  refine⟨hcl,aO hF ?_⟩
  have htk:(fxs n x).take n=fxs n x:=List.take_of_length_le (by simp)
  simp[sliV,hni,hn,htk]
  refine⟨hcl,?_⟩
  have e:retV [.sl (fvs (fQ s.ms (xl (nC s) x) (nC s))),.sl ((fxs n x).drop (nC s)),.bool true]=tM s n (some (some x)):=rfl
  exact aN [.sl (fvs (fQ s.ms (xl (nC s) x) (nC s))),.sl ((fxs n x).drop (nC s)),.bool true] 1 (by simp) (by rw[e];simp[frz,V.cl,tM]) (Sub.refl _)
noncomputable def xW (s : Str) : Option (Option (Nat → Rat)) → List (Option Rat)
 | some (some x) => fQ s.ms (xl (nC s) x) (nC s)
 | _ => [none]
noncomputable def nH (s : Str) (l : List Int) : List (Option Rat) :=
 if lOk s l=true then xW s (Lp.opt (nC s) (nR s) (eQ (cI s l) (nC s) (nR s)) (nC s+nR s) (wO (pC (cI s l)))) else [none]
theorem Ol {s:Str} (hs:SOk s) {o:Option (Option (Nat→Rat))} (h: ∀x,o=some (some x)→ ∀c,fits (x c)):okL (xW s o)∧(xW s o).length≤24:=by
 have:=hs.nm
 rcases o with _ | _ | x
 ·exact⟨wW,by simp[xW]⟩
 ·exact⟨wW,by simp[xW]⟩
 ·exact⟨A3 s.ms (Qr (h x rfl)) _,by show(fQ _ _ _).length≤24;rw[eD];omega⟩
theorem Od {s:Str} {l:List Int} (h:lOk s l=true):sOk s=true:=by
 unfold lOk at h
 rw[Bool.and_eq_true] at h
 exact h.1
theorem Ma (s:Str) (l:List Int):okL (nH s l)∧(nH s l).length≤24:=by
 unfold nH
 by_cases h:lOk s l=true
 ·rw[if_pos h]
  exact Ol (mL h).sok fun x e=>G9 (qB (mL h)) e
 ·rw[if_neg h];exact⟨wW,by simp⟩
theorem oK (s:Str) (l:List Int) (hs:s.sz) (hl:l.length≤1048576):NW Tryz.prog 16 [.agg s.c,.sl (iv l)] (dV (stQ (nH s l)) (dF (nH s l))):=by
 obtain⟨hok,hlen⟩:=Ma s l
 refine iQ Tryz.func16 rfl rfl (by rw[Tryz.ntmps16];simp) fun bl=> ?_
 rw[Tryz.ntmps16,Tryz.results16]
 refine aE ?_
 simp[Str.c]
 intro g hg hbg
 refine bZ 1 2 (.ptr s.c) bl (by intro z b hz;simp only[aA] at hz ⊢;grind) (by simp[frz,dropB,hbg,V.cl,Str.c]) ?_
 refine aC ?_
 simp[Str.c]
 refine aD (jE s l hs.js hs.ms hs.nm (by omega)) ?_
 simp
 refine⟨fun h=> ?_,fun h=> ?_⟩
 ·have hz:nH s l= [none]:=by unfold nH;rw[if_neg (by simp[h])]
  rw[hz]
  exact eE [.nils,.bool false] [] (by simp) (uM _) (by simp) (Sub.refl _)
 have hz:nH s l=xW s (Lp.opt (nC s) (nR s) (eQ (cI s l) (nC s) (nR s)) (nC s+nR s) (wO (pC (cI s l)))):=by unfold nH;rw[if_pos h]
 have hT:=Bn s (mL h).sok.nm (cI s l) (nC s) (nR s) (qB (mL h)) (Nat.le_refl _)
 have hF:=lT s l (mL h)
 rw[hz] at hok hlen ⊢
 obtain⟨o,ho⟩: ∃o,Lp.opt (nC s) (nR s) (eQ (cI s l) (nC s) (nR s)) (nC s+nR s) (wO (pC (cI s l)))=o:=⟨_,rfl⟩
 rw[ho] at hT hok hlen ⊢
 obtain⟨p,hp⟩: ∃p,cI s l=p:=⟨_,rfl⟩
 rw[hp] at hT hF
 refine aD hF ?_
 simp
 refine aD hT ?_
 rcases o with _ | _ | x
 ·simp[tM]
  exact eE [.nils,.bool false] [] (by simp) (uM _) (by simp) (Sub.refl _)
 ·simp[tM]
  exact eE [.nils,.bool false] [] (by simp) (uM _) (by simp) (Sub.refl _)
 ·simp[tM]
  refine gG (Bq (xW s (some (some x))) hok (by omega)) fun v gs b' o f fr=> ?_
  obtain⟨w,rfl,ow,w1,w2⟩:=Ud o
  simp
  exact eE [w,.bool (dF (xW s (some (some x))))] gs (by simp) o (fun x hx=>f x hx) (fun x y hy=>dC f fr hy)
theorem oM (s:Str) (l:List Int) (hs:s.sz) (hl:l.length≤1048576):RO Tryz.prog 16 [.agg s.c,.sl (iv l)] (.tup [.sl (rv (stQ (nH s l))),.bool (dF (nH s l))]):=by
 have:=eH 3 (oK s l hs hl) (Sj _ _ 0)
 rwa [aDL] at this

def cmN (v:Int) (L:Nat) (q:Rat):Prop:= ∃a:Int,q*v=a∧a.natAbs≤L
theorem cmN.add {v:Int} {L M:Nat} {p q:Rat} (hp:cmN v L p) (hq:cmN v M q):cmN v (L+M) (p+q):=by
 obtain⟨a,h1,h2⟩:=hp
 obtain⟨b,g1,g2⟩:=hq
 refine⟨a+b,by rw[Rat.intCast_add,←h1,←g1];grind,?_⟩
 have:=Int.natAbs_add_le a b
 omega
theorem cmN.int {v:Int} {L:Nat} {q:Rat} (hq:cmN v L q) (e:Int) {M:Nat} (he:e.natAbs≤M):cmN v (M*L) (q*(e:Rat)):=by
 obtain⟨a,h1,h2⟩:=hq
 refine⟨e*a,by rw[Rat.intCast_mul,←h1];grind,?_⟩
 rw[Int.natAbs_mul]
 exact Nat.mul_le_mul he h2
theorem cmN.mono {v:Int} {L M:Nat} {q:Rat} (hq:cmN v L q) (h:L≤M):cmN v M q:=by
 obtain⟨a,h1,h2⟩:=hq
 exact⟨a,h1,by omega⟩
theorem cmN.zero (v:Int) (L:Nat):cmN v L 0:=⟨0,by rw[Rat.zero_mul];rfl,by simp⟩
theorem cmN.sum {v:Int} {L:Nat} {f:Nat→Rat} : ∀n:Nat,(∀i,i<n→cmN v L (f i))→cmN v (n*L) (Lp.S n f)
 | 0, _ => cmN.zero v _
 | n + 1, h => by
   have h1:=cmN.sum n fun i hi=>h i (by omega)
   have h2:=h n (by omega)
   rw[Lp.S]
   have:=h1.add h2
   rwa [show n*L+L=(n+1)*L by rw[Nat.add_mul,Nat.one_mul]] at this
@[irreducible] def jI : Nat := 10 ^ 150
theorem He :100000000*jI<LB^24:=by unfold jI;decide+kernel
theorem mC :iR≤jI:=by unfold iR jI;decide+kernel
theorem cmN.fits {v:Int} {q:Rat} {M:Nat} (hv:v≠0) (hl:v.natAbs≤jI) (h:cmN v (M*jI) q) (hM:M≤100000000):fits q:=by
 obtain⟨a,h1,h2⟩:=h
 have hc:=He
 have hm:M*jI≤100000000*jI:=Nat.mul_le_mul_right _ hM
 have h3:Lp.sm (100000000*jI) q:=⟨a,v,hv,h1,by omega,by omega⟩
 obtain⟨g1,g2⟩:=Lp.vX h3
 exact⟨aF.2 (by omega),aF.2 (by omega)⟩
def dv (s:Str) (x:Nat→Rat) (t k:Nat):Rat:=Lp.S t fun c=>if(bV s c).1=k then((bV s c).2:Rat)*x c else 0
theorem Nw (s:Str) (x:Nat→Rat) (t k:Nat):dv s x (t+1) k=dv s x t k+if(bV s t).1=k then((bV s t).2:Rat)*x t else 0:=rfl
theorem Gd {v:Int} {L:Nat} {q:Rat} {e:Int} (h:cmN v L q) (he:e=1∨e= -1):cmN v L ((e:Rat)*q):=by
 have:=h.int e (M:=1) (by omega)
 rwa [Nat.one_mul,Rat.mul_comm] at this
theorem Py {s:Str} {x:Nat→Rat} {v:Int} {L:Nat} (hx: ∀c,c<nC s→cmN v L (x c)) {t:Nat} (ht:t≤nC s) (k:Nat):cmN v (t*L) (dv s x t k):=cmN.sum t fun c hc=>by
 split
 ·exact Gd (hx c (by omega)) (mY s c (by omega)).2
 ·exact cmN.zero v L
theorem Aa {s:Str} (hs:SOk s) {x:Nat→Rat} {v:Int} (hv:v≠0) (hl:v.natAbs≤iR) (hx: ∀c,c<nC s→cmN v iR (x c)): ∀t,t≤nC s→ ∀k (hk:k<(fQ s.ms (xl (nC s) x) t).length),(fQ s.ms (xl (nC s) x) t)[k]=if(∃c,c<t∧(bV s c).1=(k:Int)) then some (dv s x t k) else none
 | 0, _, k, hk => by
   rw[if_neg (fun⟨c,h,_⟩=>by omega)]
   simp[fQ]
 | t + 1, ht, k, hk => by
   have ih:=Aa hs hv hl hx t (by omega)
   have hlt:=eD s.ms (xl (nC s) x) t
   have hkm:k<s.ms.length:=by rwa [eD] at hk
   obtain⟨⟨c0,c1⟩,c2⟩:=mY s t (by omega)
   have hxt:(xl (nC s) x).getD t none=some (x t):=by
    have:t<nC s:=by omega
    simp[xl,this]
   have hcA:(bE s.ms).getD t (0,0)=bV s t:=rfl
   have hst:fQ s.ms (xl (nC s) x) (t+1)=stI (fQ s.ms (xl (nC s) x) t) (bV s t) (some (x t)):=by rw[oG,hxt,hcA]
   have hvs:vsg (bV s t).2 (some (x t))=some (((bV s t).2:Rat)*x t):=by
    unfold vsg
    rcases c2 with e | e<;>rw[e]
    ·rw[if_neg (by omega)];rw[show((1:Int):Rat)=1 from rfl,Rat.one_mul]
    ·rw[if_pos (by omega)]
     show some (-(x t))=_
     rw[show((-1:Int):Rat)= -1 from rfl]
     congr 1;grind
   obtain⟨p,hp⟩: ∃p:Nat,(bV s t).1=p:=⟨(bV s t).1.toNat,by omega⟩
   have hpm:p<s.ms.length:=by omega
   have hdv:dv s x (t+1) k=dv s x t k+if(p:Int)=k then((bV s t).2:Rat)*x t else 0:=by rw[Nw,hp]
   obtain⟨NW,hNW⟩: ∃z,(if((fQ s.ms (xl (nC s) x) t).getD p none).isSome=true then op2 (· + ·) ((fQ s.ms (xl (nC s) x) t).getD p none) (some (((bV s t).2:Rat)*x t)) else some (((bV s t).2:Rat)*x t))=z:=⟨_,rfl⟩
   have aKA:fQ s.ms (xl (nC s) x) (t+1)=(fQ s.ms (xl (nC s) x) t).set p NW:=by rw[hst,stI,hp,Int.toNat_natCast,hvs,hNW]
   simp only[aKA]
   rw[List.getElem_set,hdv]
   by_cases e:p=k
   ·subst e
    rw[if_pos rfl,if_pos rfl,if_pos ⟨t,by omega,hp⟩,←hNW]
    have ihp:=ih p (by omega)
    rw[jQ _ _ _ (show p<(fQ s.ms (xl (nC s) x) t).length by omega),ihp]
    by_cases hc: ∃c,c<t∧(bV s c).1=(p:Int)
    ·rw[if_pos hc,if_pos (show(some (dv s x t p)).isSome=true from rfl)]
     have hf:fits (dv s x t p+((bV s t).2:Rat)*x t):=by
      have h1:=Py hx (t:=t) (by omega) p
      have h2:=Gd (hx t (by omega)) c2
      have hnc:=Ia hs
      refine cmN.fits (M:=17) hv (Nat.le_trans hl mC) ((h1.add h2).mono ?_) (by decide)
      have:=Nat.mul_le_mul (show t≤16 by omega) mC
      have:=mC
      omega
     show fit _=_
     unfold fit
     rw[if_pos hf]
    ·rw[if_neg hc,if_neg (show ¬ (none:Option Rat).isSome=true by simp)]
     have:dv s x t p=0:=Lp.fV fun c hc2=>if_neg fun h=>hc ⟨c,hc2,h⟩
     rw[this,Rat.zero_add]
   ·rw[if_neg e,if_neg (show ¬ (p:Int)=(k:Int) by omega),Rat.add_zero,ih k (by omega)]
    have aMY:(∃c,c<t+1∧(bV s c).1=(k:Int)) ↔ ∃c,c<t∧(bV s c).1=(k:Int):=⟨fun⟨c,h1,h2⟩=>⟨c,by
      by_cases hct:c=t
      ·subst hct;rw[hp] at h2;exact absurd (by omega) e
      ·omega,h2⟩,fun⟨c,h1,h2⟩=>⟨c,by omega,h2⟩⟩
    simp only[aMY]
theorem Uu (s:Str) {k:Nat} (hk:k<s.ms.length): ∃c,c<nC s∧(bV s c).1=(k:Int):=by
 have hne: ∃p,p∈uA (s.ms.getD k default) k:=by
  unfold uA
  by_cases h:(s.ms.getD k default).kind=2
  ·exact⟨((k:Int), -1),by rw[if_pos h,if_neg (show ¬ (s.ms.getD k default).kind=1 by omega)];exact List.mem_append_right _ (List.mem_singleton.2 rfl)⟩
  ·exact⟨((k:Int),1),by rw[if_neg h];exact List.mem_append_left _ (List.mem_singleton.2 rfl)⟩
 obtain⟨p,hp⟩:=hne
 have hp1:p.1=(k:Int):=by
  unfold uA at hp
  rcases List.mem_append.1 hp with h | h
  ·split at h
   ·cases h
   ·rw[List.mem_singleton] at h;rw[h]
  ·split at h
   ·cases h
   ·rw[List.mem_singleton] at h;rw[h]
 have hm:p∈bE s.ms:=List.mem_flatMap.2 ⟨k,by simpa using hk,hp⟩
 obtain⟨c,hc,e⟩:=List.mem_iff_getElem.1 hm
 refine⟨c,hc,?_⟩
 have:bV s c=p:=by simp[bV,hc,e]
 rw[this,hp1]
def dD (s:Str) (x:Nat→Rat) (k:Nat):Rat:=dv s x (nC s) k
theorem Ng {s:Str} (hs:SOk s) {x:Nat→Rat} {v:Int} (hv:v≠0) (hl:v.natAbs≤iR) (hx: ∀c,c<nC s→cmN v iR (x c)):xW s (some (some x))=(List.range s.ms.length).map fun k=>some (dD s x k):=by
 apply List.ext_getElem
 ·show(fQ _ _ _).length=_
  rw[eD];simp
 ·intro k h1 h2
  have hk:k<s.ms.length:=by simpa using h2
  have:=Aa hs hv hl hx (nC s) (Nat.le_refl _) k (by rw[eD];exact hk)
  rw[if_pos (Uu s hk)] at this
  simp only[List.getElem_map,List.getElem_range]
  exact this
theorem Mx {p:Pg} {n m:Nat} (h:PgN p n m) {x:Nat→Rat} (ho:Lp.opt n m (eQ p n m) (n+m) (wO (pC p))=some (some x)): ∃v:Int,v≠0∧v.natAbs≤iR∧ ∀c,c<n→cmN v iR (x c):=by
 rcases Lp.answers (wO (pC p)) h.init with ⟨e,_⟩| ⟨e,_⟩| ⟨y,e,_,⟨v,h1,h2,h3⟩,h0⟩
 ·rw[ho] at e;cases e
 ·rw[ho] at e;cases e
 ·rw[ho] at e
  have e:=Option.some.inj (Option.some.inj e)
  subst e
  have hc:=N6 h.ml
  exact⟨v,h1,Nat.le_trans h2 hc,fun c hlt=>by obtain⟨a,g1,g2⟩:=h3 c hlt;exact⟨a,g1,Nat.le_trans g2 hc⟩⟩

structure PJ (bl : Int → Option Blk) (s : Str) (l : List Int) (gp gB gc : Int) (p : PS) : Prop where
 hp:p.b gp=some ⟨5,[[.int .i64 (nR s),.int .i64 (nC s),.lsl p.g 1 0 p.n,.lsl gB 1 0 (nR s),.lsl gc 1 0 (nC s)]]⟩
 hc:p.b gc=some ⟨1,iv (List.replicate (nC s) 0)⟩
 hB:p.b gB=some ⟨1,iv (right s l)⟩
 ha:p.b p.g=some ⟨1,iv (aTo s p.n)⟩
 pp:p.g≠gp
 pc:p.g≠gc
 pB:p.g≠gB
 f:bl p.g=none
 sub:Sub bl p.b
 neg:p.g<0→aTo s p.n= []
structure R4 where
 v:V
 gs:List Int
 gc:Int
 gp:Int
 b:Int→Option Blk

def aCM (s:Str) (j sg:Int):Nat→Int:=fun c=>if(bV s c).1=j then sg*(bV s c).2 else 0
def aNQ (s:Str) (j sg:Int) (k:Nat):Nat→Int:=fun c=>if c<k then aCM s j sg c else 0
def aNK (s:Str) (l:List Int) (j sg:Int):Pg:= { cI s l with c:=lz (nC s) (aCM s j sg) }

def tkI (k:Int):Int:=if k=1 then 1 else if k=2 then -1 else 0
def aGA (s:Str):List Int:=List.replicate (2*s.js.length) 0
def rAt (s:Str) (i k:Nat):Int:=lat (lZ s) (i*s.ms.length+k)
def tbI (s:Str) (i:Nat):Nat→Int
 | 0 => 0
 | k + 1 => tbI s i k - rAt s i k * tkI (s.ms.getD k default).kind
def aKB (s:Str) (i:Nat) (p:Int×Int):Int:=if(s.ms.getD p.1.toNat default).kind=3 then 0 else p.2*rAt s i p.1.toNat
def tcL (s:Str) (i:Nat) (l:List (Int×Int)):Int:=l.foldl (fun a p=>a - aKB s i p) 0
def tB (s:Str) (i:Nat):Int:=tbI s i s.ms.length
def aNM (s:Str):Pg:= { cI s (aGA s) with b:=lz (nR s) (tB s) }

theorem Rl (p:Pg) (i:Nat):sgB p i=1∨sgB p i= -1:=by unfold sgB;split;exact .inr rfl;exact .inl rfl
theorem Jy {p:Pg} {n m:Nat} {x:Nat→Rat} :Lp.hH n m (eQ p n m) (n+m) x ↔ (∀c,c<n→0≤x c)∧ ∀i,i<m→(Lp.S n fun c=>(pA p n i c:Rat)*x c)=(pB p i:Rat):=by
 have key: ∀i,i<m→((Lp.S n fun c=>eQ p n m i c*x c)=(sgB p i:Rat)*Lp.S n fun c=>(pA p n i c:Rat)*x c)∧eQ p n m i (n+m)=(sgB p i:Rat)*(pB p i:Rat):=fun i hi=>by
  constructor
  ·rw[←Lp.fG]
   exact Lp.aR fun c hc=>by
    have:eQ p n m i c=((sgB p i*pA p n i c:Int):Rat):=by unfold eQ eZ;rw[if_pos hc]
    rw[this,Rat.intCast_mul,Rat.mul_assoc]
  ·have:eQ p n m i (n+m)=((sgB p i*pB p i:Int):Rat):=by unfold eQ eZ;rw[if_neg (by omega),if_pos rfl]
   rw[this,Rat.intCast_mul]
 have cancel: ∀i (a b:Rat),(sgB p i:Rat)*a=(sgB p i:Rat)*b ↔ a=b:=fun i a b=>by
  constructor
  ·intro h
   rcases Rl p i with e | e
   ·rw[e,show((1:Int):Rat)=1 from rfl,Rat.one_mul,Rat.one_mul] at h;exact h
   ·rw[e,show((-1:Int):Rat)= -1 from rfl] at h;grind
  ·intro h;rw[h]
 constructor
 ·rintro⟨h1,h2⟩
  refine⟨h1,fun i hi=> ?_⟩
  obtain⟨k1,k2⟩:=key i hi
  have:=h2 i hi
  rw[k1,k2] at this
  exact(cancel i _ _).1 this
 ·rintro⟨h1,h2⟩
  refine⟨h1,fun i hi=> ?_⟩
  obtain⟨k1,k2⟩:=key i hi
  show(Lp.S n fun c=>eQ p n m i c*x c)=eQ p n m i (n+m)
  rw[k1,k2,h2 i hi]
theorem Tp (s:Str) (l:List Int) {i c:Nat} (hi:i<nR s) (hc:c<nC s):pA (cI s l) (nC s) i c=ent s i c:=by
 have hlt:i*nC s+c<nR s*nC s:=by
  have:=Nat.mul_le_mul_right (nC s) (show i+1≤nR s by omega)
  rw[Nat.add_mul,Nat.one_mul] at this
  omega
 have d1:(i*nC s+c) / nC s=i:=by rw[Nat.mul_comm,Nat.mul_add_div (by omega),Nat.div_eq_of_lt hc,Nat.add_zero]
 have d2:(i*nC s+c) % nC s=c:=by rw[Nat.mul_comm,Nat.mul_add_mod,Nat.mod_eq_of_lt hc]
 show(aTo s (nR s*nC s)).getD (i*nC s+c) 0=_
 unfold aTo
 rw[List.getD_eq_getElem?_getD,List.getElem?_map,List.getElem?_range hlt]
 simp[d1,d2]
theorem Wr (s:Str) (x:Nat→Rat) (i:Nat):(Lp.S (nC s) fun c=>(ent s i c:Rat)*x c)=Lp.S s.ms.length fun k=>(rAt s i k:Rat)*dD s x k:=by
 have e1:(Lp.S s.ms.length fun k=>(rAt s i k:Rat)*dD s x k)=Lp.S s.ms.length fun k=>Lp.S (nC s) fun c=>if(bV s c).1=(k:Int) then(rAt s i k:Rat)*(((bV s c).2:Rat)*x c) else 0:=Lp.aR fun k hk=>by
  unfold dD dv
  rw[←Lp.fG]
  exact Lp.aR fun c hc=>by
   split
   ·rfl
   ·rw[Rat.mul_zero]
 rw[e1,Lp.lC]
 refine Lp.aR fun c hc=> ?_
 obtain⟨⟨c0,c1⟩,c2⟩:=mY s c hc
 obtain⟨p,hp⟩: ∃p:Nat,(bV s c).1=p:=⟨(bV s c).1.toNat,by omega⟩
 rw[Lp.cJ (k:=p) (by omega) fun k hk hne=>if_neg (by omega),if_pos hp]
 show((bV s c).2*lat (lZ s) (i*s.ms.length+(bV s c).1.toNat):Int)*x c=_
 rw[hp,Int.toNat_natCast,Rat.intCast_mul]
 unfold rAt
 grind
theorem A1 (s:Str) {t k:Nat} (ht:t<(aH s.js).length) (hk:k<s.ms.length):rAt s (2*t) k=eqX s (aH s.js)[t] (mat s k)∧rAt s (2*t+1) k=eqY s (aH s.js)[t] (mat s k):=by
 have key: ∀(l:List Int) (n:Nat) (h:n<l.length),(l.flatMap fun j=> [cZ s j,cY s j])[2*n]? =some (cZ s l[n])∧(l.flatMap fun j=> [cZ s j,cY s j])[2*n+1]? =some (cY s l[n]):=by
  intro l
  induction l with
  | nil => intro n h; simp at h
  | cons a l ih =>
    intro n h
    cases n with
    | zero=>simp
    | succ n=>
      have:=ih n (by simpa using h)
      rw[show 2*(n+1)=2*n+1+1 by omega,show 2*n+1+1+1=(2*n+1)+1+1 by omega]
      simpa using this
 obtain⟨k1,k2⟩:=key (aH s.js) t ht
 obtain⟨h1,e1⟩:=List.getElem?_eq_some_iff.1 k1
 obtain⟨h2,e2⟩:=List.getElem?_eq_some_iff.1 k2
 have g1:=qX (eC s) (jL s) (2*t) k h1 hk
 have g2:=qX (eC s) (jL s) (2*t+1) k h2 hk
 unfold rAt
 rw[pM]
 constructor
 ·rw[g1]
  show lat ((aH s.js).flatMap fun j=> [cZ s j,cY s j])[2*t] k=_
  rw[e1]
  unfold lat cZ
  rw[vZ s k hk,List.getD_eq_getElem?_getD,List.getElem?_map,List.getElem?_eq_getElem hk];rfl
 ·rw[g2]
  show lat ((aH s.js).flatMap fun j=> [cZ s j,cY s j])[2*t+1] k=_
  rw[e2]
  unfold lat cY
  rw[vZ s k hk,List.getD_eq_getElem?_getD,List.getElem?_map,List.getElem?_eq_getElem hk];rfl
structure Bal (s : Str) (l : List Int) (D : Nat → Rat) : Prop where
 x: ∀t (h:t<(aH s.js).length),(Lp.S s.ms.length fun k=>(eqX s (aH s.js)[t] (mat s k):Rat)*D k)+(lN l (2*(aH s.js)[t].toNat):Rat)=0
 y: ∀t (h:t<(aH s.js).length),(Lp.S s.ms.length fun k=>(eqY s (aH s.js)[t] (mat s k):Rat)*D k)+(lN l (2*(aH s.js)[t].toNat+1):Rat)=0
theorem Kd (s:Str) {t:Nat} (h:t<(aH s.js).length):0≤(aH s.js)[t]:=by
 obtain⟨i,e,_⟩:=Eh s.js t h
 omega
theorem G6 (s:Str) (l:List Int) {t:Nat} (h:t<(aH s.js).length):pB (cI s l) (2*t)= -lN l (2*(aH s.js)[t].toNat)∧pB (cI s l) (2*t+1)= -lN l (2*(aH s.js)[t].toNat+1):=by
 have hn:=Kd s h
 obtain⟨h1,h2⟩:=xJ s l (aH s.js) t h
 have e1:(2*(aH s.js)[t]).toNat=2*(aH s.js)[t].toNat:=by omega
 have e2:(2*(aH s.js)[t]+1).toNat=2*(aH s.js)[t].toNat+1:=by omega
 rw[e1] at h1
 rw[e2] at h2
 exact⟨h1,h2⟩
theorem Vf {s:Str} {l:List Int} {x:Nat→Rat} (h: ∀i,i<nR s→(Lp.S (nC s) fun c=>(pA (cI s l) (nC s) i c:Rat)*x c)=(pB (cI s l) i:Rat)):Bal s l (dD s x):=by
 have hr: ∀i,i<nR s→(Lp.S s.ms.length fun k=>(rAt s i k:Rat)*dD s x k)=(pB (cI s l) i:Rat):=fun i hi=>by
  rw[←Wr,←h i hi]
  exact Lp.aR fun c hc=>by rw[Tp s l hi hc]
 refine⟨fun t ht=> ?_,fun t ht=> ?_⟩
 ·have:=hr (2*t) (by unfold nR;omega)
  rw[(G6 s l ht).1,Rat.intCast_neg] at this
  have e:(Lp.S s.ms.length fun k=>(eqX s (aH s.js)[t] (mat s k):Rat)*dD s x k)=Lp.S s.ms.length fun k=>(rAt s (2*t) k:Rat)*dD s x k:=Lp.aR fun k hk=>by rw[(A1 s ht hk).1]
  rw[e,this];grind
 ·have:=hr (2*t+1) (by unfold nR;omega)
  rw[(G6 s l ht).2,Rat.intCast_neg] at this
  have e:(Lp.S s.ms.length fun k=>(eqY s (aH s.js)[t] (mat s k):Rat)*dD s x k)=Lp.S s.ms.length fun k=>(rAt s (2*t+1) k:Rat)*dD s x k:=Lp.aR fun k hk=>by rw[(A1 s ht hk).2]
  rw[e,this];grind

structure Dcm (s : Str) (D : Nat → Rat) (v : Int) (M : Nat) : Prop where
 v0:v≠0
 vl:v.natAbs≤jI
 cm: ∀k,k<s.ms.length→cmN v (M*jI) (D k)
 ml:M≤1000
def mQ (s:Str) (D:Nat→Rat):List (Option Rat):=(List.range s.ms.length).map fun k=>some (D k)
@[simp] theorem Pp (s : Str) (D : Nat → Rat) : (mQ s D).length = s.ms.length := by simp [mQ]
theorem Dcm.fits {s:Str} {D:Nat→Rat} {v:Int} {M:Nat} (h:Dcm s D v M) {k:Nat} (hk:k<s.ms.length):Vm.fits (D k):=(h.cm k hk).fits h.v0 h.vl (by have:=h.ml;omega)
theorem Dcm.ok {s:Str} {D:Nat→Rat} {v:Int} {M:Nat} (h:Dcm s D v M):okL (mQ s D):=fun y hy=>by
 obtain⟨k,hk,rfl⟩:=List.mem_map.1 hy
 exact okS (h.fits (by simpa using hk))
theorem K2 (s:Str) (D:Nat→Rat):dF (mQ s D)=true:=by simp[dF,mQ]
theorem N8 {xs:List (Option Rat)} (h:okL xs):bW (cV xs)=xs:=by
 unfold bW cV
 rw[List.map_map]
 conv=>rhs;rw[←List.map_id xs]
 exact List.map_congr_left fun x hx=>L2 (h x hx)
def Sgn (s:Str) (D:Nat→Rat):Prop:= ∀k (h:k<s.ms.length),(s.ms[k].kind=1→0≤D k)∧(s.ms[k].kind=2→D k≤0)

def PX (s:Str) (D:Nat→Rat) (i:Nat):Rat:=Lp.S s.ms.length fun k=>(eqX s i (mat s k):Rat)*D k
def PY (s:Str) (D:Nat→Rat) (i:Nat):Rat:=Lp.S s.ms.length fun k=>(eqY s i (mat s k):Rat)*D k
def WX (s:Str) (l:List Int) (D:Nat→Rat) (i:Nat):Rat:=PX s D i+(lN l (2*i):Rat)
def WY (s:Str) (l:List Int) (D:Nat→Rat) (i:Nat):Rat:=PY s D i+(lN l (2*i+1):Rat)
def gX (s:Str) (i:Nat):Rat:=((jat s.js i).x:Rat)
def gY (s:Str) (i:Nat):Rat:=((jat s.js i).y:Rat)
theorem H9 {n a b:Nat} (ha:a<n) (hb:b<n) (g:Nat→Rat) (v:Rat):(Lp.S n fun i=>g i*((if i=a then v else 0) - (if i=b then v else 0)))=(g a - g b)*v:=by
 have e:(Lp.S n fun i=>g i*((if i=a then v else 0) - (if i=b then v else 0)))=(Lp.S n fun i=>g i*(if i=a then v else 0)) - Lp.S n fun i=>g i*(if i=b then v else 0):=by
  rw[←Lp.wU]
  exact Lp.aR fun i _=>by grind
 rw[e,Lp.cJ ha (fun i _ h=>by rw[if_neg h,Rat.mul_zero]),Lp.cJ hb (fun i _ h=>by rw[if_neg h,Rat.mul_zero]),if_pos rfl,if_pos rfl]
 grind
theorem mZ {s:Str} {k:Nat} (hk:k<s.ms.length):mat s k∈s.ms:=by rw[vZ s k hk];exact List.getElem_mem _
theorem H4 (s:Str) (D:Nat→Rat) (e:Nat→Nat→Rat) (g:Nat→Rat):(Lp.S s.js.length fun i=>g i*Lp.S s.ms.length fun k=>e i k*D k)=Lp.S s.ms.length fun k=>(Lp.S s.js.length fun i=>g i*e i k)*D k:=by
 have e1:(Lp.S s.js.length fun i=>g i*Lp.S s.ms.length fun k=>e i k*D k)=Lp.S s.js.length fun i=>Lp.S s.ms.length fun k=>g i*e i k*D k:=Lp.aR fun i _=>by
  rw[←Lp.fG]
  exact Lp.aR fun k _=>by grind
 rw[e1,Lp.lC]
 exact Lp.aR fun k _=>by rw[←Lp.kY]

def Lc (s:Str) (i:Nat):Bool:=(s.js.getD i default).fixed
theorem Kb {js:List J} {i:Nat} (hi:i<js.length) (hf:(js.getD i default).fixed=false): ∃t,∃h:t<(aH js).length,(aH js)[t]=(i:Int):=by
 have hm:(i:Int)∈aH js:=by
  unfold aH aS
  exact List.mem_map.2 ⟨i,List.mem_filter.2 ⟨by simpa using hi,by simp only[hf];rfl⟩,rfl⟩
 obtain⟨t,h,e⟩:=List.mem_iff_getElem.1 hm
 exact⟨t,h,e⟩
theorem Bal.free {s:Str} {l:List Int} {D:Nat→Rat} (h:Bal s l D) {i:Nat} (hi:i<s.js.length) (hf:Lc s i=false):WX s l D i=0∧WY s l D i=0:=by
 obtain⟨t,ht,e⟩:=Kb hi hf
 have h1:=h.x t ht
 have h2:=h.y t ht
 have et:(aH s.js)[t].toNat=i:=by omega
 rw[et,e] at h1 h2
 exact⟨h1,h2⟩
def rX (s:Str) (l:List Int) (D:Nat→Rat) (n:Nat):Rat:=((sumX l s.js.length:Int):Rat)+Lp.S n fun i=>if Lc s i=true then -WX s l D i else 0
def rY (s:Str) (l:List Int) (D:Nat→Rat) (n:Nat):Rat:=((Sn l s.js.length:Int):Rat)+Lp.S n fun i=>if Lc s i=true then -WY s l D i else 0
def rM (s:Str) (l:List Int) (D:Nat→Rat) (n:Nat):Rat:=((Jg s l 0 0 s.js.length:Int):Rat)+Lp.S n fun i=>if Lc s i=true then gX s i* -WY s l D i - gY s i* -WX s l D i else 0
theorem cmN.ofInt {v:Int} (hl:v.natAbs≤jI) (n:Int) {M:Nat} (hn:n.natAbs≤M):cmN v (M*jI) (n:Rat):=⟨n*v,by rw[Rat.intCast_mul],by
 rw[Int.natAbs_mul];exact Nat.mul_le_mul hn hl⟩
theorem cmN.neg {v:Int} {L:Nat} {q:Rat} (h:cmN v L q):cmN v L (-q):=by
 obtain⟨a,h1,h2⟩:=h
 exact⟨-a,by rw[Rat.intCast_neg,←h1];grind,by omega⟩
theorem B6 {s:Str} {l:List Int} (h:LOk s l) (i:Nat):(lN l i).natAbs≤100:=Z0 h.f
theorem cmN.sub {v:Int} {L M:Nat} {p q:Rat} (hp:cmN v L p) (hq:cmN v M q):cmN v (L+M) (p - q):=by
 have:=hp.add hq.neg
 rwa [←Rat.sub_eq_add_neg] at this

theorem H5 {n:Nat} {C x:Nat→Rat} (h: ∀c,c<n→C c=0):Lp.dot n C x=0:=by
 unfold Lp.dot
 exact Lp.fV fun c hc=>by rw[h c hc,Rat.zero_mul]
theorem Hn {p:Pg} {n m:Nat} (h:PgN p n m) (hc:p.c=List.replicate n 0):
  (Lp.opt n m (eQ p n m) (n+m) (wO (pC p))=none∧A7 n m (eQ p n m)=false)∨ ∃x,Lp.opt n m (eQ p n m) (n+m) (wO (pC p))=some (some x)∧A7 n m (eQ p n m)=true:=by
 have hz: ∀c,c<n→wO (pC p) c=0:=fun c hlt=>by
  show((pC p c:Int):Rat)=0
  rw[show pC p c=0 by unfold pC;rw[hc,List.getD_eq_getElem?_getD,List.getElem?_replicate,if_pos hlt];rfl];rfl
 rcases Lp.answers (wO (pC p)) h.init with ⟨e,hn⟩| ⟨e,hu,x,hx⟩| ⟨x,e,hb,_,_⟩
 ·refine .inl ⟨e,?_⟩
  rw[Bool.eq_false_iff]
  intro hq
  obtain⟨x,hx⟩:=vY.1 hq
  exact hn x hx
 ·obtain⟨y,_,hy⟩:=hu x hx
  rw[H5 hz,H5 hz] at hy
  exact absurd hy (by decide)
 ·exact .inr ⟨x,e,vY.2 ⟨x,hb.1⟩⟩
end Go.Proofs.YticmgmemnpcbbaaGreat.Vm

namespace Go.Proofs.YticmgmemnpcbbaaGreat.Vm
open Go Go.Proofs
set_option linter.unusedSimpArgs false
set_option linter.unusedVariables false
end Go.Proofs.YticmgmemnpcbbaaGreat.Vm
