import Derived.Test.YticmgmemnpcbbaaGreatQCFnExactCanPretension7

namespace Go.Proofs.YticmgmemnpcbbaaGreat.Vm
open Go Go.RowKit Go.Proofs
set_option linter.unusedSimpArgs false
set_option linter.unusedVariables false
theorem Cc {b:Int→Option Blk} {g:Int} {els:List (List V)} {L i:Nat} (h0:0≤g) (hb:b g=some ⟨1,els⟩) (hl:els.length=L) (hi:i+1≤L):
  ∃x,(if(i:Int)+1=0 then some (V.lsl g 1 0 L) else if(i:Int)+1=(L:Int) then some (V.sl []) else some (V.lsl g 1 (i+1) (L - (i+1))))=some x∧elsV b 1 x=some (els.drop (i+1)):=by
 rw[if_neg (by omega)]
 by_cases h:i+1=L
 ·rw[if_pos (by omega)]
  refine⟨_,rfl,?_⟩
  rw[List.drop_eq_nil_of_le (by omega)]
  simp[elsV]
 ·rw[if_neg (by omega)]
  refine⟨_,rfl,?_⟩
  simp only[elsV]
  rw[if_neg (by omega),hb]
  simp only
  rw[if_pos (by simp;omega),List.take_of_length_le (by simp;omega)]
structure aH3 where
 j:Nat
 g:TG
 b:Int→Option Blk
set_option maxHeartbeats 1000000 in
theorem Kn {bl:Int→Option Blk} {K:V→(Int→Option Blk)→Prop} (n m:Nat) (E:Nat→Nat→Rat) (g:TG) (t:Lp.Tab) (fr:Nat→Bool) (hm:m≤17) (hn:n+m≤100) (hk0:Lp.zU n m (n+m+1) 1000 E 0 t) (hTT:TT bl g (bV n m E (List.range m) t fr))
  (hK: ∀b' g',g'.T=g.T→g'.F=g.F→TT b' g' (bV n m E (Lp.bH n (Lp.kicks n t m) m) (Lp.kicks n t m) fr)→(∀x,x∈g'.all→x∈g.all∨bl x=none)→(∀x y,bl x=some y→x∉g.all→b' x=some y)→K (.tup []) b'):
  cO Tryz.prog 206 [.loc g.T 6 0 0,.int .i64 n] bl K:=by
 have hkk:=Lp.kE hk0 (show n≤n+m+1 by omega)
 refine cV Tryz.func206 rfl rfl (by rw[Tryz.ntmps206];simp) ?_
 rw[Tryz.ntmps206,Tryz.results206]
 refine aC ?_
 simp
 refine aI (fun q:aH3=> [(0,.loc g.T 6 0 0),(1,.int .i64 n),(4,.int .i64 (Lp.bH n (Lp.kicks n t q.j) q.j).length)]) (fun q=>q.b) (fun q=>q.j≤m∧TT q.b q.g (bV n m E (fD n m (Lp.kicks n t q.j) q.j) (Lp.kicks n t q.j) fr)∧q.g.T=g.T∧q.g.F=g.F∧(∀x,x∈q.g.all→x∈g.all∨bl x=none)∧(∀x y,bl x=some y→x∉g.all→q.b x=some y)) (fun q=>m - q.j) _ ⟨0,g,bl⟩ ⟨Nat.zero_le _,by simp only[Lp.kicks];rw[X8];exact hTT,rfl,rfl,fun x hx=> .inl hx,fun _ _ h _=>h⟩ ⟨rfl,by simp[Lp.bH],Sub.refl _⟩ ?_
 rintro⟨j,⟨gT,gR,gB,gF,ids⟩,b⟩ ⟨hj,hTb,rfl,rfl,hal,hfb⟩
 simp only at hj hTb hal hfb
 obtain⟨tj,htj⟩: ∃tj,Lp.kicks n t j=tj:=⟨_,rfl⟩
 have hkj:=hkk j hj
 rw[htj] at hTb hkj
 have hI:=El hkj hj
 have hR:=Z4 (n:=n) tj hj
 have hlen:=Ea n m j tj
 have hrl:=hR.len
 have bT:b g.T=_:=hTb.hd
 have bB:b gB=_:=hTb.ba
 have bG:b gR=_:=hTb.fJ.top
 simp only[bV] at bT bB bG
 have nD: ∀(q:Nat),Lp.kicks n t (j+1)=Lp.kB n tj j:=fun _=>by rw[Lp.kicks,htj]
 obtain⟨i,hi⟩: ∃i,(Lp.bH n tj j).length=i:=⟨_,rfl⟩
 rw[hi] at hlen
 have wi:IntKind.i64.wrap ((i:Int)+1)=(i:Int)+1:=i64_in (by omega) (by omega)
 refine aD ?_
 simp[bT,htj,hi]
 refine⟨fun hlt=> ?_,fun hlt=> ?_⟩
 ·have hjm:j<m:=by omega
  have hat:=Jp (n:=n) (t:=tj) hjm
  rw[hi] at hat
  have hiR:i<(fD n m tj j).length:=by omega
  obtain⟨gi,hgi,zA,xJ,nG⟩:=hTb.fJ.at i (by simp only[bV];exact hiR)
  simp only[bV] at nG
  refine aR ?_
  refine aD ?_
  simp[bT,bB,hiR,hat]
  refine⟨fun hbj=> ?_,fun hbj=> ?_⟩
  ·have ek:Lp.kicks n t (j+1)=tj:=by
    rw[nD 0];unfold Lp.kB;rw[if_pos hbj]
   obtain⟨e1,e2⟩:=wL (n:=n) (t:=tj) (t':=tj) hjm (fun _ _=>rfl) hbj
   simp[wi,aB]
   refine⟨⟨j+1,⟨g.T,gR,gB,g.F,ids⟩,b⟩,⟨by simp only;omega,by simp only;rw[ek,e1];exact hTb,rfl,rfl,hal,hfb⟩,by simp only;omega,rfl,?_,Sub.refl _⟩
   simp[ek,e2,hi]
  have hnb: ¬ tj.bs j<n:=by omega
  have hzs: ∀c,c<n+m+1→_:=fun c hc=>Lp.oV hkj.z hjm hc
  refine aD ?_
  simp
  refine aC ?_
  simp
  refine aI (fun k:Nat=> [(0,.loc g.T 6 0 0),(1,.int .i64 n),(4,.int .i64 i),(5,.int .i64 k)]) (fun _=>b) (fun k=>k≤n∧ ∀c,c<k→ ¬ tj.X j c≠0) (fun k=>n - k) _ 0 ⟨Nat.zero_le _,fun c hc=>absurd hc (Nat.not_lt_zero _)⟩ ⟨rfl,by simp,Sub.refl _⟩ ?_
  rintro k ⟨hk,bO⟩
  have wk:IntKind.i64.wrap ((k:Int)+1)=(k:Int)+1:=i64_in (by omega) (by omega)
  refine aC ?_
  simp
  refine bP [(0,.loc g.T 6 0 0),(1,.int .i64 n),(4,.int .i64 i),(5,.int .i64 k)] _ b 40 (.bool (decide (k<n∧Lp.zt m E tj j k=0))) ⟨rfl,by simp,Sub.refl _⟩ rfl ?_ ?_
  ·by_cases hkn:k<n
   ·have e3:(k:Int)<(n:Int)+m+1:=by omega
    simp[hkn,bT,bG,hiR,hgi,nG,hat,show k<n+m+1 by omega,e3]
    refine aE (lF _) ?_
    simp[Int.sign_eq_zero_iff_zero]
    by_cases h0:Lp.zt m E tj j k=0<;>simp[h0]
   ·simp[hkn]
  simp
  refine⟨fun hkn h0=> ?_,fun hno=> ?_⟩
  ·simp[wk,aB]
   refine⟨k+1,⟨by omega,fun c hc=> ?_⟩,by omega,rfl,by simp,Sub.refl _⟩
   by_cases ec:c=k
   ·rw[ec];exact(hzs k (by omega)).2.1 h0
   ·have:=bO c (by omega);grind
  ·refine⟨fun hkn=> ?_,fun hkn=> ?_⟩
   ·have hx:tj.X j k≠0:=fun h0=>hno hkn ((hzs k (by omega)).2.2 h0)
    have ek:Lp.kicks n t (j+1)=Lp.piv tj j k:=by
     rw[nD 0];unfold Lp.kB;rw[if_neg hnb,Lp.dJ.2 ⟨hkn,hx,bO⟩]
    obtain⟨Y,hY,hYT⟩:=Ha hI hR hiR (show k<n+m by omega) (by rw[hat];exact hx) fr
    rw[hat] at hYT
    obtain⟨e1,e2⟩:=wL (n:=n) (t:=tj) (t':=Lp.piv tj j k) hjm (fun x hx=>(Lp.cI tj k (show x≠j by omega)).symm) (by rw[Lp.dD];exact hkn)
    refine M4 ⟨g.T,gR,gB,g.F,ids⟩ (bV n m E (fD n m tj j) tj fr) i k Y hTb (Ce hI hm hn hR) hiR (show k<n+m by omega) hY fun b' hT' hf'=> ?_
    simp[wi,aB]
    refine⟨⟨j+1,⟨g.T,gR,gB,g.F,ids⟩,b'⟩,⟨by simp only;omega,by simp only;rw[ek,e1];exact hYT b' _ hT',rfl,rfl,hal,fun x y hx hn=> ?_⟩,by simp only;omega,rfl,?_,Sub.refl _⟩
    ·have h1:=hfb x y hx hn
     refine hf' x y h1 fun hm2=> ?_
     rcases hal x hm2 with h2 | h2
     ·exact hn h2
     ·rw[h2] at hx;cases hx
    ·simp[ek,e2,hi]
   ·have ek:Lp.kicks n t (j+1)=tj:=by
     rw[nD 0];unfold Lp.kB;rw[if_neg hnb,Lp.fG.2 fun c hc=>bO c (by omega)]
    obtain⟨e1,e2⟩:=V3 (n:=n) (t:=tj) hjm hnb
    rw[hi] at e1
    have nds:=hTb.nd
    simp only[List.nodup_cons,List.mem_cons,not_or] at nds
    obtain⟨⟨nTR,nTB,nTF,nTi⟩,⟨nRB,nRF,nRi⟩,⟨nBF,nBi⟩,nFi,Nn⟩:=nds
    have hil:=hTb.fJ.len
    simp only[bV] at hil
    generalize hL:(fD n m tj j).length=L at *
    refine cQ aN (rem b gR) (dF b gR) [0,1,2,3,4,5,6,7,8,9,10,11,12,13] 4 17 (by kernel_rfl) ?_
    have q1:i≤L:=by omega
    have q2:i+1≤L:=by omega
    have q3:(i:Int)≤L:=by omega
    have q4:(i:Int)+1≤L:=by omega
    have q5:0≤(i:Int)+1:=by omega
    have q6:((i:Int)+1).toNat=i+1:=by omega
    have aH1:0≤gR:=by
     rcases Int.lt_or_le gR 0 with h9 | h9
     ·have:=hTb.pR h9;simp only[bV] at this;omega
     ·exact h9
    obtain⟨x1,hx1,hx2⟩:=Cc (b:=b) (g:=gR) (els:=ids.map fun g=> [V.lsl g 2 0 (n+m+1)]) (L:=L) (i:=i) aH1 bG (by simp[hil]) q2
    simp[nTR,bT,wi,sliV,q1,q2,q3,q4,q5,q6,aH1,hx1]
    refine Dq 14 false ?_
    simp[appV,hx2,bG,hil]
    rw[if_pos q1,←List.map_take,←List.map_drop,←List.map_append]
    have hcl:(ids.take i++ids.drop (i+1)).length=L - 1:=by simp;omega
    generalize Q7:ids.take i++ids.drop (i+1)=nids at hcl
    simp[hcl]
    refine⟨by omega,fun gN hgN hbN=> ?_⟩
    have fW: ∀X,Sub (rem b gR) (upd (rem b gR) gN X):=fun X z y hz=>by
     rw[aF] at hz
     rw[aA,aF]
     grind
    have nNT: ¬ gN=g.T:=fun e=>by have:=hbN (by rw[e];exact nTR);rw[e,bT] at this;cases this
    have nNB: ¬ gN=gB:=fun e=>by have:=hbN (by rw[e];exact Ne.symm nRB);rw[e,bB] at this;cases this
    have bF:b g.F=_:=hTb.fre
    have nNF: ¬ gN=g.F:=fun e=>by have:=hbN (by rw[e];exact Ne.symm nRF);rw[e,bF] at this;cases this
    have nNi:gN∉ids:=fun hm2=>by
     obtain⟨q,hq⟩:=List.mem_iff_getElem?.1 hm2
     have:=hbN fun e=>nRi (e▸hm2)
     rw[hTb.fJ.row q gN hq] at this;cases this
    refine⟨fW _,Dq 15 false ?_⟩
    simp
    refine⟨fW _,Dq 16 false ?_⟩
    simp
    refine⟨fW _,Dq 17 true ?_⟩
    simp[Ne.symm nNT,nTR,bT]
    refine Dd ?_
    obtain⟨b1,hb1⟩: ∃b1,b1=upd (upd (rem b gR) gN (some ⟨1,nids.map fun g=> [.lsl g 2 0 (n+m+1)]⟩)) g.T (some ⟨6,[[.lsl gN 1 0 (L - 1),.bool (decide (Lp.dz m E tj<0)),.sl (iv (lim (Lp.dz m E tj).natAbs)),.lsl gB 1 0 L,.int .i64 (n+m:Nat),.lsl g.F 1 0 (n+m)]]⟩):=⟨_,rfl⟩
    have c1T:b1 g.T=some ⟨6,[[.lsl gN 1 0 (L - 1),.bool (decide (Lp.dz m E tj<0)),.sl (iv (lim (Lp.dz m E tj).natAbs)),.lsl gB 1 0 L,.int .i64 (n+m:Nat),.lsl g.F 1 0 (n+m)]]⟩:=by rw[hb1];simp
    have c1N:b1 gN=some ⟨1,nids.map fun g=> [.lsl g 2 0 (n+m+1)]⟩:=by rw[hb1];simp[nNT]
    have c1: ∀x,x≠g.T→x≠gN→x≠gR→b1 x=b x:=fun x x1 x2 x3=>by rw[hb1,aG _ _ _ _ x1,aG _ _ _ _ x2,aF,if_neg x3]
    have c1B:b1 gB=b gB:=c1 gB (Ne.symm nTB) (Ne.symm nNB) (Ne.symm nRB)
    rw[bB] at c1B
    refine dI [(0,.loc g.T 6 0 0),(1,.int .i64 n),(4,.int .i64 i),(5,.int .i64 k)] 86 b1 ⟨rfl,by simp,by rw[hb1];exact sub_eq rfl⟩ ?_
    clear hb1
    have aEO:0≤gB:=by
     rcases Int.lt_or_le gB 0 with h9 | h9
     ·have:=hTb.pB h9;simp only[bV] at this;omega
     ·exact h9
    obtain⟨bas,Wp⟩: ∃x,iv (lb L fun p=>tj.bs (atR (fD n m tj j) p))=x:=⟨_,rfl⟩
    have hbl:bas.length=L:=by rw[←Wp];simp
    rw[Wp] at c1B
    refine cQ aN (rem b1 gB) (dF b1 gB) [0,1,2,3,4,5,6,7,8,9,10,11,12,13] 4 17 (by kernel_rfl) ?_
    obtain⟨x2,hx3,hx4⟩:=Cc (b:=b1) (g:=gB) (els:=bas) (L:=L) (i:=i) aEO c1B hbl q2
    simp[nTB,c1T,wi,sliV,q1,q2,q3,q4,q5,q6,aEO,hx3]
    refine Dq 14 false ?_
    simp[appV,hx4,c1B,hbl]
    rw[if_pos q1]
    have Us:(bas.take i++bas.drop (i+1)).length=L - 1:=by simp;omega
    generalize hnb2:bas.take i++bas.drop (i+1)=nbas at Us
    simp[Us]
    refine⟨by omega,fun gM hgM hbM=> ?_⟩
    have kI: ∀X,Sub (rem b1 gB) (upd (rem b1 gB) gM X):=fun X z y hz=>by
     rw[aF] at hz
     rw[aA,aF]
     grind
    have mMT: ¬ gM=g.T:=fun e=>by have:=hbM (by rw[e];exact nTB);rw[e,c1T] at this;cases this
    have mMN: ¬ gM=gN:=fun e=>by have:=hbM (by rw[e];exact nNB);rw[e,c1N] at this;cases this
    have c1F:b1 g.F=b g.F:=c1 g.F (Ne.symm nTF) (Ne.symm nNF) (Ne.symm nRF)
    have mMF: ¬ gM=g.F:=fun e=>by have:=hbM (by rw[e];exact Ne.symm nBF);rw[e,c1F,bF] at this;cases this
    have c1i: ∀x,x∈ids→b1 x=b x:=fun x hx=>c1 x (fun e=>nTi (e▸hx)) (fun e=>nNi (e▸hx)) (fun e=>nRi (e▸hx))
    have mMi:gM∉ids:=fun hm2=>by
     obtain⟨q,hq⟩:=List.mem_iff_getElem?.1 hm2
     have:=hbM fun e=>nBi (e▸hm2)
     rw[c1i gM hm2,hTb.fJ.row q gM hq] at this;cases this
    refine⟨kI _,Dq 15 false ?_⟩
    simp
    refine⟨kI _,Dq 16 false ?_⟩
    simp
    refine⟨kI _,Dq 17 true ?_⟩
    simp[Ne.symm mMT,nTB,c1T]
    refine Dd ?_
    simp[aB]
    obtain⟨b2,hb2⟩: ∃b2,b2=(upd (upd (rem b1 gB) gM (some ⟨1,nbas⟩)) g.T (some ⟨6,[[.lsl gN 1 0 (L - 1),.bool (decide (Lp.dz m E tj<0)),.sl (iv (lim (Lp.dz m E tj).natAbs)),.lsl gM 1 0 (L - 1),.int .i64 (n+m:Nat),.lsl g.F 1 0 (n+m)]]⟩)):=⟨_,rfl⟩
    have hbF:b2 g.F=b g.F:=by rw[hb2];simp[Ne.symm nTF,Ne.symm mMF,Ne.symm nBF,c1F]
    have aN8:b2 gN=some ⟨1,nids.map fun g=> [.lsl g 2 0 (n+m+1)]⟩:=by rw[hb2];simp[nNT,Ne.symm mMN,nNB,c1N]
    have aMA:b2 gM=some ⟨1,nbas⟩:=by rw[hb2];simp[mMT]
    have aN9:b2 g.T=some ⟨6,[[.lsl gN 1 0 (L - 1),.bool (decide (Lp.dz m E tj<0)),.sl (iv (lim (Lp.dz m E tj).natAbs)),.lsl gM 1 0 (L - 1),.int .i64 (n+m:Nat),.lsl g.F 1 0 (n+m)]]⟩:=by rw[hb2];simp
    have aLU: ∀x,x∈ids→b2 x=b x:=fun x hx=>by
     have x1:x≠g.T:=fun e=>nTi (e▸hx)
     have x2:x≠gM:=fun e=>mMi (e▸hx)
     have x3:x≠gB:=fun e=>nBi (e▸hx)
     rw[hb2,aG _ _ _ _ x1,aG _ _ _ _ x2,aF,if_neg x3];exact c1i x hx
    have aLJ: ∀x,x≠g.T→x≠gM→x≠gB→b2 x=b1 x:=fun x x1 x2 x3=>by rw[hb2,aG _ _ _ _ x1,aG _ _ _ _ x2,aF,if_neg x3]
    have aE8:=hTb.cut (b':=b2) (i:=i) (by rw[hL];exact q2) gN gM (by rw[aN8,Q7]) (by rw[aMA];simp only[hL,Wp,hnb2]) (by rw[aN9,hL]) hbF aLU
     (fun h9=>by rcases hgN with h8 | h8;omega;rw[hL,←hcl,h8];rfl) (fun h9=>by rcases hgM with h8 | h8;omega;rw[hL,←Us,h8];rfl)
     (by simp only[List.nodup_cons,List.mem_cons,not_or];exact⟨⟨Ne.symm nNT,Ne.symm mMT,nTF,nTi⟩,⟨Ne.symm mMN,nNF,nNi⟩,⟨mMF,mMi⟩,nFi,Nn⟩)
    rw[←e1] at aE8
    refine⟨⟨j+1,⟨g.T,gN,gM,g.F,ids.take i++ids.drop (i+1)⟩,b2⟩,⟨by simp only;omega,by simp only;rw[ek];exact aE8,rfl,rfl,fun x hx=> ?_,fun x y hx hn=> ?_⟩,by simp only;omega,rfl,by simp[ek,e2,hi],by rw[hb2];exact sub_eq rfl⟩
    ·have hT2:=hal g.T (by simp[TG.all])
     have hF2:=hal g.F (by simp[TG.all])
     have aMG:bl gN=none∨gN∈g.all:=by
      by_cases e:gN=gR
      ·rcases hal gR (by simp[TG.all]) with h9 | h9
       ·exact .inr (e▸h9)
       ·exact .inl (e▸h9)
      ·cases hv:bl gN with
       | none => exact .inl rfl
       | some y =>
         by_cases wE:gN∈g.all
         ·exact .inr wE
         ·have:=hfb gN y hv wE
          rw[hbN e] at this;cases this
     have aNN:bl gM=none∨gM∈g.all:=by
      by_cases e:gM=gB
      ·rcases hal gB (by simp[TG.all]) with h9 | h9
       ·exact .inr (e▸h9)
       ·exact .inl (e▸h9)
      ·by_cases e3:gM=gR
       ·rcases hal gR (by simp[TG.all]) with h9 | h9
        ·exact .inr (e3▸h9)
        ·exact .inl (e3▸h9)
       ·cases hv:bl gM with
        | none => exact .inl rfl
        | some y =>
          by_cases wE:gM∈g.all
          ·exact .inr wE
          ·have h8:=hfb gM y hv wE
           have h7:=hbM e
           rw[c1 gM mMT mMN e3,h8] at h7;cases h7
     simp only[TG.all,List.mem_cons] at hx
     rcases hx with rfl | rfl | rfl | rfl | hx
     ·exact hT2
     ·exact aMG.symm
     ·exact aNN.symm
     ·exact hF2
     ·exact hal x (by
       simp only[TG.all,List.mem_cons]
       refine .inr (.inr (.inr (.inr ?_)))
       rcases List.mem_append.1 hx with hx | hx
       ·exact List.mem_of_mem_take hx
       ·exact List.mem_of_mem_drop hx)
    ·have h9:=hfb x y hx hn
     have hne: ∀z,z∈TG.all ⟨g.T,gR,gB,g.F,ids⟩→x≠z:=fun z hz e=>by
      rcases hal z hz with h8 | h8
      ·exact hn (e▸h8)
      ·rw[e,h8] at hx;cases hx
     have xT:=hne g.T (by simp[TG.all])
     have xR:=hne gR (by simp[TG.all])
     have xB:=hne gB (by simp[TG.all])
     have xN:x≠gN:=fun e=>by
      have:=hbN fun e2=>xR (e.trans e2)
      rw[←e,h9] at this;cases this
     have xM:x≠gM:=fun e=>by
      have:=hbM fun e2=>xB (e.trans e2)
      rw[←e,c1 x xT xN xR,h9] at this;cases this
     simp only
     rw[aLJ x xT xM xB,c1 x xT xN xR]
     exact h9
 ·have hjm:j=m:=by omega
  subst hjm
  rw[Dg] at hTb
  rw[htj] at hK
  rw[jK]
  exact⟨[],by simp,hK b ⟨g.T,gR,gB,g.F,ids⟩ rfl rfl hTb hal hfb⟩

structure PgN (p : Pg) (n m : Nat) : Prop where
 rows:p.rows=m
 aY:p.aY=n
 al:p.a.length=m*n
 bl:p.b.length=m
 cl:p.c.length=n
 am: ∀x,x∈p.a→x.natAbs≤1000
 bm: ∀x,x∈p.b→x.natAbs≤1000
 cm: ∀x,x∈p.c→x.natAbs≤1000
 ml:m≤17
 nl:n+m≤100
def pA (p:Pg) (n i j:Nat):Int:=p.a.getD (i*n+j) 0
def pB (p:Pg) (i:Nat):Int:=p.b.getD i 0
def pC (p:Pg) (j:Nat):Int:=p.c.getD j 0
theorem kZ {l:List Int} (h: ∀x,x∈l→x.natAbs≤1000) (i:Nat):(l.getD i 0).natAbs≤1000:=by
 rw[List.getD_eq_getElem?_getD]
 cases hx:l[i]? with
 | none => simp
 | some x => exact h x (List.mem_of_getElem? hx)
theorem vI (l:List Int):l=lz l.length fun i=>l.getD i 0:=by
 apply List.ext_getElem
 ·simp
 ·intro i h1 h2
  simp[lz,List.getD_eq_getElem?_getD,h1]
theorem PgN.b {p:Pg} {n m:Nat} (h:PgN p n m):p.b=lz m (pB p):=by rw[←h.bl];exact vI p.b
theorem PgN.c {p:Pg} {n m:Nat} (h:PgN p n m):p.c=lz n (pC p):=by rw[←h.cl];exact vI p.c
theorem PgN.row {p:Pg} {n m i:Nat} (h:PgN p n m) (hi:i<m):((iv p.a).take (i*n+n)).drop (i*n)=iv (lz n (pA p n i)):=by
 have hl:i*n+n≤p.a.length:=by
  rw[h.al]
  have:=Nat.mul_le_mul_right n (show i+1≤m by omega)
  rwa [Nat.add_mul,Nat.one_mul] at this
 apply List.ext_getElem
 ·simp;omega
 ·intro j h1 h2
  have hj:j<n:=by simpa using h2
  simp only[List.getElem_drop,List.getElem_take,mO,I4,pA]
  rw[List.getD_eq_getElem?_getD,List.getElem?_eq_getElem (by omega)]
  rfl
theorem Sn (p:Pg) (n m i:Nat) (h:PgN p n m) (hi:i<m):RO Tryz.prog 204 [.ptr p.v,.int .i64 i] (.sl (iv (lz n (pA p n i)))):=by
 have hr:=h.row hi
 have hml:=h.ml
 have hnl:=h.nl
 have hal:=h.al
 have hin:i*n≤17*100:=Nat.mul_le_mul (by omega) (by omega)
 have hmn:i*n+n≤m*n:=by
  have:=Nat.mul_le_mul_right n (show i+1≤m by omega)
  rwa [Nat.add_mul,Nat.one_mul] at this
 have e1:(i:Int)*(n:Int)=((i*n:Nat):Int):=(Int.natCast_mul i n).symm
 have e2:((i:Int)+1)*(n:Int)=((i*n+n:Nat):Int):=by rw[Int.add_mul,Int.one_mul,e1];omega
 have w0:IntKind.i64.wrap ((i:Int)+1)=(i:Int)+1:=i64_in (by omega) (by omega)
 have w1:IntKind.i64.wrap ((i:Int)*(n:Int))=(i:Int)*n:=by rw[e1];exact i64_in (by omega) (by omega)
 have w2:IntKind.i64.wrap (((i:Int)+1)*(n:Int))=(i:Int)*n+n:=by rw[e2,i64_in (by omega) (by omega)];simp
 have hc:=h.aY
 have k1:(0:Int)≤(i:Int)*n:=by rw[e1];omega
 have k2:(i:Int)*n≤(i:Int)*n+n:=by omega
 have k3:(i:Int)*n+n≤(p.a.length:Int):=by rw[hal,e1];omega
 have k4:((i:Int)*n).toNat=i*n:=by rw[e1];omega
 have k5:((i:Int)*n+n).toNat=i*n+n:=by rw[e1];omega
 refine aJ Tryz.func204 rfl rfl (by rw[Tryz.ntmps204];simp) fun bl=> ?_
 rw[Tryz.ntmps204,Tryz.results204]
 refine aC ?_
 simp
 refine cN aN (by kernel_rfl) ?_
 simp[Pg.v,hc,w0,w1,w2,k1,k2,k3,sliV,k4,k5,hr]
 refine⟨fun x hx=>(E6 _ x hx).symm,?_⟩
 exact aK [.sl (iv (lz n (pA p n i)))] 0 (by simp) (by simp[frz,V.cl]) (Sub.refl _)
def sgB (p:Pg) (i:Nat):Int:=if pB p i<0 then -1 else 1
def eZ (p:Pg) (n m i c:Nat):Int:=if c<n then sgB p i*pA p n i c else if c=n+m then sgB p i*pB p i else if c=n+i then 1 else 0
def eQ (p:Pg) (n m:Nat):Nat→Nat→Rat:=fun i c=>(eZ p n m i c:Rat)
theorem Jy {p:Pg} {n m:Nat} (h:PgN p n m) (i c:Nat):(eZ p n m i c).natAbs≤1000:=by
 have hs:(sgB p i).natAbs=1:=by unfold sgB;split<;>rfl
 unfold eZ
 split
 ·rw[Int.natAbs_mul,hs,Nat.one_mul];exact kZ h.am _
 ·split
  ·rw[Int.natAbs_mul,hs,Nat.one_mul];exact kZ h.bm _
  ·split<;>decide
theorem PgN.init {p:Pg} {n m:Nat} (h:PgN p n m):Lp.Init n m 1000 (eQ p n m):=by
 refine⟨⟨fun i c _ _=>⟨_,rfl⟩,fun i c _ _=> ?_⟩,fun i j hi hj=> ?_,fun i hi=> ?_⟩
 ·have:=Jy h i c
  constructor
  ·rw[show -((1000:Nat):Rat)=((-1000:Int):Rat) from rfl]
   exact Rat.intCast_le_intCast.2 (by omega)
  ·rw[show((1000:Nat):Rat)=((1000:Int):Rat) from rfl]
   exact Rat.intCast_le_intCast.2 (by omega)
 ·unfold eQ eZ
  rw[if_neg (by omega),if_neg (by omega)]
  by_cases e:i=j
  ·rw[if_pos (by omega),if_pos e];rfl
  ·rw[if_neg (by omega),if_neg e];rfl
 ·have:0≤eZ p n m i (n+m):=by
   unfold eZ sgB
   rw[if_neg (by omega),if_pos rfl]
   split
   ·omega
   ·omega
  exact Rat.intCast_le_intCast.2 this
theorem aID {p:Pg} {n m:Nat} (h:PgN p n m):Lp.vol m (eQ p n m) (Lp.jO n (eQ p n m))=1:=by
 show Lp.det m (fun j i=>eQ p n m i (n+j))=1
 exact Lp.X4 m _ fun j i hj hi=>by
  rw[h.init.art i j hi hj]
  by_cases e:j=i
  ·rw[if_pos e,if_pos e.symm]
  ·rw[if_neg e,if_neg (Ne.symm e)]
theorem Rl :Lp.jJ 1=1:=by unfold Lp.jJ;decide
theorem dz0 {p:Pg} {n m:Nat} (h:PgN p n m):Lp.dz m (eQ p n m) (Lp.jO n (eQ p n m))=1:=by
 unfold Lp.dz;rw[aID h,Rl];rfl
theorem zt0 {p:Pg} {n m:Nat} (h:PgN p n m) (i c:Nat):Lp.zt m (eQ p n m) (Lp.jO n (eQ p n m)) i c=eZ p n m i c:=by
 unfold Lp.zt
 rw[aID h,Rl,Rat.mul_one]
 show(eQ p n m i c).num=_
 unfold eQ
 simp

theorem Kq (s:Str):(aO s.js).length≤s.js.length:=by
 unfold aO bN
 rw[List.length_map]
 exact Nat.le_trans (List.length_filter_le _ _) (by simp)
theorem Hp {s:Str} (h:SOk s):nR s≤12:=by have:=Kq s;have:=h.nj;unfold nR;omega
theorem Re {s:Str} (h:SOk s):nC s≤16:=by
 have:=jU s.ms s.ms.length;have:=h.nm
 unfold nC aY;omega
theorem Gk {l:List Int} {n:Nat} (h: ∀i,i<l.length→ -100≤lat l i∧lat l i≤100):(lat l n).natAbs≤100:=by
 by_cases hn:n<l.length
 ·have:=h n hn;omega
 ·have:lat l n=0:=by simp[lat,hn]
  rw[this];decide
theorem Jv {s:Str} {l:List Int} (h:LOk s l): ∀x,x∈right s l→x.natAbs≤100:=by
 intro x hx
 unfold right at hx
 obtain⟨j, -,hx⟩:=List.mem_flatMap.1 hx
 have h1:=Gk (n:=(2*j).toNat) h.f
 have h2:=Gk (n:=(2*j+1).toNat) h.f
 rcases List.mem_cons.1 hx with rfl | hx
 ·omega
 ·have:=List.mem_singleton.1 hx;subst this;omega
theorem Vp {s:Str} (h:SOk s) (i c:Nat) (hc:c<nC s):(ent s i c).natAbs≤100:=by
 obtain⟨-,h2⟩:=nX s c hc
 have h3:=rG h (i*s.ms.length+(eK s c).1.toNat)
 unfold ent
 rw[Int.natAbs_mul]
 rcases h2 with e | e<;>rw[e]<;>simp<;>omega
theorem Sw {s:Str} (h:SOk s): ∀x,x∈aTo s (nR s*nC s)→x.natAbs≤100:=by
 intro x hx
 unfold aTo at hx
 obtain⟨t,ht,rfl⟩:=List.mem_map.1 hx
 have ht':t<nR s*nC s:=by simpa using ht
 refine Vp h _ _ (Nat.mod_lt _ ?_)
 rcases Nat.eq_zero_or_pos (nC s) with e | e
 ·rw[e] at ht';omega
 ·exact e
theorem Jz {s:Str} {l:List Int} (h:LOk s l):PgN (cK s l) (nC s) (nR s):=by
 have h1:=Hp h.sok
 have h2:=Re h.sok
 refine⟨rfl,rfl,by simp[cK],dH s l,by simp[cK],fun x hx=> ?_,fun x hx=> ?_,fun x hx=> ?_,by omega,by omega⟩
 ·have:=Sw h.sok x hx;omega
 ·have:=Jv h x hx;omega
 ·have:x=0:=by
   simp only[cK] at hx
   exact(List.mem_replicate.1 hx).2
  rw[this];decide

def aEW (s:Str) (j sg:Int):Nat→Int:=fun c=>if(eK s c).1=j then sg*(eK s c).2 else 0
def aO2 (s:Str) (j sg:Int) (k:Nat):Nat→Int:=fun c=>if c<k then aEW s j sg c else 0
def aOL (s:Str) (l:List Int) (j sg:Int):Pg:= { cK s l with c:=lz (nC s) (aEW s j sg) }
theorem oQ {n:Nat} {f g:Nat→Int} (h: ∀c,c<n→f c=g c):lz n f=lz n g:=List.map_congr_left fun c hc=>h c (by simpa using hc)
theorem D5 (n:Nat) (f:Nat→Int) (k:Nat) (v:Int):(iv (lz n f)).set k [.int .i64 v]=iv (lz n fun c=>if c=k then v else f c):=by
 apply List.ext_getElem
 ·simp
 ·intro i h1 h2
  rw[List.getElem_set]
  by_cases e:k=i
  ·rw[if_pos e];simp[iv,lz,e]
  ·rw[if_neg e];simp[iv,lz,Ne.symm e]

def tkI (k:Int):Int:=if k=1 then 1 else if k=2 then -1 else 0
def cD (s:Str):List Int:=List.replicate (2*s.js.length) 0
theorem vX {s:Str} (h:SOk s):LOk s (cD s):=by
 refine⟨h,by simp[cD],fun i hi=> ?_⟩
 have:lat (cD s) i=0:=by
  unfold lat cD
  rw[List.getD_eq_getElem?_getD,List.getElem?_replicate]
  split<;>rfl
 omega
def rAt (s:Str) (i k:Nat):Int:=lat (fM s) (i*s.ms.length+k)
def tbI (s:Str) (i:Nat):Nat→Int
 | 0 => 0
 | k + 1 => tbI s i k - rAt s i k * tkI (s.ms.getD k default).kind
def uK (s:Str) (i:Nat) (p:Int×Int):Int:=if(s.ms.getD p.1.toNat default).kind=3 then 0 else p.2*rAt s i p.1.toNat
def tcL (s:Str) (i:Nat) (l:List (Int×Int)):Int:=l.foldl (fun a p=>a - uK s i p) 0
theorem M7 (s:Str) (i:Nat) (l:List (Int×Int)) (p:Int×Int):tcL s i (l++ [p])=tcL s i l - uK s i p:=by simp[tcL]
theorem I9 (s:Str) (i:Nat): ∀(r l:List (Int×Int)),tcL s i (l++r)=tcL s i l+tcL s i r
 | [], l => by simp [tcL]
 | p :: r, l => by
   rw[show l++p::r=(l++ [p])++r by simp,I9 s i r,M7,show p::r= [p]++r from rfl,I9 s i r [p]]
   have:tcL s i [p]= - uK s i p:=by simp[tcL]
   rw[this];omega
theorem Pv {s:Str} (hs:SOk s) (i:Nat): ∀n,n≤s.ms.length→tcL s i (aV s.ms n)=tbI s i n
 | 0, _ => by simp [aV, tcL, tbI]
 | n + 1, h => by
   have hn:n<s.ms.length:=by omega
   rw[lE,I9,Pv hs i n (by omega),oW _ _ _ hn]
   have hk:=hs.kd _ (List.getElem_mem hn)
   have hg:(s.ms.getD n default)=s.ms[n]:=oW _ _ _ hn
   show _=tbI s i n - rAt s i n*tkI (s.ms.getD n default).kind
   rw[hg]
   have h3:s.ms[n].kind=1∨s.ms[n].kind=2∨s.ms[n].kind=3:=by omega
   rcases h3 with e | e | e<;>simp[uF,tcL,uK,tkI,e,hn,Int.sub_eq_add_neg]
def tB (s:Str) (i:Nat):Int:=tbI s i s.ms.length
def nF (s:Str):Pg:= { cK s (cD s) with b:=lz (nR s) (tB s) }
theorem X1 {s:Str} (hs:SOk s) (i k:Nat): -100≤rAt s i k∧rAt s i k≤100:=rG hs _
theorem Cd (a k:Int):a*tkI k=a∨a*tkI k= -a∨a*tkI k=0:=by
 unfold tkI
 split
 ·left;omega
 ·split
  ·right;left;omega
  ·right;right;omega
theorem V1 {s:Str} (hs:SOk s) (i:Nat): ∀n:Nat, -(100*(n:Int))≤tbI s i n∧tbI s i n≤100*(n:Int)
 | 0 => by simp [tbI]
 | n + 1 => by
   obtain⟨h1,h2⟩:=V1 hs i n
   obtain⟨h3,h4⟩:=X1 hs i n
   show _≤tbI s i n - rAt s i n*tkI (s.ms.getD n default).kind∧tbI s i n - rAt s i n*tkI (s.ms.getD n default).kind≤_
   rcases Cd (rAt s i n) (s.ms.getD n default).kind with e | e | e<;>rw[e]<;>omega
theorem Ms {s:Str} (hs:SOk s) (i:Nat) {p:Int×Int} (hp:p.2=1∨p.2= -1): -100≤uK s i p∧uK s i p≤100:=by
 unfold uK
 obtain⟨h3,h4⟩:=X1 hs i p.1.toNat
 split
 ·omega
 ·rcases hp with e | e<;>rw[e]<;>omega
theorem xK (s:Str):right s (cD s)=lz (nR s) fun _=>0:=by
 have hz: ∀i,lat (cD s) i=0:=fun i=>by
  unfold lat cD
  rw[List.getD_eq_getElem?_getD,List.getElem?_replicate]
  split<;>rfl
 have e:lz (nR s) (fun _=>0)=List.replicate (nR s) 0:=by
  apply List.ext_getElem
  ·simp
  ·intro i h1 h2;simp[lz]
 rw[e]
 refine List.eq_replicate_iff.2 ⟨dH s _,fun x hx=> ?_⟩
 unfold right at hx
 obtain⟨j,_,hx⟩:=List.mem_flatMap.1 hx
 simp[hz] at hx
 exact hx
theorem P2 {s:Str} (h:SOk s):PgN (nF s) (nC s) (nR s):=by
 have hf:=Jz (vX h)
 have h8:=h.nm
 refine⟨hf.rows,hf.aY,hf.al,by simp[nF],hf.cl,hf.am,fun x hx=> ?_,hf.cm,hf.ml,hf.nl⟩
 obtain⟨i,hi,rfl⟩:=List.mem_map.1 hx
 have:=V1 h i s.ms.length
 unfold tB
 omega
theorem Ph (s:Str):(nF s).c=List.replicate (nC s) 0:=rfl

theorem O3 (k:Int):RO Tryz.prog 140 [.int .i64 k] (.int .i64 (tkI k)):=by
 refine aJ Tryz.func140 rfl rfl (by rw[Tryz.ntmps140];simp) fun bl=> ?_
 rw[Tryz.ntmps140,Tryz.results140]
 refine aC ?_
 simp
 refine⟨fun h=> ?_,fun h=> ?_⟩
 ·subst h
  exact aS (by simp[tkI]) rfl rfl
 ·refine⟨fun h2=> ?_,fun h2=> ?_⟩
  ·subst h2
   exact aS (by simp[tkI]) rfl rfl
  ·exact aS (by simp[tkI,h,h2]) rfl rfl
def tbF (s:Str) (i k:Nat):Nat→Int:=fun r=>if r<i then tB s r else if r=i then tbI s i k else 0
theorem Hf (s:Str):tbF s 0 0=fun _=>0:=by
 funext r
 unfold tbF
 split
 ·omega
 ·split
  ·rename_i e;subst e;rfl
  ·rfl
theorem Nt (s:Str) (i:Nat):tbF s i s.ms.length=tbF s (i+1) 0:=by
 funext r
 unfold tbF
 by_cases h1:r<i
 ·rw[if_pos h1,if_pos (by omega)]
 ·rw[if_neg h1]
  by_cases h2:r=i
  ·subst h2;rw[if_pos rfl,if_pos (by omega)];rfl
  ·rw[if_neg h2,if_neg (by omega)]
   split
   ·rename_i e;subst e;rfl
   ·rfl
theorem Of (s:Str):lz (nR s) (tbF s (nR s) 0)=lz (nR s) (tB s):=oQ fun c hc=>by unfold tbF;rw[if_pos hc]
theorem Oc (s:Str) {i k:Nat} {v:Int} (h:tbI s i (k+1)=v):(iv (lz (nR s) (tbF s i k))).set i [.int .i64 v]=iv (lz (nR s) (tbF s i (k+1))):=by
 rw[D5]
 congr 1
 refine oQ fun c _=> ?_
 unfold tbF
 by_cases e:c=i
 ·subst e;rw[if_pos rfl,if_neg (by omega),if_pos rfl,h]
 ·rw[if_neg e]
  by_cases e2:c<i
  ·rw[if_pos e2,if_pos e2]
  ·rw[if_neg e2,if_neg e2,if_neg e,if_neg e]
theorem Vl (s:Str) {i k:Nat} (h:i<nR s):(iv (lz (nR s) (tbF s i k)))[i]? =some [.int .i64 (tbI s i k)]:=by
 simp[iv,lz,h,tbF]
theorem Fj (s:Str):(cA s).length=nR s:=by
 have e:cA s=sS s (aO s.js).length:=by simp[sS,cA]
 rw[e,lC s _ (Nat.le_refl _)];rfl
theorem Oh (s:Str) {i k:Nat} (hi:i<(cA s).length) (hk:k<s.ms.length):(iv (cA s)[i])[k]? =some [.int .i64 (rAt s i k)]:=by
 have hl:=kG s _ (List.getElem_mem hi)
 unfold rAt
 rw[qN,uR (cA s) (kG s) i k hi hk]
 have hk':k<(cA s)[i].length:=by omega
 simp[lat,hk']
theorem uL (s:Str) (hs:SOk s):NW Tryz.prog 125 [.ptr s.c] (dPg (nF s)):=by
 have h6:=hs.nj
 have h8:=hs.nm
 have hnR:=Hp hs
 have er:=Fj s
 obtain⟨N2,hN2⟩: ∃x,2*s.js.length=x:=⟨_,rfl⟩
 have w0:IntKind.i64.wrap (2*(s.js.length:Int))=(N2:Int):=by rw[i64_in (by omega) (by omega)];omega
 have hz0:cD s=List.replicate N2 0:=by unfold cD;rw[hN2]
 have hF:=uJ s (cD s) (vX hs)
 refine lR Tryz.func125 rfl rfl (by rw[Tryz.ntmps125];simp) fun bl=> ?_
 rw[Tryz.ntmps125,Tryz.results125]
 refine aD ?_
 simp
 intro gr hgr hbr
 obtain⟨b0,hb0⟩: ∃b0,b0=upd bl gr (some ⟨5,[[.int .i64 0,.int .i64 0,.nils,.nils,.nils]]⟩):=⟨_,rfl⟩
 refine dI [(0,.ptr s.c),(2,.loc gr 5 0 0)] 53 b0 ⟨rfl,by simp,by rw[hb0];exact Sub.refl _⟩ ?_
 have b0r:b0 gr=some ⟨5,[[.int .i64 0,.int .i64 0,.nils,.nils,.nils]]⟩:=by rw[hb0];simp
 have s0:Sub bl b0:=fun x y hx=>by rw[hb0,aG _ _ _ _ (fun e=>by rw[e,hbr] at hx;cases hx)];exact hx
 clear hb0
 refine aD ?_
 simp[Str.c,w0]
 refine⟨by omega,by unfold maxLen;omega,fun gz hgz hbz=> ?_⟩
 refine kM 1 (bl2:=b0) (ys:= [.ptr s.c,.sl (iv (cD s)),.int .i64 0,.int .i64 0]) (by simp[hbz]) ?_ (fT hF fun v gs b1 o1 f fr=> ?_)
 ·have e1:(List.replicate N2 [V.int .i64 0]:List (List V))=iv (cD s):=by rw[hz0];simp[iv]
  have e2:=dM (bl:=upd b0 gz (some ⟨1,List.replicate N2 [.int .i64 0]⟩)) (bl0:=b0) (sz:=1) (n:=N2) hgz hbz (aU _ _ _) (by simp) (by simp[V.cl])
  rw[e1] at e2 ⊢
  simp[e2]
  simp[frz,Str.c]
 obtain⟨va,vb,vc,ga,gb,gc,rfl,rfl,d1,d2,oa,ob,oc⟩:=qH.1 o1
 have hva:=dU oa
 have hvb:=dU ob
 have hvc:=dU oc
 have s1:Sub b0 b1:=fun x y hx=>iP f fr hx
 simp[hva,hvb,hvc]
 intro gp hgp hbp
 have hin: ∀x,x∈ga++(gb++gc)→ ∃y,b1 x=some y:=o1.has
 have hnp:gp∉ga++(gb++gc):=fun h=>by obtain⟨y,hy⟩:=hin gp h;rw[hbp] at hy;cases hy
 simp only[List.mem_append,not_or] at hnp
 obtain⟨npa,npb,npc⟩:=hnp
 obtain⟨b2,hb2⟩: ∃b2,b2=upd b1 gp (some ⟨5,[[.int .i64 (nR s),.int .i64 (nC s),va,vb,vc]]⟩):=⟨_,rfl⟩
 have kX:(cK s (cD s)).rows=nR s:=rfl
 have U7:(cK s (cD s)).aY=nC s:=rfl
 refine dI [(0,.ptr s.c),(2,.loc gr 5 0 0),(3,.loc gp 5 0 0)] 53 b2 ⟨rfl,by simp[Str.c],by rw[hb2];exact sub_eq (by simp[kX,U7])⟩ ?_
 have b2p:b2 gp=some ⟨5,[[.int .i64 (nR s),.int .i64 (nC s),va,vb,vc]]⟩:=by rw[hb2];simp
 have b2x: ∀x,x≠gp→b2 x=b1 x:=fun x hx=>by rw[hb2,aG _ _ _ _ hx]
 clear hb2
 have ok2: ∀ {d:D} {v:V} {gs:List Int},OwnD b1 d v gs→gp∉gs→OwnD b2 d v gs:=fun o hn=>o.cW fun x hx y hy=>by rw[b2x x (fun e=>hn (e▸hx))];exact hy
 have f0: ∀x,x∈ga++(gb++gc)→b0 x=none:=f
 have fp:b0 gp=none:=aQ s1 hbp
 refine uW (g:=gp) (s:=5) (els:= [[.int .i64 (nR s),.int .i64 (nC s),va,vb,vc]]) 0 3 b2p rfl rfl (ok2 ob npb) npb fun gB b3 b3p b3B nBp Gi Bor b3x=> ?_
 have nBa:gB∉ga:=fun h=>by
  rcases Bor with g | g
  ·exact d1 gB h (List.mem_append.2 (.inl g))
  ·have g:b2 gB=none:=g
   obtain⟨y,hy⟩:=(ok2 oa npa).has gB h;rw[g] at hy;cases hy
 have nBc:gB∉gc:=fun h=>by
  rcases Bor with g | g
  ·exact d2 gB g h
  ·have g:b2 gB=none:=g
   obtain⟨y,hy⟩:=(ok2 oc npc).has gB h;rw[g] at hy;cases hy
 have fB:b0 gB=none:=by
  rcases Bor with g | g
  ·exact f0 gB (by simp[g])
  ·have g:b2 gB=none:=g
   rw[b2x gB nBp] at g;exact aQ s1 g
 have oa3:OwnD b3 (fl 1 (iv (cK s (cD s)).a)) va ga:=(ok2 oa npa).cW fun x hx y hy=>by rw[b3x x (fun e=>npa (e▸hx)) (fun e=>nBa (e▸hx))];exact hy
 have oc3:OwnD b3 (fl 1 (iv (cK s (cD s)).c)) vc gc:=(ok2 oc npc).cW fun x hx y hy=>by rw[b3x x (fun e=>npc (e▸hx)) (fun e=>nBc (e▸hx))];exact hy
 have s3:Sub b0 b3:=fun x y hx=>by
  have x1:x≠gp:=fun e=>by rw[e,fp] at hx;cases hx
  exact(b3x x x1 (fun e=>by rw[e,fB] at hx;cases hx)).trans ((b2x x x1).trans (s1 x y hx))
 have eb:(cK s (cD s)).b=lz (nR s) (tbF s 0 0):=by rw[Hf];exact xK s
 rw[eb,pD] at b3p
 rw[eb] at b3B
 simp only[List.set] at b3p
 clear Bor b3x b2x b2p ok2 hin o1 hbp s1
 refine dI [(0,.ptr s.c),(2,.loc gr 5 0 0),(3,.loc gp 5 0 0)] 53 b3 ⟨rfl,by simp[Str.c],Sub.refl _⟩ ?_
 refine aD ?_
 simp
 refine aE (nP s hs) ?_
 simp[er]
 refine aC ?_
 simp
 refine aI (fun i:Nat=> [(0,.ptr s.c),(2,.loc gr 5 0 0),(3,.loc gp 5 0 0),(18,.sl (ivv (cA s))),(19,.int .i64 (nR s)),(20,.int .i64 i)]) (fun i=>upd b3 gB (some ⟨1,iv (lz (nR s) (tbF s i 0))⟩)) (fun i=>i≤nR s) (fun i=>nR s - i) _ 0 (Nat.zero_le _) ⟨rfl,by simp[er],sub_eq (by
  funext x;simp only[aA];split
  ·rename_i e;rw[e,b3B]
  ·rfl)⟩ ?_
 intro i hi
 have wi:IntKind.i64.wrap ((i:Int)+1)=(i:Int)+1:=i64_in (by omega) (by omega)
 refine aD ?_
 simp
 refine aD ?_
 simp
 refine⟨fun hin=> ?_,fun hin=> ?_⟩
 ·have hie:i<(cA s).length:=by omega
  have Hs:(i:Int)<nR s:=by omega
  refine aM (aR ?_)
  refine aD ?_
  simp[hie]
  refine aD ?_
  simp[Str.c]
  refine aR ?_
  refine aI (fun k:Nat=> [(0,.ptr s.c),(2,.loc gr 5 0 0),(3,.loc gp 5 0 0),(18,.sl (ivv (cA s))),(19,.int .i64 (nR s)),(20,.int .i64 i),(4,.int .i64 i),(5,.sl (iv (cA s)[i])),(28,.sl (mv s.ms)),(29,.int .i64 s.ms.length),(30,.int .i64 k)]) (fun k=>upd b3 gB (some ⟨1,iv (lz (nR s) (tbF s i k))⟩)) (fun k=>k≤s.ms.length) (fun k=>s.ms.length - k) _ 0 (Nat.zero_le _) ⟨rfl,by simp[er,Str.c,hie],Sub.refl _⟩ ?_
  intro k hk
  have wk:IntKind.i64.wrap ((k:Int)+1)=(k:Int)+1:=i64_in (by omega) (by omega)
  refine aD ?_
  simp
  refine aD ?_
  simp
  refine⟨fun hkn=> ?_,fun hkn=> ?_⟩
  ·have aPQ:(k:Int)<s.ms.length:=by omega
   refine aM (aR ?_)
   obtain⟨bq,hbq⟩: ∃bq,bq=upd b3 gB (some ⟨1,iv (lz (nR s) (tbF s i k))⟩):=⟨_,rfl⟩
   have bqB:bq gB=some ⟨1,iv (lz (nR s) (tbF s i k))⟩:=by rw[hbq];simp
   have bqp:=(show bq gp=b3 gp by rw[hbq,aG _ _ _ _ (Ne.symm nBp)]).trans b3p
   rw[←hbq]
   refine aD ?_
   simp[hkn,Mb.c]
   intro g7 hg7 hb7
   have n7B:g7≠gB:=fun e=>by rw[e,bqB] at hb7;cases hb7
   have n7p:g7≠gp:=fun e=>by rw[e,bqp] at hb7;cases hb7
   have t1:=O3 s.ms[k].kind
   have r1:=Oh s hie hkn
   have v1:=Vl s (k:=k) hin
   have w2:IntKind.i64.wrap (rAt s i k*tkI s.ms[k].kind)=rAt s i k*tkI s.ms[k].kind:=by
    have:=X1 hs i k
    rcases Cd (rAt s i k) s.ms[k].kind with e | e | e<;>rw[e]<;>exact i64_in (by omega) (by omega)
   have tb0:tbF s i k i=tbI s i k:=by simp[tbF]
   have es:tbI s i (k+1)=tbI s i k - rAt s i k*tkI s.ms[k].kind:=by
    show tbI s i k - rAt s i k*tkI (s.ms.getD k default).kind=_
    rw[oW _ _ _ hkn]
   have w3:IntKind.i64.wrap (tbI s i k - rAt s i k*tkI s.ms[k].kind)=tbI s i (k+1):=by
    have:=V1 hs i (k+1)
    rw[←es];exact i64_in (by omega) (by omega)
   refine eP aN [0,1,2,3,4,5,6,7,8,9,10,11,12,13,14] 1 15 (by kernel_rfl) ?_
   simp[-dC,n7B,n7p,Ne.symm n7B,Ne.symm n7p,bqp,bqB,hin,Hs,v1,r1]
   refine aP t1 ?_
   simp[-dC,n7B,n7p,Ne.symm n7B,Ne.symm n7p,bqp,bqB,hin,Hs,tb0,w2,w3]
   refine eV (i:=15) (by kernel_rfl) rfl rfl rfl ?_
   simp[-dC,Ne.symm n7B,bqB,hin]
   rw[Oc s rfl]
   refine Dy ?_
   simp
   refine aC ?_
   simp[wk,aB]
   refine⟨k+1,by omega,by omega,rfl,by simp,?_⟩
   intro x y hx
   simp only[aA] at hx ⊢
   split
   ·rename_i e;rw[if_pos e] at hx;exact hx
   ·rename_i e;rw[if_neg e] at hx
    rw[if_neg (fun e7=>by rw[hbq,aG _ _ _ _ n7B,←e7,hx] at hb7;cases hb7),hbq,aG _ _ _ _ e];exact hx
  ·have hke:k=s.ms.length:=by omega
   subst hke
   simp
   refine aC ?_
   simp[wi,aB]
   exact⟨i+1,by omega,by omega,rfl,by simp[Str.c],sub_eq (by rw[Nt])⟩
 ·have hie:i=nR s:=by omega
  subst hie
  rw[Of]
  have nrp:gr≠gp:=fun e=>by rw[e,fp] at b0r;cases b0r
  have nrB:gr≠gB:=fun e=>by rw[e,fB] at b0r;cases b0r
  have b3r:=s3 _ _ b0r
  have fbl: ∀x,b0 x=none→bl x=none:=fun x hx=>aQ s0 hx
  refine aC ?_
  simp[Ne.symm nBp,b3p,nrB,Ne.symm nrB,b3r,hva,hvc]
  obtain⟨B,hB⟩: ∃B,B=upd (upd b3 gB (some ⟨1,iv (lz (nR s) (tB s))⟩)) gr (some ⟨5,[[.int .i64 (nR s),.int .i64 (nC s),va,.lsl gB 1 0 (nR s),vc]]⟩):=⟨_,rfl⟩
  have hBx: ∀x,x≠gB→x≠gr→B x=b3 x:=fun x x1 x2=>by rw[hB,aG _ _ _ _ x2,aG _ _ _ _ x1]
  have kp: ∀ {d:D} {v:V} {gs:List Int},OwnD b3 d v gs→gB∉gs→(∀x,x∈gs→b0 x=none)→OwnD B d v gs:=fun o h1 h2=>o.cW fun x hx y hy=>by
   rw[hBx x (fun e=>h1 (e▸hx)) (fun e=>by have:=h2 x hx;rw[e,b0r] at this;cases this)];exact hy
  have oa4:=kp oa3 nBa fun x hx=>f0 x (List.mem_append.2 (.inl hx))
  have oc4:=kp oc3 nBc fun x hx=>f0 x (List.mem_append.2 (.inr (List.mem_append.2 (.inr hx))))
  have ob4:OwnD B (fl 1 (iv (lz (nR s) (tB s)))) (.lsl gB 1 0 (nR s)) [gB]:=eJ.2 (.inr ⟨gB,by simp,rfl,by rw[hB];simp[Ne.symm nrB],fun h=>by have:=Gi h;rw[eb] at this;have e:=congrArg List.length this;rw[pD] at e;rw[show nR s=0 by simpa using e];rfl⟩)
  refine kJ [.agg [.int .i64 (nR s),.int .i64 (nC s),va,.lsl gB 1 0 (nR s),vc]] (ga++([gB]++gc)) (by simp) (qH.2 ⟨va,.lsl gB 1 0 (nR s),vc,ga,[gB],gc,rfl,rfl,fun g hg hh=> ?_,fun g hg hh=> ?_,?_,?_,?_⟩) (fun x hx=> ?_) fun x y hx=> ?_
  ·rcases List.mem_append.1 hh with h | h
   ·rw[List.mem_singleton] at h;exact nBa (h▸hg)
   ·exact d1 g hg (List.mem_append.2 (.inr h))
  ·rw[List.mem_singleton] at hg;exact nBc (hg▸hh)
  ·show OwnD (upd (upd b3 gB _) gr _) _ _ _
   rw[←hB];exact oa4
  ·show OwnD (upd (upd b3 gB _) gr _) _ _ _
   rw[←hB];exact ob4
  ·show OwnD (upd (upd b3 gB _) gr _) _ _ _
   rw[←hB];exact oc4
  ·rcases List.mem_append.1 hx with h | h
   ·exact fbl x (f0 x (List.mem_append.2 (.inl h)))
   ·rcases List.mem_append.1 h with h | h
    ·rw[List.mem_singleton] at h;rw[h];exact fbl gB fB
    ·exact fbl x (f0 x (List.mem_append.2 (.inr (List.mem_append.2 (.inr h)))))
  ·show upd (upd b3 gB _) gr _ x=some y
   rw[aG _ _ _ _ (fun e=>by rw[e,hbr] at hx;cases hx),aG _ _ _ _ (fun e=>by rw[e,fbl gB fB] at hx;cases hx)]
   exact s3 x y (s0 x y hx)
theorem uM (s:Str) (hs:SOk s):RO Tryz.prog 125 [.ptr s.c] (.agg (nF s).v):=by
 have:=gU 2 (uL s hs) (Ck _)
 rwa [Ip] at this

structure T4 where
 va:V
 vb:V
 vc:V
 ga:List Int
 gb:List Int
 gc:List Int
 gp:Int
 b:Int→Option Blk
structure En (b0 : Int → Option Blk) (s : Str) (a : T4) : Prop where
 oa:OwnD a.b (fl 1 (iv (cK s (cD s)).a)) a.va a.ga
 ob:OwnD a.b (fl 1 (iv (cK s (cD s)).b)) a.vb a.gb
 oc:OwnD a.b (fl 1 (iv (cK s (cD s)).c)) a.vc a.gc
 d1: ∀g,g∈a.ga→g∉a.gb++a.gc
 d2: ∀g,g∈a.gb→g∉a.gc
 f0: ∀x,x∈a.ga++(a.gb++a.gc)→b0 x=none
 fp:b0 a.gp=none
 np:a.gp∉a.ga++(a.gb++a.gc)
 hp:a.b a.gp=some ⟨5,[[.int .i64 (nR s),.int .i64 (nC s),a.va,a.vb,a.vc]]⟩
 sub:Sub b0 a.b
def tcF (s:Str) (i j:Nat):Nat→Int:=fun r=>if r<i then tB s r else if r=i then tcL s i ((aY s.ms).take j) else 0
theorem Ho (s:Str):tcF s 0 0=fun _=>0:=by
 funext r
 unfold tcF
 split
 ·omega
 ·split
  ·rfl
  ·rfl
theorem Oi {s:Str} (hs:SOk s) (i:Nat):tcF s i (nC s)=tcF s (i+1) 0:=by
 have ht:tcL s i ((aY s.ms).take (nC s))=tB s i:=by
  rw[show(aY s.ms).take (nC s)=aV s.ms s.ms.length from List.take_length]
  exact Pv hs i _ (Nat.le_refl _)
 funext r
 unfold tcF
 by_cases h1:r<i
 ·rw[if_pos h1,if_pos (by omega)]
 ·rw[if_neg h1]
  by_cases h2:r=i
  ·subst h2;rw[if_pos rfl,if_pos (by omega)];exact ht
  ·rw[if_neg h2,if_neg (by omega)]
   split
   ·rfl
   ·rfl
theorem Ni (s:Str):lz (nR s) (tcF s (nR s) 0)=lz (nR s) (tB s):=oQ fun c hc=>by unfold tcF;rw[if_pos hc]
theorem xO (s:Str) (i:Nat) {j:Nat} (h:j<nC s):tcL s i ((aY s.ms).take (j+1))=tcL s i ((aY s.ms).take j) - uK s i (eK s j):=by
 have h':j<(aY s.ms).length:=h
 rw[List.take_succ_eq_append_getElem h',M7]
 congr 2
 simp[eK,h']
theorem Nl (s:Str) {i j:Nat} {v:Int} (h:tcL s i ((aY s.ms).take (j+1))=v):(iv (lz (nR s) (tcF s i j))).set i [.int .i64 v]=iv (lz (nR s) (tcF s i (j+1))):=by
 rw[D5]
 congr 1
 refine oQ fun c _=> ?_
 unfold tcF
 by_cases e:c=i
 ·subst e;rw[if_pos rfl,if_neg (by omega),if_pos rfl,h]
 ·rw[if_neg e]
  by_cases e2:c<i
  ·rw[if_pos e2,if_pos e2]
  ·rw[if_neg e2,if_neg e2,if_neg e,if_neg e]
theorem Ik (s:Str) {i j:Nat} (h:j<nC s) (hk:uK s i (eK s j)=0):tcF s i j=tcF s i (j+1):=by
 funext c
 unfold tcF
 rw[xO s i h,hk,Int.sub_zero]
theorem Jb {s:Str} (hs:SOk s) (i:Nat): ∀j:Nat,j≤nC s→ -(100*(j:Int))≤tcL s i ((aY s.ms).take j)∧tcL s i ((aY s.ms).take j)≤100*(j:Int)
 | 0, _ => by simp [tcL]
 | j + 1, h => by
   obtain⟨h1,h2⟩:=Jb hs i j (by omega)
   obtain⟨_,k2⟩:=nX s j (by omega)
   obtain⟨h3,h4⟩:=Ms hs i k2
   rw[xO s i (by omega)]
   omega
theorem Jg {s:Str} (i j:Nat) (hk: ¬ (s.ms.getD (eK s j).1.toNat default).kind=3):ent s i j=uK s i (eK s j):=by
 unfold uK ent rAt
 rw[if_neg hk]
theorem En.of {b0 b1 B:Int→Option Blk} {s:Str} {va vb vc:V} {ga gb gc:List Int} {gp:Int} (oa:OwnD b1 (fl 1 (iv (cK s (cD s)).a)) va ga) (ob:OwnD b1 (fl 1 (iv (cK s (cD s)).b)) vb gb) (oc:OwnD b1 (fl 1 (iv (cK s (cD s)).c)) vc gc)
  (d1: ∀g,g∈ga→g∉gb++gc) (d2: ∀g,g∈gb→g∉gc) (f0: ∀x,x∈ga++(gb++gc)→b0 x=none) (fp:b0 gp=none) (np:gp∉ga++(gb++gc)) (s1:Sub b0 b1) (hp:B gp=some ⟨5,[[.int .i64 (nR s),.int .i64 (nC s),va,vb,vc]]⟩) (hx: ∀x,x≠gp→B x=b1 x):En b0 s ⟨va,vb,vc,ga,gb,gc,gp,B⟩:=by
 have np2:=np
 simp only[List.mem_append,not_or] at np2
 obtain⟨n1,n2,n3⟩:=np2
 exact⟨oa.cW fun x hm y hy=>(hx x (fun e=>n1 (e▸hm))).trans hy,ob.cW fun x hm y hy=>(hx x (fun e=>n2 (e▸hm))).trans hy,oc.cW fun x hm y hy=>(hx x (fun e=>n3 (e▸hm))).trans hy,d1,d2,f0,fp,np,hp,fun x y h=>(hx x (fun e=>by rw[e,fp] at h;cases h)).trans (s1 x y h)⟩
theorem yZ (s:Str) (hs:SOk s):NW Tryz.prog 124 [.agg s.c] (dPg (nF s)):=by
 have h6:=hs.nj
 have h8:=hs.nm
 have hnR:=Hp hs
 have hnC:=Re hs
 have ew:(who s).length=nC s:=by simp[who,nC]
 obtain⟨N2,hN2⟩: ∃x,2*s.js.length=x:=⟨_,rfl⟩
 have w0:IntKind.i64.wrap (2*(s.js.length:Int))=(N2:Int):=by rw[i64_in (by omega) (by omega)];omega
 have hz0:cD s=List.replicate N2 0:=by unfold cD;rw[hN2]
 have hF:=zN s (cD s) (vX hs)
 have kX:(cK s (cD s)).rows=nR s:=rfl
 have U7:(cK s (cD s)).aY=nC s:=rfl
 have e1:(List.replicate N2 [V.int .i64 0]:List (List V))=iv (cD s):=by rw[hz0];simp[iv]
 have hfr: ∀(B bz:Int→Option Blk) (gz:Int),0≤gz→bz gz=none→B gz=some ⟨1,List.replicate N2 [.int .i64 0]⟩→frzL (dropB B bz) 1 [.agg s.c,.lsl gz 1 0 N2]=some [.agg s.c,.sl (iv (cD s))]:=fun B bz gz h1 h2 h3=>by
  have e2:=dM (bl:=B) (bl0:=bz) (sz:=1) (n:=N2) h1 h2 h3 (by simp) (by simp[V.cl])
  rw[e1] at e2
  simp[e2]
  simp[frz,Str.c,V.cl]
 refine lR Tryz.func124 rfl rfl (by rw[Tryz.ntmps124];simp) fun bl=> ?_
 rw[Tryz.ntmps124,Tryz.results124]
 refine aD ?_
 simp[Str.c]
 intro g1 hg1 hb1 gr hgr hr1 hbr
 obtain⟨b0,hb0⟩: ∃b0,b0=upd bl gr (some ⟨5,[[.int .i64 0,.int .i64 0,.nils,.nils,.nils]]⟩):=⟨_,rfl⟩
 refine cE 1 1 (.ptr s.c) b0 (by rw[hb0];intro z b hz;simp only[aA] at hz ⊢;grind) (by simp[frz,dropB,hb0,hb1,hr1,Ne.symm hr1,V.cl,Str.c]) ?_
 refine dI [(1,.ptr s.c),(2,.loc gr 5 0 0)] 64 b0 ⟨rfl,by simp[Str.c],Sub.refl _⟩ ?_
 have b0r:b0 gr=some ⟨5,[[.int .i64 0,.int .i64 0,.nils,.nils,.nils]]⟩:=by rw[hb0];simp
 have s0:Sub bl b0:=fun x y hx=>by rw[hb0,aG _ _ _ _ (fun e=>by rw[e,hbr] at hx;cases hx)];exact hx
 clear hb0 hb1 hg1 hr1
 refine fH (fun a:T4=> [(1,.ptr s.c),(2,.loc gr 5 0 0),(3,.loc a.gp 5 0 0)]) (fun a=>a.b) (En b0 s) 64 ?_ ?_
 ·refine cQ aN b0 (Sub.refl _) [0,1,2,3,4] 4 8 (by kernel_rfl) ?_
  simp[Str.c,w0]
  refine Dw 5 7 false false ?_ ?_
  ·simp
   refine⟨by omega,by unfold maxLen;omega,fun gz hgz hbz=>⟨by simp[hbz],?_⟩⟩
   refine Dw 6 7 false false ?_ ?_
   ·simp
    refine kM 1 (bl2:=b0) (ys:= [.agg s.c,.sl (iv (cD s))]) (by simp[hbz]) (hfr _ _ gz hgz hbz (by simp)) (fT hF fun v gs b1 o1 f fr=> ?_)
    obtain⟨va,vb,vc,ga,gb,gc,rfl,rfl,d1,d2,oa,ob,oc⟩:=qH.1 o1
    have hva:=dU oa
    have hvb:=dU ob
    have hvc:=dU oc
    have s1:Sub b0 b1:=fun x y hx=>iP f fr hx
    simp
    refine⟨s1,Dq 7 false ?_⟩
    simp
    intro gp hgp hbp
    have hnp:gp∉ga++(gb++gc):=fun h=>by obtain⟨y,hy⟩:=o1.has gp h;rw[hbp] at hy;cases hy
    have fp:=aQ s1 hbp
    refine⟨fun x y hx=>by rw[aG _ _ _ _ (fun e=>by rw[e,fp] at hx;cases hx)];exact s1 x y hx,Dq 8 true ?_⟩
    simp[hva,hvb,hvc]
    refine Dd ?_
    rw[aH]
    exact⟨⟨va,vb,vc,ga,gb,gc,gp,upd b1 gp (some ⟨5,[[.int .i64 (nR s),.int .i64 (nC s),va,vb,vc]]⟩)⟩,En.of oa ob oc d1 d2 f fp hnp s1 (aU _ _ _) (fun x hx=>aG _ _ _ _ hx),rfl,by simp[Str.c],sub_eq (by simp[kX,U7])⟩
   ·simp
    intro gp hgp hpz hbp
    refine⟨by simp[hbz,hbp,hpz],Dq 6 false ?_⟩
    simp
    have hz1:upd b0 gp (some ⟨5,[[.int .i64 0,.int .i64 0,.nils,.nils,.nils]]⟩) gz=none:=by simp[Ne.symm hpz,hbz]
    refine kM 1 (bl2:=upd b0 gp (some ⟨5,[[.int .i64 0,.int .i64 0,.nils,.nils,.nils]]⟩)) (ys:= [.agg s.c,.sl (iv (cD s))]) (by intro x y hx;simp only[aA] at hx ⊢;grind) (hfr _ _ gz hgz hz1 (by simp[Ne.symm hpz])) (fT hF fun v gs b1 o1 f fr=> ?_)
    obtain⟨va,vb,vc,ga,gb,gc,rfl,rfl,d1,d2,oa,ob,oc⟩:=qH.1 o1
    have hva:=dU oa
    have hvb:=dU ob
    have hvc:=dU oc
    have s1:Sub b0 b1:=fun x y hx=>iP f fr (by rw[aG _ _ _ _ (fun e=>by rw[e,hbp] at hx;cases hx)];exact hx)
    have hnp:gp∉ga++(gb++gc):=fun h=>by have:=f gp h;rw[aU] at this;cases this
    have b1p:b1 gp=some ⟨5,[[.int .i64 0,.int .i64 0,.nils,.nils,.nils]]⟩:=by rw[fr gp hnp,aU]
    have f1: ∀x,x∈ga++(gb++gc)→b0 x=none:=fun x hx=>by have:=f x hx;rw[aG _ _ _ _ (show x≠gp from fun e=>hnp (e▸hx))] at this;exact this
    simp
    refine⟨s1,Dq 8 true ?_⟩
    simp[hva,hvb,hvc,b1p]
    refine Dd ?_
    rw[aH]
    exact⟨⟨va,vb,vc,ga,gb,gc,gp,upd b1 gp (some ⟨5,[[.int .i64 (nR s),.int .i64 (nC s),va,vb,vc]]⟩)⟩,En.of oa ob oc d1 d2 f1 hbp hnp s1 (aU _ _ _) (fun x hx=>aG _ _ _ _ hx),rfl,by simp[Str.c],sub_eq (by simp[kX,U7])⟩
  ·simp
   intro gp hgp hbp
   refine⟨by simp[hbp],Dq 5 false ?_⟩
   simp
   refine⟨by omega,by unfold maxLen;omega,fun gz hgz hzp hbz=>⟨by simp[hbz,hzp,hbp],?_⟩⟩
   refine Dq 6 false ?_
   simp
   have hz1:upd b0 gp (some ⟨5,[[.int .i64 0,.int .i64 0,.nils,.nils,.nils]]⟩) gz=none:=by simp[hzp,hbz]
   refine kM 1 (bl2:=upd b0 gp (some ⟨5,[[.int .i64 0,.int .i64 0,.nils,.nils,.nils]]⟩)) (ys:= [.agg s.c,.sl (iv (cD s))]) (by intro x y hx;simp only[aA] at hx ⊢;grind) (hfr _ _ gz hgz hz1 (by simp)) (fT hF fun v gs b1 o1 f fr=> ?_)
   obtain⟨va,vb,vc,ga,gb,gc,rfl,rfl,d1,d2,oa,ob,oc⟩:=qH.1 o1
   have hva:=dU oa
   have hvb:=dU ob
   have hvc:=dU oc
   have s1:Sub b0 b1:=fun x y hx=>iP f fr (by rw[aG _ _ _ _ (fun e=>by rw[e,hbp] at hx;cases hx)];exact hx)
   have hnp:gp∉ga++(gb++gc):=fun h=>by have:=f gp h;rw[aU] at this;cases this
   have b1p:b1 gp=some ⟨5,[[.int .i64 0,.int .i64 0,.nils,.nils,.nils]]⟩:=by rw[fr gp hnp,aU]
   have f1: ∀x,x∈ga++(gb++gc)→b0 x=none:=fun x hx=>by have:=f x hx;rw[aG _ _ _ _ (show x≠gp from fun e=>hnp (e▸hx))] at this;exact this
   simp
   refine⟨s1,Dq 8 true ?_⟩
   simp[hva,hvb,hvc,b1p]
   refine Dd ?_
   rw[aH]
   exact⟨⟨va,vb,vc,ga,gb,gc,gp,upd b1 gp (some ⟨5,[[.int .i64 (nR s),.int .i64 (nC s),va,vb,vc]]⟩)⟩,En.of oa ob oc d1 d2 f1 hbp hnp s1 (aU _ _ _) (fun x hx=>aG _ _ _ _ hx),rfl,by simp[Str.c],sub_eq (by simp[kX,U7])⟩
 rintro⟨va,vb,vc,ga,gb,gc,gp,b2⟩ ⟨oa,ob,oc,d1,d2,f0,fp,np,b2p,s2⟩
 simp only at oa ob oc d1 d2 f0 fp np b2p s2
 have np2:=np
 simp only[List.mem_append,not_or] at np2
 obtain⟨npa,npb,npc⟩:=np2
 refine uW (g:=gp) (s:=5) (els:= [[.int .i64 (nR s),.int .i64 (nC s),va,vb,vc]]) 0 2 b2p rfl rfl oa npa fun gA b3 b3p b3A nAp aML Aor b3x=> ?_
 have nAb:gA∉gb:=fun h=>by
  rcases Aor with g | g
  ·exact d1 gA g (List.mem_append.2 (.inl h))
  ·have g:b2 gA=none:=g
   obtain⟨y,hy⟩:=ob.has gA h;rw[g] at hy;cases hy
 have nAc:gA∉gc:=fun h=>by
  rcases Aor with g | g
  ·exact d1 gA g (List.mem_append.2 (.inr h))
  ·have g:b2 gA=none:=g
   obtain⟨y,hy⟩:=oc.has gA h;rw[g] at hy;cases hy
 have fA:b0 gA=none:=by
  rcases Aor with g | g
  ·exact f0 gA (by simp[g])
  ·exact aQ s2 g
 have ob3:=ob.cW (bl':=b3) fun x hx y hy=>by rw[b3x x (fun e=>npb (e▸hx)) (fun e=>nAb (e▸hx))];exact hy
 have oc3:=oc.cW (bl':=b3) fun x hx y hy=>by rw[b3x x (fun e=>npc (e▸hx)) (fun e=>nAc (e▸hx))];exact hy
 have s3:Sub b0 b3:=fun x y hx=>by
  rw[b3x x (fun e=>by rw[e,fp] at hx;cases hx) (fun e=>by rw[e,fA] at hx;cases hx)];exact s2 x y hx
 simp only[List.set] at b3p
 clear Aor b3x b2p oa ob oc s2
 refine uW (g:=gp) (s:=5) (els:= [[.int .i64 (nR s),.int .i64 (nC s),.lsl gA 1 0 (cK s (cD s)).a.length,vb,vc]]) 0 3 b3p rfl rfl ob3 npb fun gB b4 b4p b4B nBp Gi Bor b4x=> ?_
 have nBA:gB≠gA:=fun e=>by
  rcases Bor with g | g
  ·exact nAb (e▸g)
  ·have g:b3 gB=none:=g
   rw[e,b3A] at g;cases g
 have nBc:gB∉gc:=fun h=>by
  rcases Bor with g | g
  ·exact d2 gB g h
  ·have g:b3 gB=none:=g
   obtain⟨y,hy⟩:=oc3.has gB h;rw[g] at hy;cases hy
 have fB:b0 gB=none:=by
  rcases Bor with g | g
  ·exact f0 gB (by simp[g])
  ·exact aQ s3 g
 have oc4:=oc3.cW (bl':=b4) fun x hx y hy=>by rw[b4x x (fun e=>npc (e▸hx)) (fun e=>nBc (e▸hx))];exact hy
 have b4A:=(b4x gA nAp (Ne.symm nBA)).trans b3A
 have s4:Sub b0 b4:=fun x y hx=>by
  rw[b4x x (fun e=>by rw[e,fp] at hx;cases hx) (fun e=>by rw[e,fB] at hx;cases hx)];exact s3 x y hx
 have eb:(cK s (cD s)).b=lz (nR s) (tcF s 0 0):=by rw[Ho];exact xK s
 have hvc:=dU oc3
 rw[eb] at b4B b4p
 rw[pD] at b4p
 simp only[List.set] at b4p
 obtain⟨nA,hnA⟩: ∃n,nR s*nC s=n:=⟨_,rfl⟩
 have ea:(cK s (cD s)).a=aTo s nA:=by rw[←hnA];rfl
 have el:(cK s (cD s)).a.length=nA:=by rw[ea];simp[aTo]
 rw[el] at b4p
 rw[ea] at b4A
 clear Bor b4x b3p ob3 oc3 s3 d1 d2
 refine dI [(1,.ptr s.c),(2,.loc gr 5 0 0),(3,.loc gp 5 0 0)] 64 b4 ⟨rfl,by simp[Str.c],Sub.refl _⟩ ?_
 refine aD ?_
 simp[Str.c]
 refine aE (pS s (by omega)) ?_
 simp
 refine aM ?_
 refine aD ?_
 simp[b4p]
 refine aR ?_
 refine aI (fun i:Nat=> [(1,.ptr s.c),(2,.loc gr 5 0 0),(3,.loc gp 5 0 0),(4,.sl (iv (who s))),(23,.int .i64 (nR s)),(24,.int .i64 i)]) (fun i=>upd b4 gB (some ⟨1,iv (lz (nR s) (tcF s i 0))⟩)) (fun i=>i≤nR s) (fun i=>nR s - i) _ 0 (Nat.zero_le _) ⟨rfl,by simp[Str.c],sub_eq (by
  funext x;simp only[aA];split
  ·rename_i e;rw[e,b4B]
  ·rfl)⟩ ?_
 intro i hi
 have wi:IntKind.i64.wrap ((i:Int)+1)=(i:Int)+1:=i64_in (by omega) (by omega)
 refine aD ?_
 simp
 refine aD ?_
 simp
 refine⟨fun hin=> ?_,fun hin=> ?_⟩
 ·have Hs:(i:Int)<nR s:=by omega
  refine aM (aR ?_)
  refine aD ?_
  simp
  refine aD ?_
  simp[ew]
  refine aR ?_
  refine aI (fun j:Nat=> [(1,.ptr s.c),(2,.loc gr 5 0 0),(3,.loc gp 5 0 0),(4,.sl (iv (who s))),(23,.int .i64 (nR s)),(24,.int .i64 i),(6,.int .i64 i),(27,.sl (iv (who s))),(28,.int .i64 (nC s)),(29,.int .i64 j)]) (fun j=>upd b4 gB (some ⟨1,iv (lz (nR s) (tcF s i j))⟩)) (fun j=>j≤nC s) (fun j=>nC s - j) _ 0 (Nat.zero_le _) ⟨rfl,by simp[ew,Str.c],Sub.refl _⟩ ?_
  intro j hj
  have wj:IntKind.i64.wrap ((j:Int)+1)=(j:Int)+1:=i64_in (by omega) (by omega)
  refine aD ?_
  simp
  refine aD ?_
  simp
  refine⟨fun hjn=> ?_,fun hjn=> ?_⟩
  ·have yH:(j:Int)<nC s:=by omega
   refine aM (aR ?_)
   obtain⟨⟨k0,k1⟩,k2⟩:=nX s j hjn
   have qw:=Il s j hjn
   obtain⟨kk,hkk⟩: ∃kk:Nat,(eK s j).1=kk:=⟨(eK s j).1.toNat,by omega⟩
   have hkm:kk<s.ms.length:=by omega
   rw[hkk] at qw
   obtain⟨bq,hbq⟩: ∃bq,bq=upd b4 gB (some ⟨1,iv (lz (nR s) (tcF s i j))⟩):=⟨_,rfl⟩
   have bqB:bq gB=some ⟨1,iv (lz (nR s) (tcF s i j))⟩:=by rw[hbq];simp
   have bqp:=(show bq gp=b4 gp by rw[hbq,aG _ _ _ _ (Ne.symm nBp)]).trans b4p
   have bqA:=(show bq gA=b4 gA by rw[hbq,aG _ _ _ _ (Ne.symm nBA)]).trans b4A
   rw[←hbq]
   refine aD ?_
   simp[-dC,qw]
   refine aD ?_
   simp[Str.c,hkm,Mb.c]
   refine aC ?_
   simp
   have hgm:s.ms.getD (eK s j).1.toNat default=s.ms[kk]:=by rw[hkk,Int.toNat_natCast];exact oW _ _ _ hkm
   refine⟨fun h3=> ?_,fun h3=> ?_⟩
   ·obtain⟨u,hu⟩: ∃u,i*nC s=u:=⟨_,rfl⟩
    obtain⟨t,ht⟩: ∃t,u+j=t:=⟨_,rfl⟩
    have hu2:u≤12*16:=by rw[←hu];exact Nat.mul_le_mul (by omega) hnC
    have htA:t<nA:=by
     have:(i+1)*nC s≤nR s*nC s:=Nat.mul_le_mul_right _ (by omega)
     rw[Nat.add_mul,Nat.one_mul,hu,hnA] at this
     omega
    have aMJ:(t:Int)<nA:=by omega
    have w1:IntKind.i64.wrap ((i:Int)*(nC s:Int))=(u:Int):=by
     have:(i:Int)*(nC s:Int)=(u:Int):=by rw[←hu];simp
     rw[this];exact i64_in (by omega) (by omega)
    have w2:IntKind.i64.wrap ((u:Int)+(j:Int))=(t:Int):=by rw[i64_in (by omega) (by omega)];omega
    have aLV:0<nC s:=by omega
    have vA:(aTo s nA)[t]'(by simpa [aTo] using htA)=ent s i j:=by
     have d1:t / nC s=i:=by rw[←ht,←hu,Nat.mul_comm,Nat.mul_add_div aLV,Nat.div_eq_of_lt hjn,Nat.add_zero]
     have d2:t % nC s=j:=by rw[←ht,←hu,Nat.mul_comm,Nat.mul_add_mod,Nat.mod_eq_of_lt hjn]
     simp[aTo,d1,d2]
    have lA:t<(aTo s nA).length:=by simpa [aTo] using htA
    have tc0:tcF s i j i=tcL s i ((aY s.ms).take j):=by simp[tcF]
    have es:tcL s i ((aY s.ms).take (j+1))=tcL s i ((aY s.ms).take j) - ent s i j:=by
     rw[xO s i hjn,Jg i j (by rw[hgm];exact h3)]
    have w3:IntKind.i64.wrap (tcL s i ((aY s.ms).take j) - ent s i j)=tcL s i ((aY s.ms).take (j+1)):=by
     have:=Jb hs i (j+1) (by omega)
     rw[←es];exact i64_in (by omega) (by omega)
    refine eP aN [0,1,2,3,4,5,6,7,8,9,10,11,12,13,14,15,16,17,18,19] 1 20 (by kernel_rfl) ?_
    simp[bqp,bqB,bqA,hin,Hs,w1,w2,htA,aMJ,lA,vA,tc0,w3]
    refine eV (i:=20) (by kernel_rfl) rfl rfl rfl ?_
    simp[-dC,bqB,hin,tc0,w3]
    rw[Nl s rfl]
    refine Dy ?_
    simp
    refine aC ?_
    simp[wj,aB]
    refine⟨j+1,by omega,by omega,rfl,by simp[Str.c],?_⟩
    intro x y hx
    simp only[aA] at hx ⊢
    split
    ·rename_i e;rw[if_pos e] at hx;exact hx
    ·rename_i e;rw[if_neg e] at hx
     rw[hbq,aG _ _ _ _ e];exact hx
   ·have hk3:s.ms[kk].kind=3:=by omega
    refine aC ?_
    simp[wj,aB]
    refine⟨j+1,by omega,by omega,rfl,by simp[Str.c],sub_eq ?_⟩
    rw[hbq,Ik s hjn (by unfold uK;rw[hgm,if_pos hk3])]
  ·have hje:j=nC s:=by omega
   subst hje
   simp
   refine aC ?_
   simp[wi,aB]
   exact⟨i+1,by omega,by omega,rfl,by simp[Str.c],sub_eq (by rw[Oi hs])⟩
 ·have hie:i=nR s:=by omega
  subst hie
  rw[Ni]
  have nrp:gr≠gp:=fun e=>by rw[e,fp] at b0r;cases b0r
  have nrA:gr≠gA:=fun e=>by rw[e,fA] at b0r;cases b0r
  have nrB:gr≠gB:=fun e=>by rw[e,fB] at b0r;cases b0r
  have b4r:=s4 _ _ b0r
  have fbl: ∀x,b0 x=none→bl x=none:=fun x hx=>aQ s0 hx
  refine aC ?_
  simp[Ne.symm nBp,b4p,nrB,Ne.symm nrB,b4r,hvc]
  obtain⟨B,hB⟩: ∃B,B=upd (upd b4 gB (some ⟨1,iv (lz (nR s) (tB s))⟩)) gr (some ⟨5,[[.int .i64 (nR s),.int .i64 (nC s),.lsl gA 1 0 nA,.lsl gB 1 0 (nR s),vc]]⟩):=⟨_,rfl⟩
  have hBx: ∀x,x≠gB→x≠gr→B x=b4 x:=fun x x1 x2=>by rw[hB,aG _ _ _ _ x2,aG _ _ _ _ x1]
  have oc5:OwnD B (fl 1 (iv (cK s (cD s)).c)) vc gc:=oc4.cW fun x hx y hy=>by
   rw[hBx x (fun e=>nBc (e▸hx)) (fun e=>by have:=f0 x (List.mem_append.2 (.inr (List.mem_append.2 (.inr hx))));rw[e,b0r] at this;cases this)];exact hy
  have oa5:OwnD B (fl 1 (iv (aTo s nA))) (.lsl gA 1 0 nA) [gA]:=eJ.2 (.inr ⟨gA,by simp[aTo],rfl,by rw[hBx gA (Ne.symm nBA) (Ne.symm nrA)];exact b4A,fun h=>by have:=aML h;rw[ea] at this;exact this⟩)
  have ob5:OwnD B (fl 1 (iv (lz (nR s) (tB s)))) (.lsl gB 1 0 (nR s)) [gB]:=eJ.2 (.inr ⟨gB,by simp,rfl,by rw[hB];simp[Ne.symm nrB],fun h=>by have:=Gi h;rw[eb] at this;have e:=congrArg List.length this;rw[pD] at e;rw[show nR s=0 by simpa using e];rfl⟩)
  rw[←ea] at oa5
  refine kJ [.agg [.int .i64 (nR s),.int .i64 (nC s),.lsl gA 1 0 nA,.lsl gB 1 0 (nR s),vc]] ([gA]++([gB]++gc)) (by simp) (qH.2 ⟨.lsl gA 1 0 nA,.lsl gB 1 0 (nR s),vc,[gA],[gB],gc,rfl,rfl,fun g hg hh=> ?_,fun g hg hh=> ?_,?_,?_,?_⟩) (fun x hx=> ?_) fun x y hx=> ?_
  ·rw[List.mem_singleton] at hg
   rcases List.mem_append.1 hh with h | h
   ·rw[List.mem_singleton] at h;exact nBA (h.symm.trans hg)
   ·exact nAc (hg▸h)
  ·rw[List.mem_singleton] at hg;exact nBc (hg▸hh)
  ·show OwnD (upd (upd b4 gB _) gr _) _ _ _
   rw[←hB];exact oa5
  ·show OwnD (upd (upd b4 gB _) gr _) _ _ _
   rw[←hB];exact ob5
  ·show OwnD (upd (upd b4 gB _) gr _) _ _ _
   rw[←hB];exact oc5
  ·rcases List.mem_append.1 hx with h | h
   ·rw[List.mem_singleton] at h;rw[h];exact fbl gA fA
   ·rcases List.mem_append.1 h with h | h
    ·rw[List.mem_singleton] at h;rw[h];exact fbl gB fB
    ·exact fbl x (f0 x (List.mem_append.2 (.inr (List.mem_append.2 (.inr h)))))
  ·show upd (upd b4 gB _) gr _ x=some y
   rw[aG _ _ _ _ (fun e=>by rw[e,hbr] at hx;cases hx),aG _ _ _ _ (fun e=>by rw[e,fbl gB fB] at hx;cases hx)]
   exact s4 x y (s0 x y hx)
theorem zL (s:Str) (hs:SOk s):RO Tryz.prog 124 [.agg s.c] (.agg (nF s).v):=by
 have:=gU 2 (yZ s hs) (Ck _)
 rwa [Ip] at this

def rqs (w:Nat) (f:Nat→Rat):List (List V):=(List.range w).map fun c=>(ro (some (f c))).c
@[simp] theorem Uv (w : Nat) (f : Nat → Rat) : (rqs w f).length = w := by simp [rqs]
@[simp] theorem T1 (w : Nat) (f : Nat → Rat) (i : Nat) (h : i < (rqs w f).length) : (rqs w f)[i] = (ro (some (f i))).c := by simp [rqs]
theorem bI {w:Nat} {f g:Nat→Rat} (h: ∀c,c<w→f c=g c):rqs w f=rqs w g:=List.map_congr_left fun c hc=>by rw[h c (by simpa using hc)]
theorem uU {w i:Nat} (f:Nat→Rat) (v:Rat) (hi:i<w):(rqs w f).set i (ro (some v)).c=rqs w fun c=>if c=i then v else f c:=by
 apply List.ext_getElem
 ·simp
 ·intro j h1 h2
  rw[List.getElem_set,T1,T1]
  by_cases e:i=j
  ·rw[if_pos e,if_pos e.symm]
  ·rw[if_neg e,if_neg (Ne.symm e)]
theorem W0 (w:Nat) (f:Nat→Rat):(rqs w f).all (fun r=>r.all V.cl)=true:=by simp[rqs,RT.c,V.cl]
theorem jG (w:Nat) (f:Nat→Rat):rqs (w+1) f=rqs w f++ [(ro (some (f w))).c]:=by simp[rqs,List.range_succ]
@[irreducible] def tA : Nat := 10 ^ 72
theorem N6 :tA*tA<LB^24:=by unfold tA;decide+kernel
theorem qT {m:Nat} (h:m≤17):Lp.lid 1000 m≤tA:=Nat.le_trans (Lp.J4 h) (by unfold tA;decide+kernel)
theorem sD {m:Nat} (h:m≤17):(m+1)*(1000*Lp.lid 1000 m)≤tA:=Nat.le_trans (Nat.mul_le_mul (show m+1≤18 by omega) (Nat.mul_le_mul_left _ (Lp.J4 h))) (by unfold tA;decide+kernel)
def mR (q:Rat):Prop:=Lp.sm tA q
theorem J8 {q:Rat} (h:Lp.sm (tA*tA) q):fits q:=by
 obtain⟨h1,h2⟩:=Lp.Jh h
 exact⟨aL.2 (Nat.lt_of_le_of_lt h1 N6),aL.2 (Nat.lt_of_le_of_lt h2 N6)⟩
theorem Ja :1≤tA:=by unfold tA;decide+kernel
theorem bU {q:Rat} (h:mR q):fits q:=J8 (Lp.jD h (by have:=Nat.mul_le_mul_left tA Ja;omega))
theorem xY {p q:Rat} (hp:mR p) (hq:mR q):fits (p*q):=J8 (Lp.Sz hp hq)
theorem rH {p q:Rat} (hp:mR p) (hq:mR q) (h:q≠0):fits (p / q):=J8 (Lp.Un hp hq h)
theorem G8 {f:Rat→Rat→Rat} {p q:Rat} (h:fits (f p q)):op2 f (some p) (some q)=some (f p q):=by unfold op2;simp[fit,h]
theorem okS {q:Rat} (h:fits q):okQ (some q):=fun p hp=>by cases hp;exact h
theorem Wb {q:Rat} (h:fits q):sgq (rd (ro (some q)))=q.num.sign:=by rw[mI,Ll h];rfl
theorem Hd {q:Rat} :q.num=0 ↔ q=0:=⟨fun h=>Rat.num_eq_zero.1 h,fun h=>by rw[h];rfl⟩
theorem fQ {q:Rat} (h:fits q):RO Tryz.prog 191 [.agg (ro (some q)).c] (.int .i64 q.num.sign):=by
 have h1:=h.1
 have h2:=h.2
 have:=X3 (ro (some q)) (by show(lim _).length≤_;omega) (by show(lim _).length≤_;omega)
 rwa [Wb h] at this
theorem B9 (a b:Rat) (ha:fits a) (hb:fits b) (h0:b≠0):RO Tryz.prog 277 [.agg (ro (some a)).c,.agg (ro (some b)).c] (.agg (ro (fit (a / b))).c):=by
 have ha1:=ha.1
 have ha2:=ha.2
 have hb1:=hb.1
 have hb2:=hb.2
 have hbn:b.num≠0:=fun e=>h0 (Hd.1 e)
 have ka:RO Tryz.prog 213 [.agg (rq a).c] (.bool true):=by
  have:=lL (rq a) (by show(lim _).length≤_;omega) (by show(lim _).length≤_;omega)
  rwa [show decide (rq a).ok=true from by rw[decide_eq_true_iff,←Qy,Ll ha];rfl] at this
 have kb:RO Tryz.prog 213 [.agg (rq b).c] (.bool true):=by
  have:=lL (rq b) (by show(lim _).length≤_;omega) (by show(lim _).length≤_;omega)
  rwa [show decide (rq b).ok=true from by rw[decide_eq_true_iff,←Qy,Ll hb];rfl] at this
 have n1:=jE ha1 hb2
 have n2:=jE ha2 hb1
 have e:vJ (decide (a.num<0) !=decide (b.num<0)) (a.num.natAbs*b.den) (a.den*b.num.natAbs)=fit (a / b):=by
  unfold vJ
  rw[if_neg (show ¬ a.den*b.num.natAbs=0 from Nat.mul_ne_zero a.den_nz (by omega))]
  rw[Ii a b hbn,←Sx a b hbn]
 rw[mI,mI]
 simp only[rq,RT.c] at ka kb ⊢
 refine aJ Tryz.func277 rfl rfl (by rw[Tryz.ntmps277];simp) fun bl=> ?_
 rw[Tryz.ntmps277,Tryz.results277]
 refine aD ?_
 simp
 intro g hg0 hg g2 hg2 h2g hb2 g3 hg3 h32 h3g hb3
 refine aC ?_
 simp
 refine bW [(2,.loc g 3 0 0),(3,.loc g2 3 0 0),(4,.loc g3 3 0 0)] _ (upd (upd (upd bl g (some ⟨3,[(rq a).c]⟩)) g2 (some ⟨3,[(rq b).c]⟩)) g3 (some ⟨3,[[.bool false,.nils,.nils]]⟩)) 12 (.bool false) (upd (upd (upd bl g (some ⟨3,[(rq a).c]⟩)) g2 (some ⟨3,[(rq b).c]⟩)) g3 (some ⟨3,[[.bool false,.nils,.nils]]⟩)) ⟨rfl,by simp,sub_eq (by simp[RT.c,rq])⟩ rfl ?_ ?_
 ·simp[RT.c,rq,h2g,Ne.symm h2g,h32,Ne.symm h32,h3g,Ne.symm h3g]
  refine aE ka ?_
  simp[h2g,Ne.symm h2g,h32,Ne.symm h32,h3g,Ne.symm h3g]
  refine aE kb ?_
  simp
 simp
 refine bA aN (upd (upd bl g (some ⟨3,[(rq a).c]⟩)) g2 (some ⟨3,[(rq b).c]⟩)) (by simp[h32,h3g,hb3]) [0,1,2,3,4,5,6,7,8,9,10,11,12,13,14,15,16,17,18,19] 1 (by kernel_rfl) ?_
 simp[RT.c,rq,h2g,Ne.symm h2g,h32,Ne.symm h32,h3g,Ne.symm h3g]
 refine aP (eR _ _ (by omega) (by omega)) ?_
 simp[h2g,Ne.symm h2g,h32,Ne.symm h32,h3g,Ne.symm h3g]
 refine aP (eR _ _ (by omega) (by omega)) ?_
 simp[h2g,Ne.symm h2g,h32,Ne.symm h32,h3g,Ne.symm h3g]
 refine aP (oL _ _ _ (by omega) (by omega)) ?_
 rw[e,nV]
 generalize fit (a / b)=z
 simp[h2g,Ne.symm h2g,h32,Ne.symm h32,h3g,Ne.symm h3g]
 refine Dz 20 ?_
 simp[h2g,Ne.symm h2g,h32,Ne.symm h32,h3g,Ne.symm h3g]
 refine⟨by simp[h32,h3g,hb3],Dy ?_⟩
 simp[h2g,Ne.symm h2g,h32,Ne.symm h32,h3g,Ne.symm h3g]
 rw[←RT.c,nV z]
 exact aK [.agg [.bool (decide (nm z<0)),.sl (iv (lim (nm z).natAbs)),.sl (iv (lim (dn z)))]] 1 (by simp[h2g,Ne.symm h2g,h32,Ne.symm h32,h3g,Ne.symm h3g]) (by simp[frz,V.cl]) (by simp[hg,hb2,hb3])

structure SG where
 T:Int
 R:Int
 B:Int
 C:Int
 ids:List Int
structure SN where
 r:Nat
 w:Nat
 n:Nat
 Z:Nat→Nat→Rat
 co:Nat→Rat
 bs:Nat→Nat
def rrs (r w:Nat) (Z:Nat→Nat→Rat):List (List V):=(List.range r).map fun i=> [.sl (rqs w (Z i))]
@[simp] theorem Uo (r w : Nat) (Z : Nat → Nat → Rat) : (rrs r w Z).length = r := by simp [rrs]
@[simp] theorem Gj (r w : Nat) (Z : Nat → Nat → Rat) (i : Nat) (h : i < (rrs r w Z).length) : (rrs r w Z)[i] = [.sl (rqs w (Z i))] := by simp [rrs]
def SN.c (t:SN):List V:= [.int .i64 t.n,.sl (rrs t.r t.w t.Z),.sl (iv (lb t.r t.bs)),.sl (rqs t.w t.co)]
def SG.all (g:SG):List Int:=g.T::g.R::g.B::g.C::g.ids
structure SS (b : Int → Option Blk) (g : SG) (t : SN) : Prop where
 len:g.ids.length=t.r
 top:b g.R=some ⟨1,g.ids.map fun x=> [.lsl x 3 0 t.w]⟩
 row: ∀(i:Nat) (x:Int),g.ids[i]? =some x→b x=some ⟨3,rqs t.w (t.Z i)⟩
 pos: ∀x,x∈g.ids→0≤x
 hd:b g.T=some ⟨4,[[.int .i64 t.n,.lsl g.R 1 0 t.r,.lsl g.B 1 0 t.r,.lsl g.C 3 0 t.w]]⟩
 ba:b g.B=some ⟨1,iv (lb t.r t.bs)⟩
 cst:b g.C=some ⟨3,rqs t.w t.co⟩
 pT:0≤g.T
 pR:g.R<0→t.r=0
 pB:g.B<0→t.r=0
 pC:0≤g.C
 nd:g.all.Nodup
theorem SS.cW {b b':Int→Option Blk} {g:SG} {t:SN} (h:SS b g t) (hk: ∀x y,x∈g.all→b x=some y→b' x=some y):SS b' g t:=
 ⟨h.len,hk _ _ (by simp[SG.all]) h.top,fun i x hi=>hk _ _ (by simp[SG.all,List.mem_of_getElem? hi]) (h.row i x hi),h.pos,hk _ _ (by simp[SG.all]) h.hd,hk _ _ (by simp[SG.all]) h.ba,hk _ _ (by simp[SG.all]) h.cst,h.pT,h.pR,h.pB,h.pC,h.nd⟩
theorem SS.at {b:Int→Option Blk} {g:SG} {t:SN} (h:SS b g t) (i:Nat) (hi:i<t.r): ∃x,g.ids[i]? =some x∧x∈g.ids∧0≤x∧b x=some ⟨3,rqs t.w (t.Z i)⟩:=by
 have hl:=h.len
 have e:g.ids[i]? =some (g.ids[i]'(by omega)):=List.getElem?_eq_getElem _
 exact⟨_,e,List.mem_of_getElem? e,h.pos _ (List.mem_of_getElem? e),h.row i _ e⟩
theorem SS.inj {b:Int→Option Blk} {g:SG} {t:SN} (h:SS b g t) {i j:Nat} {x:Int} (hi:g.ids[i]? =some x) (hj:g.ids[j]? =some x):i=j:=by
 have nd:=h.nd
 unfold SG.all at nd
 simp only[List.nodup_cons] at nd
 obtain⟨-, -, -, -,nd⟩:=nd
 obtain⟨i1,e1⟩:=List.getElem?_eq_some_iff.1 hi
 obtain⟨j1,e2⟩:=List.getElem?_eq_some_iff.1 hj
 have hp:=List.pairwise_iff_getElem.1 nd
 rcases Nat.lt_trichotomy i j with q | q | q
 ·exact absurd (e1.trans e2.symm) (hp i j i1 j1 q)
 ·exact q
 ·exact absurd (e2.trans e1.symm) (hp j i j1 i1 q)
theorem SS.frz {b:Int→Option Blk} {g:SG} {t:SN} (h:SS b g t) (m:Nat):frz b (m+4) (.loc g.T 4 0 0)=some (.ptr t.c):=by
 have hi: ∀m (k:Int),Vm.frz b m (.int .i64 k)=some (.int .i64 k):=fun m k=>by cases m<;>simp[Vm.frz]
 have h1:Vm.frz b (m+3) (.lsl g.R 1 0 t.r)=some (.sl (rrs t.r t.w t.Z)):=by
  rcases Int.lt_or_le g.R 0 with cL | hR
  ·have hr:=h.pR cL
   rw[hr]
   have e:rrs 0 t.w t.Z= []:=rfl
   rw[e]
   simp[Vm.frz,cL]
  have h1:=iI (n:=m+2) hR h.top
  rw[List.length_map,h.len] at h1
  rw[h1]
  have h2:(g.ids.map fun x=> [V.lsl x 3 0 t.w]).mapM (fun e:List V=>e.mapM (Vm.frz b (m+2)))=some (rrs t.r t.w t.Z):=by
   refine vG _ _ (by simp[h.len]) fun i x y hx hy=> ?_
   rw[List.getElem?_map] at hx
   cases hi:g.ids[i]? with
   | none => rw [hi] at hx; cases hx
   | some gi =>
     rw[hi] at hx;cases hx
     have hlt:i<t.r:=by rw[←h.len];exact(List.getElem?_eq_some_iff.1 hi).1
     rw[List.getElem?_eq_getElem (by simpa using hlt),Gj] at hy
     cases hy
     have h3:=iI (bl:=b) (n:=m+1) (sz:=3) (els:=rqs t.w (t.Z i)) (h.pos gi (List.mem_of_getElem? hi)) (h.row i gi hi)
     rw[gJ (W0 _ _)] at h3
     simp only[List.mapM_cons,List.mapM_nil]
     rw[show(rqs t.w (t.Z i)).length=t.w by simp] at h3
     rw[h3];rfl
  rw[h2];rfl
 have h2:Vm.frz b (m+3) (.lsl g.B 1 0 t.r)=some (.sl (iv (lb t.r t.bs))):=by
  rcases Int.lt_or_le g.B 0 with cL | hB
  ·have hr:=h.pB cL
   rw[hr]
   have e:lb 0 t.bs= []:=rfl
   rw[e]
   simp[Vm.frz,cL,iv]
  have h1:=iI (n:=m+2) hB h.ba
  rw[gJ (nE _)] at h1
  rw[show(iv (lb t.r t.bs)).length=t.r by simp] at h1
  rw[h1];rfl
 have h3:Vm.frz b (m+3) (.lsl g.C 3 0 t.w)=some (.sl (rqs t.w t.co)):=by
  have h1:=iI (n:=m+2) h.pC h.cst
  rw[gJ (W0 _ _)] at h1
  rw[show(rqs t.w t.co).length=t.w by simp] at h1
  rw[h1];rfl
 rw[wH h.hd]
 simp only[List.mapM_cons,List.mapM_nil,h1,h2,h3,hi]
 rfl
theorem SS.put {b:Int→Option Blk} {g:SG} {t:SN} {i:Nat} {x:Int} (h:SS b g t) (hi:g.ids[i]? =some x) (Z':Nat→Nat→Rat) (hZ: ∀a c,a≠i→c<t.w→t.Z a c=Z' a c):SS (upd b x (some ⟨3,rqs t.w (Z' i)⟩)) g ⟨t.r,t.w,t.n,Z',t.co,t.bs⟩:=by
 have hm:=List.mem_of_getElem? hi
 have nd:=h.nd
 unfold SG.all at nd
 simp only[List.nodup_cons,List.mem_cons,not_or] at nd
 obtain⟨⟨-, -, -,n1⟩,⟨-, -,n2⟩,⟨-,n3⟩,n4, -⟩:=nd
 have e: ∀y,y∉g.ids→y≠x:=fun y hy e=>hy (e▸hm)
 refine⟨h.len,by rw[aG _ _ _ _ (e _ n2)];exact h.top,fun k y hk=> ?_,h.pos,by rw[aG _ _ _ _ (e _ n1)];exact h.hd,by rw[aG _ _ _ _ (e _ n3)];exact h.ba,by rw[aG _ _ _ _ (e _ n4)];exact h.cst,h.pT,h.pR,h.pB,h.pC,h.nd⟩
 by_cases e2:k=i
 ·subst e2
  rw[hi] at hk;cases hk
  rw[aU]
 ·have hne:y≠x:=fun e3=>e2 (h.inj (i:=k) (j:=i) (by rw[hk,e3]) hi)
  rw[aG _ _ _ _ hne,h.row k y hk]
  simp only
  rw[bI fun c hc=>hZ k c e2 hc]
theorem SS.Uy {b:Int→Option Blk} {g:SG} {t:SN} (h:SS b g t) (co':Nat→Rat):SS (upd b g.C (some ⟨3,rqs t.w co'⟩)) g ⟨t.r,t.w,t.n,t.Z,co',t.bs⟩:=by
 have nd:=h.nd
 unfold SG.all at nd
 simp only[List.nodup_cons,List.mem_cons,not_or] at nd
 obtain⟨⟨-, -,n1, -⟩,⟨-,n2, -⟩,⟨n3, -⟩,n4, -⟩:=nd
 exact⟨h.len,by rw[aG _ _ _ _ n2];exact h.top,fun k y hk=>by rw[aG _ _ _ _ (fun e=>n4 (by rw[←e];exact List.mem_of_getElem? hk))];exact h.row k y hk,h.pos,by rw[aG _ _ _ _ n1];exact h.hd,by rw[aG _ _ _ _ n3];exact h.ba,by rw[aU],h.pT,h.pR,h.pB,h.pC,h.nd⟩
theorem SS.aM7 {b:Int→Option Blk} {g:SG} {t:SN} (h:SS b g t) (bs':Nat→Nat):SS (upd b g.B (some ⟨1,iv (lb t.r bs')⟩)) g ⟨t.r,t.w,t.n,t.Z,t.co,bs'⟩:=by
 have nd:=h.nd
 unfold SG.all at nd
 simp only[List.nodup_cons,List.mem_cons,not_or] at nd
 obtain⟨⟨-,n1, -, -⟩,⟨n2, -, -⟩,⟨n3,n4⟩, -, -⟩:=nd
 exact⟨h.len,by rw[aG _ _ _ _ n2];exact h.top,fun k y hk=>by rw[aG _ _ _ _ (fun e=>n4 (by rw[←e];exact List.mem_of_getElem? hk))];exact h.row k y hk,h.pos,by rw[aG _ _ _ _ n1];exact h.hd,by rw[aU],by rw[aG _ _ _ _ (Ne.symm n3)];exact h.cst,h.pT,h.pR,h.pB,h.pC,h.nd⟩

theorem oD {bl:Int→Option Blk} {K:V→(Int→Option Blk)→Prop} (gt gr:Int) (w k:Nat) (f h:Nat→Rat) (hw:w≤200) (hk:k<w) (ht:bl gt=some ⟨3,rqs w f⟩) (hr:bl gr=some ⟨3,rqs w h⟩) (hne:gt≠gr) (h0t:0≤gt) (h0r:0≤gr)
  (hf: ∀c,c<w→fits (f c)) (hh: ∀c,c<w→fits (h c)) (hm: ∀c,c<w→fits (f k*h c)) (hs: ∀c,c<w→fits (f c - f k*h c))
  (hK: ∀b',(∀x y,bl x=some y→x≠gt→b' x=some y)→b' gt=some ⟨3,rqs w fun c=>f c - f k*h c⟩→K (.tup []) b'):
  cO Tryz.prog 253 [.lsl gt 3 0 w,.lsl gr 3 0 w,.int .i64 k] bl K:=by
 have kw:(k:Int)<w:=by omega
 refine cV Tryz.func253 rfl rfl (by rw[Tryz.ntmps253];simp) ?_
 rw[Tryz.ntmps253,Tryz.results253]
 refine aD ?_
 simp[ht,kw,hk,RT.c]
 intro g6 hg6 hb6
 have n6t: ¬ g6=gt:=fun e=>by rw[e,ht] at hb6;cases hb6
 have n6r: ¬ g6=gr:=fun e=>by rw[e,hr] at hb6;cases hb6
 refine cE 1 6 (.ptr (ro (some (f k))).c) bl (by intro z b hz;simp only[aA] at hz ⊢;grind) (by simp[frz,dropB,hb6,V.cl,RT.c]) ?_
 have hsg:=fQ (hf k hk)
 refine aM ?_
 have l3: ∀q:Rat,(rq q).c.length=3:=fun _=>rfl
 have t3: ∀q:Rat,(rq q).c.take 3=(rq q).c:=fun _=>rfl
 refine aC ?_
 simp[l3,t3]
 refine aE hsg ?_
 simp
 refine⟨fun h0=> ?_,fun h0=> ?_⟩
 ·rw[dQ]
  refine⟨[],by simp,hK bl (fun x y hx _=>hx) ?_⟩
  rw[ht,bI (g:=fun c=>f c - f k*h c) fun c _=>by simp only[h0];grind]
 have lN:=A7 (some (f k)) (okS (hf k hk))
 have okN:fits (-f k):=by
  have:=G9 (okS (hf k hk)) (-f k) rfl
  exact this
 refine aD ?_
 simp[l3,t3]
 refine aE (r:= .agg (ro (some (-f k))).c) lN ?_
 simp[RT.c]
 intro g7 hg7 hb7
 refine cE 1 7 (.ptr (ro (some (-f k))).c) bl (by intro z b hz;simp only[aA] at hz ⊢;grind) (by simp[frz,dropB,hb7,V.cl,RT.c]) ?_
 refine aC ?_
 simp
 refine aI (fun j:Nat=> [(0,.lsl gt 3 0 w),(1,.lsl gr 3 0 w),(7,.ptr (ro (some (-f k))).c),(19,.int .i64 w),(20,.int .i64 j)]) (fun j=>upd bl gt (some ⟨3,rqs w fun c=>if c<j then f c - f k*h c else f c⟩)) (fun j=>j≤w) (fun j=>w - j) _ 0 (Nat.zero_le _) ⟨rfl,by simp,sub_eq (by funext x;simp only[aA];split;rename_i e;rw[e,ht];simp;rfl)⟩ ?_
 intro j hj
 have wj:IntKind.i64.wrap ((j:Int)+1)=(j:Int)+1:=i64_in (by omega) (by omega)
 refine aD ?_
 simp
 refine aD ?_
 simp
 refine⟨fun hjw=> ?_,fun hjw=> ?_⟩
 ·have qP:(j:Int)<w:=by omega
  refine aM (aR ?_)
  refine aD ?_
  simp
  refine aD ?_
  simp[hne,Ne.symm hne,hr,hjw,qP,l3,t3]
  refine aE (fQ (hh j hjw)) ?_
  simp
  have pG:(rqs w fun c=>if c<j then f c - f k*h c else f c).set j (ro (some (f j - f k*h j))).c=rqs w fun c=>if c<j+1 then f c - f k*h c else f c:=by
   rw[uU _ _ hjw]
   exact bI fun c _=>by
    by_cases e:c=j
    ·subst e;rw[if_pos rfl,if_pos (by omega)]
    ·rw[if_neg e]
     by_cases e2:c<j
     ·rw[if_pos e2,if_pos (by omega)]
     ·rw[if_neg e2,if_neg (by omega)]
  by_cases hz:h j=0
  ·have hs0:(rqs w fun c=>if c<j then f c - f k*h c else f c)=rqs w fun c=>if c<j+1 then f c - f k*h c else f c:=bI fun c _=>by
    by_cases e:c=j
    ·subst e;rw[if_neg (by omega),if_pos (by omega),hz];grind
    ·by_cases e2:c<j
     ·rw[if_pos e2,if_pos (by omega)]
     ·rw[if_neg e2,if_neg (by omega)]
   refine aC ?_
   simp[hz]
   refine aC ?_
   simp[wj,aB]
   refine⟨j+1,by omega,by omega,rfl,by simp,sub_eq ?_⟩
   rw[hs0]
  ·refine aC ?_
   simp[hz]
   have lM:=Dr (some (-f k)) (some (h j)) (okS okN) (okS (hh j hjw))
   have eM:op2 (· * ·) (some (-f k)) (some (h j))=some (-(f k*h j)):=by
    rw[show -(f k*h j)= -f k*h j by grind]
    refine G8 ?_
    rw[show -f k*h j= -(f k*h j) by grind]
    exact G9 (okS (hm j hjw)) _ rfl
   rw[eM] at lM
   have lA:=A0 (some (f j)) (some (-(f k*h j))) (okS (hf j hjw)) (okS (G9 (okS (hm j hjw)) _ rfl))
   have eA:op2 (· + ·) (some (f j)) (some (-(f k*h j)))=some (f j - f k*h j):=by
    rw[show f j - f k*h j=f j+ -(f k*h j) by grind]
    refine G8 ?_
    rw[show f j+ -(f k*h j)=f j - f k*h j by grind]
    exact hs j hjw
   rw[eA] at lA
   refine eP aN [0,1,2,3,4,5,6,7,8,9,10,11,12,13] 1 14 (by kernel_rfl) ?_
   simp[hne,Ne.symm hne,hr,hjw,qP,l3,t3]
   refine aP lM ?_
   simp[hne,Ne.symm hne,hr,hjw,qP,l3,t3]
   refine aP lA ?_
   simp[hjw,qP]
   refine eV (i:=14) (by kernel_rfl) rfl rfl rfl ?_
   generalize f j - f k*h j=y at pG
   simp[hjw,qP,RT.c]
   refine Dy ?_
   simp
   refine aC ?_
   simp[wj,aB]
   refine⟨j+1,by omega,by omega,rfl,by simp[RT.c],?_⟩
   rw[←pG]
   intro z b hz
   simp only[aA,RT.c,mI] at hz ⊢
   grind
 ·have Ui:j=w:=by omega
  subst Ui
  rw[jK]
  refine⟨[],by simp,hK _ (fun x y hx hx2=>by simp only;rw[aG _ _ _ _ hx2];exact hx) ?_⟩
  simp only
  rw[aU,bI fun c hc=>by rw[if_pos hc]]

def zpv (Z:Nat→Nat→Rat) (r k:Nat):Nat→Nat→Rat:=fun i c=>if i=r then Z r c / Z r k else Z i c - Z i k*(Z r c / Z r k)
def cpv (Z:Nat→Nat→Rat) (co:Nat→Rat) (r k:Nat):Nat→Rat:=fun c=>co c - co k*(Z r c / Z r k)
def pvS (bs:Nat→Nat) (r k:Nat):Nat→Nat:=fun i=>if i=r then k else bs i
def zAt (Z:Nat→Nat→Rat) (r k i:Nat):Nat→Nat→Rat:=fun a c=>if a=r then Z r c / Z r k else if a<i then zpv Z r k a c else Z a c
structure Ol (t : SN) : Prop where
 z: ∀i c,i<t.r→c<t.w→mR (t.Z i c)
 co: ∀c,c<t.w→mR (t.co c)
 w:t.w≤200
 r:t.r≤100
structure aFF where
 i:Nat
 b:Int→Option Blk
theorem tV {bl:Int→Option Blk} {K:V→(Int→Option Blk)→Prop} (g:SG) (t:SN) (r k:Nat) (hT:SS bl g t) (hr:r<t.r) (hk:k<t.w) (ht:Ol t) (hp:t.Z r k≠0) (ht':Ol ⟨t.r,t.w,t.n,zpv t.Z r k,cpv t.Z t.co r k,pvS t.bs r k⟩)
  (hK: ∀b',SS b' g ⟨t.r,t.w,t.n,zpv t.Z r k,cpv t.Z t.co r k,pvS t.bs r k⟩→(∀x y,bl x=some y→x∉g.all→b' x=some y)→K (.tup []) b'):
  cO Tryz.prog 250 [.loc g.T 4 0 0,.int .i64 r,.int .i64 k] bl K:=by
 obtain⟨gT,gR,gB,gC,ids⟩:=g
 obtain⟨R,w,n,Z,co,bs⟩:=t
 simp only at hr hk hp
 have hw:=ht.w
 have hR:=ht.r
 simp only at hw hR
 have hrR:(r:Int)<R:=by omega
 have hkw:(k:Int)<w:=by omega
 have bT:bl gT=_:=hT.hd
 have bG:bl gR=_:=hT.top
 have bB:bl gB=_:=hT.ba
 have bC:bl gC=_:=hT.cst
 have hil:=hT.len
 simp only at bT bG bB bC hil
 obtain⟨gr,hgr,Is,Vs,Sk⟩:=hT.at r hr
 simp only at hgr Is Sk
 have hgj: ∀h,ids[r]'h=gr:=fun h=>by rw[List.getElem?_eq_getElem h] at hgr;exact Option.some.inj hgr
 have l3: ∀q:Rat,(rq q).c.length=3:=fun _=>rfl
 have t3: ∀q:Rat,(rq q).c.take 3=(rq q).c:=fun _=>rfl
 have nd:=hT.nd
 simp only[SG.all,List.nodup_cons,List.mem_cons,not_or] at nd
 obtain⟨⟨nTR,nTB,nTC,nTi⟩,⟨nRB,nRC,nRi⟩,⟨nBC,nBi⟩,nCi,nds⟩:=nd
 have rT: ¬ gT=gr:=fun e=>nTi (e▸Is)
 have rR: ¬ gR=gr:=fun e=>nRi (e▸Is)
 refine cV Tryz.func250 rfl rfl (by rw[Tryz.ntmps250];simp) ?_
 rw[Tryz.ntmps250,Tryz.results250]
 refine aD ?_
 simp[bT,bG,hr,hrR,hk,hkw,hil,hgj,Sk,RT.c]
 intro g6 hg6 hb6
 refine cE 1 6 (.ptr (ro (some (Z r k))).c) bl (by intro z b hz;simp only[aA] at hz ⊢;grind) (by simp[frz,dropB,hb6,V.cl,RT.c]) ?_
 refine aM ?_
 refine aC ?_
 simp[bT,bG,hr,hrR,hil,hgj]
 refine aI (fun j:Nat=> [(0,.loc gT 4 0 0),(1,.int .i64 r),(2,.int .i64 k),(6,.ptr (ro (some (Z r k))).c),(26,.int .i64 w),(27,.int .i64 j)]) (fun j=>upd bl gr (some ⟨3,rqs w fun c=>if c<j then Z r c / Z r k else Z r c⟩)) (fun j=>j≤w) (fun j=>w - j) _ 0 (Nat.zero_le _) ⟨rfl,by simp,sub_eq (by funext x;simp only[aA];split;rename_i e;rw[e,Sk];simp;rfl)⟩ ?_
 intro j hj
 have wj:IntKind.i64.wrap ((j:Int)+1)=(j:Int)+1:=i64_in (by omega) (by omega)
 refine aD ?_
 simp
 refine aD ?_
 simp
 refine⟨fun hjw=> ?_,fun hjw=> ?_⟩
 ·have qP:(j:Int)<w:=by omega
  refine aM (aR ?_)
  refine aD ?_
  simp
  have lD:=B9 (Z r j) (Z r k) (bU (ht.z r j hr hjw)) (bU (ht.z r k hr hk)) hp
  have hq:fits (Z r j / Z r k):=rH (ht.z r j hr hjw) (ht.z r k hr hk) hp
  have eD:fit (Z r j / Z r k)=some (Z r j / Z r k):=by simp[fit,hq]
  rw[eD] at lD
  have pG:(rqs w fun c=>if c<j then Z r c / Z r k else Z r c).set j (ro (some (Z r j / Z r k))).c=rqs w fun c=>if c<j+1 then Z r c / Z r k else Z r c:=by
   rw[uU _ _ hjw]
   exact bI fun c _=>by
    by_cases e:c=j
    ·subst e;rw[if_pos rfl,if_pos (by omega)]
    ·rw[if_neg e]
     by_cases e2:c<j
     ·rw[if_pos e2,if_pos (by omega)]
     ·rw[if_neg e2,if_neg (by omega)]
  refine eP aN [0,1,2,3,4,5,6,7,8,9,10,11,12,13,14,15,16,17,18,19,20] 1 21 (by kernel_rfl) ?_
  simp[rT,Ne.symm rT,rR,Ne.symm rR,bT,bG,hr,hrR,hil,hgj,hjw,qP,l3,t3]
  refine aP lD ?_
  simp[hjw,qP]
  refine eV (i:=21) (by kernel_rfl) rfl rfl rfl ?_
  generalize Z r j / Z r k=y at pG
  simp[hjw,qP,RT.c]
  refine Dy ?_
  simp
  refine aC ?_
  simp[wj,aB]
  refine⟨j+1,by omega,by omega,rfl,by simp[RT.c],?_⟩
  rw[←pG]
  intro z b hz
  simp only[aA,RT.c,mI] at hz ⊢
  grind
 have Ui:j=w:=by omega
 subst Ui
 have Ev:(rqs j fun c=>if c<j then Z r c / Z r k else Z r c)=rqs j (zAt Z r k 0 r):=bI fun c hc=>by rw[if_pos hc];unfold zAt;rw[if_pos rfl]
 rw[Ev]
 have hS0:SS (upd bl gr (some ⟨3,rqs j (zAt Z r k 0 r)⟩)) ⟨gT,gR,gB,gC,ids⟩ ⟨R,j,n,zAt Z r k 0,co,bs⟩:=hT.put (i:=r) hgr (zAt Z r k 0) fun a c ha _=>by unfold zAt;rw[if_neg ha,if_neg (by omega)]
 refine aM ?_
 refine aC ?_
 simp[rT,Ne.symm rT,bT,rR,Ne.symm rR,bG]
 refine aI (fun s:aFF=> [(0,.loc gT 4 0 0),(1,.int .i64 r),(2,.int .i64 k),(56,.int .i64 R),(57,.int .i64 s.i)]) (fun s=>s.b) (fun s=>s.i≤R∧SS s.b ⟨gT,gR,gB,gC,ids⟩ ⟨R,j,n,zAt Z r k s.i,co,bs⟩∧ ∀x y,bl x=some y→x∉SG.all ⟨gT,gR,gB,gC,ids⟩→s.b x=some y) (fun s=>R - s.i) _ ⟨0,upd bl gr (some ⟨3,rqs j (zAt Z r k 0 r)⟩)⟩ ⟨Nat.zero_le _,hS0,fun x y hx hn=>by simp only;rw[aG _ _ _ _ (fun e=>hn (by rw[e];simp[SG.all,Is]))];exact hx⟩ ⟨rfl,by simp,Sub.refl _⟩ ?_
 rintro⟨i,b⟩ ⟨hi,hS,hfb⟩
 simp only at hi hS hfb
 have wi:IntKind.i64.wrap ((i:Int)+1)=(i:Int)+1:=i64_in (by omega) (by omega)
 have cT:b gT=_:=hS.hd
 have cG:b gR=_:=hS.top
 have cB:b gB=_:=hS.ba
 have cC:b gC=_:=hS.cst
 simp only at cT cG cB cC
 have Bg:=hS.row r gr hgr
 simp only at Bg
 have aCV:rqs j (zAt Z r k i r)=rqs j fun c=>Z r c / Z r k:=bI fun c _=>by unfold zAt;rw[if_pos rfl]
 rw[aCV] at Bg
 have hzr: ∀c,c<j→fits (Z r c / Z r k):=fun c hc=>rH (ht.z r c hr hc) (ht.z r k hr hk) hp
 have hzt: ∀c,c<j→mR (Z r c / Z r k):=fun c hc=>by
  have:=ht'.z r c hr hc
  simp only[zpv,if_true] at this
  exact this
 refine aD ?_
 simp
 refine aD ?_
 simp
 refine⟨fun hiR=> ?_,fun hiR=> ?_⟩
 ·have Dl:(i:Int)<R:=by omega
  refine aM (aR ?_)
  refine aD ?_
  simp
  refine aD ?_
  simp
  by_cases hir:i=r
  ·have hz:zAt Z r k (i+1)=zAt Z r k i:=by
    funext a c
    unfold zAt
    by_cases e:a=r
    ·rw[if_pos e,if_pos e]
    ·rw[if_neg e,if_neg e]
     by_cases e2:a<i
     ·rw[if_pos e2,if_pos (by omega)]
     ·rw[if_neg e2,if_neg (by omega)]
   refine aC ?_
   have wi2:=wi
   have hS':=hS
   rw[hir] at wi2 hz hS'
   simp[hir]
   refine aC ?_
   simp[wi2,aB]
   refine⟨⟨r+1,b⟩,⟨by simp only;omega,by simp only;rw[hz];exact hS',hfb⟩,by simp only;omega,rfl,by simp,Sub.refl _⟩
  ·have Sf: ¬ (i:Int)=r:=by omega
   refine aC ?_
   simp[hir,Sf]
   obtain⟨gi,hgi,zA,xJ,nG⟩:=hS.at i hiR
   simp only at hgi zA nG
   have aM4: ∀h,ids[i]'h=gi:=fun h=>by rw[List.getElem?_eq_getElem h] at hgi;exact Option.some.inj hgi
   have hzi:rqs j (zAt Z r k i i)=rqs j (Z i):=bI fun c _=>by unfold zAt;rw[if_neg hir,if_neg (by omega)]
   rw[hzi] at nG
   have hne:gi≠gr:=fun e=>hir (hS.inj (i:=i) (j:=r) (by rw[hgi,e]) hgr)
   have iT: ¬ gT=gi:=fun e=>nTi (e▸zA)
   have iR: ¬ gR=gi:=fun e=>nRi (e▸zA)
   refine bA aN (rem b gi) (dF b gi) [0,1,2,3,4,5,6,7,8,9,10,11,12,13,14] 1 (by kernel_rfl) ?_
   simp[iT,iR,cT,cG,hr,hrR,hil,hgj,hiR,Dl,aM4]
   refine Dz 15 ?_
   simp
   refine oD gi gr j k (Z i) (fun c=>Z r c / Z r k) hw hk nG Bg hne xJ Vs (fun c hc=>bU (ht.z i c hiR hc)) hzr (fun c hc=>xY (ht.z i k hiR hk) (hzt c hc)) (fun c hc=> ?_) fun b' hx hb'=> ?_
   ·have:=ht'.z i c hiR hc
    simp only[zpv,if_neg hir] at this
    exact bU this
   simp
   refine⟨fun z y hz=> ?_,Dy ?_⟩
   ·rw[aF] at hz
    split at hz
    ·cases hz
    ·exact hx z y hz (by assumption)
   simp
   refine aC ?_
   simp[wi,aB]
   refine⟨⟨i+1,b'⟩,⟨by simp only;omega,?_,fun x y h1 h2=>hx x y (hfb x y h1 h2) fun e=>h2 (by rw[e];simp[SG.all,zA])⟩,by simp only;omega,rfl,by simp,Sub.refl _⟩
   have aLF:=hS.put (i:=i) hgi (zAt Z r k (i+1)) fun a c ha _=>by
    simp only[zAt]
    by_cases e:a=r
    ·rw[if_pos e,if_pos e]
    ·rw[if_neg e,if_neg e]
     by_cases e2:a<i
     ·rw[if_pos e2,if_pos (by omega)]
     ·rw[if_neg e2,if_neg (by omega)]
   refine aLF.cW fun x y hx1 hy=> ?_
   by_cases e:x=gi
   ·subst e
    rw[aU] at hy
    cases hy
    simp only
    rw[hb']
    congr 2
    exact bI fun c _=>by unfold zAt zpv;rw[if_neg hir,if_pos (by omega),if_neg hir]
   ·rw[aG _ _ _ _ e] at hy
    exact hx x y hy e
 have hie:i=R:=by omega
 subst hie
 have aCW:SS b ⟨gT,gR,gB,gC,ids⟩ ⟨i,j,n,zpv Z r k,co,bs⟩:=⟨hS.len,hS.top,fun a x ha=>by
  rw[hS.row a x ha]
  have hai:a<i:=by rw[←hil];exact(List.getElem?_eq_some_iff.1 ha).1
  simp only
  congr 2
  exact bI fun c _=>by
   unfold zAt
   by_cases e:a=r
   ·rw[if_pos e];unfold zpv;rw[if_pos e]
   ·rw[if_neg e,if_pos hai],hS.pos,hS.hd,hS.ba,hS.cst,hS.pT,hS.pR,hS.pB,hS.pC,hS.nd⟩
 have cTr: ¬ gT=gC:=nTC
 have cCr:gC≠gr:=fun e=>nCi (by rw[e];exact Is)
 refine aD ?_
 refine bA aN (rem b gC) (dF b gC) [0,1,2,3,4,5,6,7,8,9,10,11] 1 (by kernel_rfl) ?_
 simp[nTC,nRC,cT,cG,hr,hrR,hil,hgj]
 refine Dz 12 ?_
 simp
 refine oD gC gr j k co (fun c=>Z r c / Z r k) hw hk cC Bg cCr hS.pC Vs (fun c hc=>bU (ht.co c hc)) hzr (fun c hc=>xY (ht.co k hk) (hzt c hc)) (fun c hc=>bU (ht'.co c hc)) fun b' hx hb'=> ?_
 simp
 refine⟨fun z y hz=> ?_,Dy ?_⟩
 ·rw[aF] at hz
  split at hz
  ·cases hz
  ·exact hx z y hz (by assumption)
 have hS2:SS b' ⟨gT,gR,gB,gC,ids⟩ ⟨i,j,n,zpv Z r k,cpv Z co r k,bs⟩:=(aCW.Uy (cpv Z co r k)).cW fun x y hx1 hy=>by
  by_cases e:x=gC
  ·subst e
   simp only at hy
   rw[aU] at hy
   cases hy
   rw[hb'];rfl
  ·simp only at hy
   rw[aG _ _ _ _ e] at hy
   exact hx x y hy e
 have dT:b' gT=_:=hS2.hd
 have dB:b' gB=_:=hS2.ba
 simp only at dT dB
 simp
 refine aC ?_
 have hbp:0≤gB:=by
  rcases Int.lt_or_le gB 0 with e | e
  ·have:=hS.pB e;simp only at this;omega
  ·exact e
 have aM1:(iv (lb i bs)).set r [.int .i64 k]=iv (lb i (pvS bs r k)):=Jk bs hr
 simp[dT,dB,hr,hrR,aM1]
 rw[jK]
 refine⟨[],by simp,hK _ (hS2.aM7 (pvS bs r k)) fun x y h1 h2=> ?_⟩
 have x1:x≠gB:=fun e=>h2 (by rw[e];simp[SG.all])
 have x2:x≠gC:=fun e=>h2 (by rw[e];simp[SG.all])
 simp only
 rw[aG _ _ _ _ x1]
 exact hx x y (hfb x y h1 h2) x2
end Go.Proofs.YticmgmemnpcbbaaGreat.Vm

namespace Go.Proofs.YticmgmemnpcbbaaGreat.Lp
set_option linter.unusedSimpArgs false
set_option linter.unusedVariables false
theorem rI {m:Nat} {t:Tab} {C:Nat→Rat} {j:Nat} (hj: ∀i,i<m→t.bs i≠j):rc m (wl C (j+1)) t j= -1:=by
 unfold rc wl
 simp only
 rw[if_pos trivial,iD]
 ·grind
 ·intro i hi;rw[if_neg (hj i hi)];grind
theorem E1 {m:Nat} {t:Tab} {C:Nat→Rat} {j k:Nat} (hjk:j≠k) (hk: ∀i,i<m→t.bs i≠k):rc m (wl C (k+1)) t j=0:=by
 unfold rc wl
 simp only
 rw[if_neg hjk,iD]
 ·grind
 ·intro i hi;rw[if_neg (hk i hi)];grind
theorem V9 {m:Nat} {E:Nat→Nat→Rat} {t:Tab} {C:Nat→Rat} {j i:Nat} (h:TI m E t) (hi:i<m) (hj:j≠t.bs i):rc m (wl C (t.bs i+1)) t j=t.X i j:=by
 unfold rc wl
 simp only
 rw[if_neg hj,dE hi]
 ·rw[if_pos rfl];grind
 ·intro i' hi' hne
  rw[if_neg fun e=>hne (h.inj hi' hi e)];grind
def Deep (m:Nat) (C:Nat→Rat) (t:Tab) (j k:Nat) (s:Int):Prop:=
 (s=0∧ ∀q,q≤k→rc m (wl C q) t j=0)∨(s≠0∧ ∃q,q≤k∧(∀p,p<q→rc m (wl C p) t j=0)∧rc m (wl C q) t j≠0∧s=(rc m (wl C q) t j).num.sign)
theorem Ca {q:Rat} :0<q.num ↔ 0<q:=by
 have h1:=Rat.num_nonneg (q:=q)
 have h2:=Rat.num_eq_zero (q:=q)
 constructor
 ·intro h
  have h3:=h1.1 (by omega)
  have h4:q≠0:=fun e=>by rw[e] at h;exact absurd h (by decide)
  grind
 ·intro h
  have h3:=h1.2 (by grind)
  have h4:q.num≠0:=fun e=>by have:=h2.1 e;grind
  omega
theorem vT {q:Rat} :0<q.num.sign ↔ 0<q:=by
 rw[←Ca]
 rcases Int.lt_trichotomy q.num 0 with h | h | h
 ·rw[Int.sign_eq_neg_one_of_neg h];omega
 ·rw[h];decide
 ·rw[Int.sign_eq_one_of_pos h];omega
theorem sign_zero {q:Rat} :q.num.sign=0 ↔ q=0:=by
 rw[Int.sign_eq_zero_iff_zero]
 exact Rat.num_eq_zero
theorem Deep.start (m:Nat) (C:Nat→Rat) (t:Tab) (j:Nat):Deep m C t j 0 (rc m C t j).num.sign:=by
 by_cases h:rc m C t j=0
 ·refine .inl ⟨sign_zero.2 h,fun q hq=> ?_⟩
  rw[show q=0 by omega];exact h
 ·exact .inr ⟨fun e=>h (sign_zero.1 e),0,Nat.le_refl _,fun p hp=>by omega,h,rfl⟩
theorem Deep.next {m:Nat} {C:Nat→Rat} {t:Tab} {j k:Nat} (h:Deep m C t j k 0) {s:Int} (hs:s=(rc m (wl C (k+1)) t j).num.sign):Deep m C t j (k+1) s:=by
 rcases h with ⟨_,h⟩| ⟨h,_⟩
 ·by_cases e:rc m (wl C (k+1)) t j=0
  ·refine .inl ⟨by rw[hs];exact sign_zero.2 e,fun q hq=> ?_⟩
   by_cases e2:q=k+1
   ·rw[e2];exact e
   ·exact h q (by omega)
  ·exact .inr ⟨fun e2=>e (sign_zero.1 (hs▸e2)),k+1,Nat.le_refl _,fun p hp=>h p (by omega),e,hs⟩
 ·exact absurd rfl h
theorem Deep.mono {m:Nat} {C:Nat→Rat} {t:Tab} {j k k':Nat} {s:Int} (h:Deep m C t j k s) (hs:s≠0) (hk:k≤k'):Deep m C t j k' s:=by
 rcases h with ⟨h,_⟩| ⟨h,q,h1,h2⟩
 ·exact absurd h hs
 ·exact .inr ⟨h,q,by omega,h2⟩
theorem Deep.end {m n:Nat} {C:Nat→Rat} {t:Tab} {j:Nat} {s:Int} (h:Deep m C t j n s):0<s ↔ gE (n+1) fun q=>rc m (wl C q) t j:=by
 rcases h with ⟨rfl,h⟩| ⟨h,q,h1,h2,h3,h4⟩
 ·constructor
  ·intro h0;omega
  ·rintro⟨q,q1,q2,q3⟩
   simp only at q2
   rw[h q (by omega)] at q2;exact absurd q2 (by decide)
 ·rw[h4]
  constructor
  ·intro h5;exact⟨q,by omega,vT.1 h5,fun p hp=>h2 p hp⟩
  ·rintro⟨p,p1,p2,p3⟩
   rcases Nat.lt_trichotomy p q with g | g | g
   ·simp only at p2;rw[h2 p g] at p2;exact absurd p2 (by decide)
   ·subst g;exact vT.2 p2
   ·exact absurd (p3 q g) h3
theorem Deep.own {m n:Nat} {C:Nat→Rat} {t:Tab} {j:Nat} (h:Deep m C t j j 0) (hj: ∀i,i<m→t.bs i≠j): ¬ gE (n+1) fun q=>rc m (wl C q) t j:=by
 rintro⟨q,q1,q2,q3⟩
 rcases h with ⟨_,h⟩| ⟨h,_⟩
 ·have h5:=rI (C:=C) hj
  rcases Nat.lt_trichotomy q (j+1) with g | g | g
  ·simp only at q2;rw[h q (by omega)] at q2;exact absurd q2 (by decide)
  ·subst g;simp only at q2;rw[h5] at q2;exact absurd q2 (by decide)
  ·have:=q3 (j+1) g
   simp only at this
   rw[h5] at this;exact absurd this (by decide)
 ·exact h rfl
noncomputable def yK (m : Nat) (C : Nat → Rat) (t : Tab) (j n : Nat) : Int := match fstP (fun q => rc m (wl C q) t j ≠ 0) (n + 1) with
 | some q => (rc m (wl C q) t j).num.sign
 | none => 0
theorem vH (m:Nat) (C:Nat→Rat) (t:Tab) (j n:Nat):Deep m C t j n (yK m C t j n):=by
 unfold yK
 cases h:fstP (fun q=>rc m (wl C q) t j≠0) (n+1) with
 | none =>
   have h1:=fG.1 h
   exact .inl ⟨rfl,fun q hq=>Classical.not_not.1 (h1 q (by omega))⟩
 | some q =>
   obtain⟨h1,h2,h3⟩:=dJ.1 h
   exact .inr ⟨fun e=>h2 (sign_zero.1 e),q,by omega,fun p hp=>Classical.not_not.1 (h3 p hp),h2,rfl⟩
theorem Deep.uniq {m:Nat} {C:Nat→Rat} {t:Tab} {j n:Nat} {s s':Int} (h:Deep m C t j n s) (h':Deep m C t j n s'):s=s':=by
 rcases h with ⟨rfl,h⟩| ⟨h,q,h1,h2,h3,h4⟩<;>rcases h' with ⟨rfl,g⟩| ⟨g,p,g1,g2,g3,g4⟩
 ·rfl
 ·exact absurd (h p g1) g3
 ·exact absurd (g q h1) h3
 ·have:p=q:=by
   rcases Nat.lt_trichotomy p q with x | x | x
   ·exact absurd (h2 p x) g3
   ·exact x
   ·exact absurd (g2 q x) h3
  subst this
  rw[h4,g4]
theorem Deep.eq {m:Nat} {C:Nat→Rat} {t:Tab} {j n:Nat} {s:Int} (h:Deep m C t j n s):yK m C t j n=s:=(vH m C t j n).uniq h
theorem Fi {m n:Nat} {C:Nat→Rat} {t:Tab} {j:Nat} :0<yK m C t j n ↔ gE (n+1) fun q=>rc m (wl C q) t j:=(vH m C t j n).end
theorem Deep.self {m n:Nat} {C:Nat→Rat} {t:Tab} {j:Nat} (h:Deep m C t j j 0) (hj: ∀i,i<m→t.bs i≠j) (hn:j<n):yK m C t j n= -1:=by
 have h1:=h.next (s:= -1) (by rw[rI hj];rfl)
 exact(h1.mono (by decide) hn).eq
end Go.Proofs.YticmgmemnpcbbaaGreat.Lp

namespace Go.Proofs.YticmgmemnpcbbaaGreat.Vm
open Go Go.RowKit Go.Proofs
set_option linter.unusedSimpArgs false
set_option linter.unusedVariables false
def basic (r:Nat) (bs:Nat→Nat) (j:Nat):Prop:= ∃p,p<r∧bs p=j
instance (r : Nat) (bs : Nat → Nat) (j : Nat) : Decidable (basic r bs j) := by unfold basic; infer_instance
theorem S8 (t:SN) (j:Nat) (hr:t.r≤100):RO Tryz.prog 247 [.ptr t.c,.int .i64 j] (.bool (decide (basic t.r t.bs j))):=by
 obtain⟨R,w,n,Z,co,bs⟩:=t
 simp only at hr
 refine aJ Tryz.func247 rfl rfl (by rw[Tryz.ntmps247];simp) fun bl=> ?_
 rw[Tryz.ntmps247,Tryz.results247]
 refine aC ?_
 simp[SN.c]
 refine aI (fun i:Nat=> [(1,.int .i64 j),(10,.sl (iv (lb R bs))),(11,.int .i64 R),(12,.int .i64 i)]) (fun _=>bl) (fun i=>i≤R∧ ∀p,p<i→bs p≠j) (fun i=>R - i) _ 0 ⟨Nat.zero_le _,fun p hp=>by omega⟩ ⟨rfl,by simp,Sub.refl _⟩ ?_
 rintro i ⟨hi,bO⟩
 have wi:IntKind.i64.wrap ((i:Int)+1)=(i:Int)+1:=i64_in (by omega) (by omega)
 refine aC ?_
 simp
 refine⟨fun hiR=> ?_,fun hiR=> ?_⟩
 ·simp[hiR]
  refine⟨fun hb=> ?_,fun hb=> ?_⟩
  ·have hd:basic R bs j:=⟨i,hiR,by omega⟩
   exact aS (by simp[hd]) rfl rfl
  ·simp[wi,aB]
   refine⟨i+1,⟨by omega,fun p hp=> ?_⟩,by omega,rfl,by simp,Sub.refl _⟩
   by_cases e:p=i
   ·rw[e];omega
   ·exact bO p (by omega)
 ·have: ¬ basic R bs j:=fun⟨p,hp,e⟩=>bO p (by omega) e
  exact aS (by simp[this]) rfl rfl
theorem H5 (t:SN) (j:Nat) (hj:j<t.w) (hf:fits (t.co j)):RO Tryz.prog 248 [.ptr t.c,.int .i64 j,.bool false] (.int .i64 (t.co j).num.sign):=by
 obtain⟨R,w,n,Z,co,bs⟩:=t
 simp only at hj hf
 have hjw:(j:Int)<w:=by omega
 have l3: ∀q:Rat,(rq q).c.length=3:=fun _=>rfl
 have t3: ∀q:Rat,(rq q).c.take 3=(rq q).c:=fun _=>rfl
 refine aJ Tryz.func248 rfl rfl (by rw[Tryz.ntmps248];simp) fun bl=> ?_
 rw[Tryz.ntmps248,Tryz.results248]
 refine aC ?_
 simp[SN.c,hj,hjw,l3,t3]
 refine aE (fQ hf) ?_
 simp
 obtain⟨s,hs⟩: ∃s,(co j).num.sign=s:=⟨_,rfl⟩
 rw[hs]
 refine aI (fun _:Unit=> [(0,.ptr [.int .i64 n,.sl (rrs R w Z),.sl (iv (lb R bs)),.sl (rqs w co)]),(1,.int .i64 j),(2,.bool false),(7,.int .i64 s),(8,.int .i64 0)]) (fun _=>bl) (fun _=>True) (fun _=>0) _ () trivial ⟨rfl,by simp,Sub.refl _⟩ ?_
 rintro⟨⟩ -
 refine aM (aM ?_)
 refine bP [(0,.ptr [.int .i64 n,.sl (rrs R w Z),.sl (iv (lb R bs)),.sl (rqs w co)]),(1,.int .i64 j),(2,.bool false),(7,.int .i64 s),(8,.int .i64 0)] _ bl 31 (.bool false) ⟨rfl,by simp,Sub.refl _⟩ rfl ?_ ?_
 ·simp
 simp
 refine aC ?_
 simp
 exact aS (by simp) rfl rfl
structure View (m b : Nat) (E : Nat → Nat → Rat) (T : Lp.Tab) (rows : List Nat) (t : SN) : Prop where
 ti:Lp.TI m E T
 rr:Rows m rows
 len:t.r=rows.length
 bs: ∀p,p<t.r→t.bs p=T.bs (atR rows p)
 nl:t.n≤100
 rl:t.r≤100
 nw:t.w=t.n+1
 wl:t.w≤200
 dead: ∀i,i<m→i∉rows→t.n≤T.bs i
 z: ∀p j,p<t.r→j<t.n→t.Z p j=T.X (atR rows p) j
 zb: ∀p,p<t.r→t.Z p t.n=T.X (atR rows p) b
 tm:Ol t
theorem View.nb {m b:Nat} {E:Nat→Nat→Rat} {T:Lp.Tab} {rows:List Nat} {t:SN} (h:View m b E T rows t) {k:Nat} (hk:k<t.n) (hb: ∀p,p<t.r→t.bs p≠k): ∀i,i<m→T.bs i≠k:=fun i hi e=>by
 rcases Classical.em (i∈rows) with g | g
 ·obtain⟨p,hp,e2⟩:=List.mem_iff_getElem.1 g
  have hp':p<t.r:=by rw[h.len];exact hp
  refine hb p hp' ?_
  rw[h.bs p hp',show atR rows p=i by unfold atR;rw[List.getD_eq_getElem?_getD,List.getElem?_eq_getElem hp,e2];rfl,e]
 ·have:=h.dead i hi g;omega
structure Rd where
 k:Nat
 s:Int
theorem G7 {m b:Nat} {E:Nat→Nat→Rat} {C:Nat→Rat} {T:Lp.Tab} {rows:List Nat} {t:SN} (h:View m b E T rows t) (j:Nat) (hjn:j<t.n) (hnb: ¬ basic t.r t.bs j) (hco:t.co j=Lp.rc m C T j):
  RO Tryz.prog 248 [.ptr t.c,.int .i64 j,.bool true] (.int .i64 (Lp.yK m C T j t.n)):=by
 have hjw:j<t.w:=by have:=h.nw;omega
 have hf:fits (t.co j):=bU (h.tm.co j hjw)
 have hfZ: ∀p,p<t.r→fits (t.Z p j):=fun p hp=>bU (h.tm.z p j hp hjw)
 have hnl:=h.nl
 have hrl:=h.rl
 have hTj: ∀i,i<m→T.bs i≠j:=h.nb hjn fun p hp e=>hnb ⟨p,hp,e⟩
 have hbs:=h.bs
 have hz:=h.z
 have aDV:= @View.nb _ _ _ _ _ _ h
 have hlen:=h.len
 have hR:=h.rr
 have hti:=h.ti
 clear h
 obtain⟨R,w,n,Z,co,bs⟩:=t
 simp only at hjn hnb hco hjw hf hfZ hnl hrl hbs hz aDV hlen
 have qP:(j:Int)<w:=by omega
 have l3: ∀q:Rat,(rq q).c.length=3:=fun _=>rfl
 have t3: ∀q:Rat,(rq q).c.take 3=(rq q).c:=fun _=>rfl
 refine aJ Tryz.func248 rfl rfl (by rw[Tryz.ntmps248];simp) fun bl=> ?_
 rw[Tryz.ntmps248,Tryz.results248]
 refine aC ?_
 simp[SN.c,hjw,qP,l3,t3]
 refine aE (fQ hf) ?_
 simp
 have hD0:=Lp.Deep.start m C T j
 rw[←hco] at hD0
 refine aI (fun s:Rd=> [(0,.ptr [.int .i64 n,.sl (rrs R w Z),.sl (iv (lb R bs)),.sl (rqs w co)]),(1,.int .i64 j),(2,.bool true),(7,.int .i64 s.s),(8,.int .i64 s.k)]) (fun _=>bl) (fun s=>s.k≤n∧Lp.Deep m C T j s.k s.s) (fun s=>n - s.k) _ ⟨0,(co j).num.sign⟩ ⟨Nat.zero_le _,hD0⟩ ⟨rfl,by simp,Sub.refl _⟩ ?_
 rintro⟨k,s⟩ ⟨hk,hD⟩
 simp only at hk hD
 have wk:IntKind.i64.wrap ((k:Int)+1)=(k:Int)+1:=i64_in (by omega) (by omega)
 refine aM (aM ?_)
 refine bP [(0,.ptr [.int .i64 n,.sl (rrs R w Z),.sl (iv (lb R bs)),.sl (rqs w co)]),(1,.int .i64 j),(2,.bool true),(7,.int .i64 s),(8,.int .i64 k)] _ bl 31 (.bool (decide (s=0∧k<n))) ⟨rfl,by simp,Sub.refl _⟩ rfl ?_ ?_
 ·simp
  by_cases h0:s=0<;>simp[h0]
 simp
 refine aC ?_
 simp
 refine⟨fun h0 hkn=> ?_,fun hno=> ?_⟩
 ·subst h0
  refine aC ?_
  simp
  refine⟨fun hkj=> ?_,fun hkj=> ?_⟩
  ·have hkj:k=j:=by omega
   subst hkj
   exact aS (by simp[hD.self hTj hkn]) rfl rfl
  have hkj:k≠j:=by omega
  refine aI (fun q:Rd=> [(0,.ptr [.int .i64 n,.sl (rrs R w Z),.sl (iv (lb R bs)),.sl (rqs w co)]),(1,.int .i64 j),(2,.bool true),(7,.int .i64 q.s),(8,.int .i64 k),(40,.sl (iv (lb R bs))),(41,.int .i64 R),(42,.int .i64 q.k)]) (fun _=>bl) (fun q=>q.k≤R∧((q.s=0∧ ∀p,p<q.k→bs p≠k)∨ ∃p,p<q.k∧bs p=k∧q.s=(Z p j).num.sign)) (fun q=>R - q.k) _ ⟨0,0⟩ ⟨Nat.zero_le _,.inl ⟨rfl,fun p hp=>by simp only at hp;omega⟩⟩ ⟨rfl,by simp,Sub.refl _⟩ ?_
  rintro⟨i,s⟩ ⟨hi,hs⟩
  simp only at hi hs
  have wi:IntKind.i64.wrap ((i:Int)+1)=(i:Int)+1:=i64_in (by omega) (by omega)
  refine aC ?_
  simp
  refine⟨fun hiR=> ?_,fun hiR=> ?_⟩
  ·have Dl:(i:Int)<R:=by omega
   simp[hiR]
   refine⟨fun hb=> ?_,fun hb=> ?_⟩
   ·have hb:bs i=k:=by omega
    simp[hiR,Dl,hjw,qP,l3,t3]
    refine aE (fQ (hfZ i hiR)) ?_
    simp[wi,aB]
    refine⟨⟨i+1,(Z i j).num.sign⟩,⟨by simp only;omega,.inr ⟨i,by simp only;omega,hb,rfl⟩⟩,by simp only;omega,rfl,by simp,Sub.refl _⟩
   ·have hb:bs i≠k:=by omega
    simp[wi,aB]
    refine⟨⟨i+1,s⟩,⟨by simp only;omega,?_⟩,by simp only;omega,rfl,by simp,Sub.refl _⟩
    simp only
    rcases hs with ⟨h1,h2⟩| ⟨p,h1,h2,h3⟩
    ·refine .inl ⟨h1,fun p hp=> ?_⟩
     by_cases e:p=i
     ·rw[e];exact hb
     ·exact h2 p (by omega)
    ·exact .inr ⟨p,by omega,h2,h3⟩
  have hie:i=R:=by omega
  subst hie
  have nD:Lp.Deep m C T j (k+1) s:=by
   refine hD.next ?_
   rcases hs with ⟨h1,h2⟩| ⟨p,h1,h2,h3⟩
   ·rw[h1,Lp.E1 (Ne.symm hkj) (aDV hkn h2)];rfl
   ·have e1:=hbs p h1
    have hin:atR rows p<m:=hR.lt (cH (by omega))
    rw[h3,hz p j h1 hjn,←h2,e1,Lp.V9 hti hin (by rw[←e1,h2];exact Ne.symm hkj)]
  simp[wk,aB]
  refine⟨⟨k+1,s⟩,⟨by simp only;omega,nD⟩,by simp only;omega,rfl,by simp,Sub.refl _⟩
 ·have hE:Lp.yK m C T j n=s:=by
   rcases Classical.em (s=0) with e | e
   ·have:k=n:=by have:=hno e;omega
    subst this;exact hD.eq
   ·exact(hD.mono e hk).eq
  exact aS (by simp[hE]) rfl rfl
end Go.Proofs.YticmgmemnpcbbaaGreat.Vm

namespace Go.Proofs.YticmgmemnpcbbaaGreat.Vm
open Go Go.RowKit Go.Proofs
set_option linter.unusedSimpArgs false
set_option linter.unusedVariables false
def isGC :Oper→Bool
 | ⟨_, .call ⟨.value _, _, _⟩, _, _, _, some _⟩ => true
 | _ => false
section
variable (P : Program) (ds : List (Option Tmp)) (blK : Int → Option Blk)
def HoistG :List Oper→(St→Prop)→St→Prop
 | [], K, σ => K σ
 | o :: rest, K, σ => match o with
   | ⟨d,.call ⟨.value f,args,_⟩,_,_,_,some (j,b)⟩=>match ds[j]? with
     | some (some t)=>match σ.ev (.tmp t) with
       | .bool q=>if q=b then bD (callV σ f args.toList) fun p=> ∃v,RO P p.1 p.2 v∧HoistG rest K (σ.put d v) else HoistG rest K (σ.put d (.tup []))
       | .tup []=>HoistG rest K (σ.put d (.tup []))
       | _=>False
     | _=>False
   | o=>HoistF P ds blK [o] (HoistG rest K) σ
def gcK (rest:List Oper) (K:St→Prop) (σ:St) (d:Option Tmp) (o:Option (FuncId×List V)):Prop:=bD o fun p=> ∃v,RO P p.1 p.2 v∧HoistG P ds blK rest K (σ.put d v)
def gcV (rest:List Oper) (K:St→Prop) (σ:St) (d:Option Tmp) (f:Operand) (args:Array Operand) (b:Bool) (x:V):Prop:=match x with
 | .bool q => if q = b then gcK P ds blK rest K σ d (callV σ f args.toList) else HoistG P ds blK rest K (σ.put d (.tup []))
 | .tup [] => HoistG P ds blK rest K (σ.put d (.tup []))
 | _ => False
def gcS (rest:List Oper) (K:St→Prop) (σ:St) (d:Option Tmp) (f:Operand) (args:Array Operand) (b:Bool) (x:Option (Option Tmp)):Prop:=match x with
 | some (some t) => gcV P ds blK rest K σ d f args b (σ.ev (.tmp t))
 | _ => False
variable (rest : List Oper) (K : St → Prop) (σ : St) (d : Option Tmp) (f : Operand) (args : Array Operand) (ats : Array TypeId) (ty : TypeId) (pos : String) (af : Array Edge) (b : Bool)
@[simp] theorem Wg : HoistG P ds blK [] K σ = K σ := (rfl)
@[simp] theorem tY (j : Nat) : HoistG P ds blK (⟨d, .call ⟨.value f, args, ats⟩, ty, pos, af, some (j, b)⟩ :: rest) K σ = gcS P ds blK rest K σ d f args b (ds[j]?) := (rfl)
@[simp] theorem aDF (t : Tmp) : gcS P ds blK rest K σ d f args b (some (some t)) = gcV P ds blK rest K σ d f args b (σ.ev (.tmp t)) := (rfl)
@[simp] theorem aL9 : gcV P ds blK rest K σ d f args false (.bool false) = gcK P ds blK rest K σ d (callV σ f args.toList) := by simp [gcV]
@[simp] theorem aLH : gcV P ds blK rest K σ d f args false (.bool true) = HoistG P ds blK rest K (σ.put d (.tup [])) := by simp [gcV]
@[simp] theorem aB9 : gcV P ds blK rest K σ d f args b (.tup []) = HoistG P ds blK rest K (σ.put d (.tup [])) := (rfl)
theorem cU {o:Oper} (h:isGC o=false):HoistG P ds blK (o::rest) K σ=HoistF P ds blK [o] (HoistG P ds blK rest K) σ:=by
 obtain⟨d,op,ty,pos,af,gd⟩:=o
 unfold HoistG
 split
 ·rename_i heq
  cases heq
  cases h
 ·rfl
end
section
variable (P : Program) (ds : List (Option Tmp)) (blK : Int → Option Blk) (rest : List Oper) (K : St → Prop) (σ : St) (d : Option Tmp) (ty : TypeId) (pos : String) (af : Array Edge) (g : Nat × Bool)
attribute [-simp] xV
@[simp high] theorem Ns : HoistF P ds blK [] K σ = K σ := (rfl)
theorem Fg (op:Op):isGC ⟨d,op,ty,pos,af,none⟩=false:=by
 unfold isGC
 split
 ·rename_i h;cases h
 ·rfl
@[simp] theorem Ps (op : Op) : HoistG P ds blK (⟨d, op, ty, pos, af, none⟩ :: rest) K σ = HoistF P ds blK [⟨d, op, ty, pos, af, none⟩] (HoistG P ds blK rest K) σ := cU _ _ _ _ _ _ (Fg _ _ _ _ _)
@[simp] theorem Ra (x : Operand) : HoistG P ds blK (⟨d, .move x, ty, pos, af, some g⟩ :: rest) K σ = HoistF P ds blK [⟨d, .move x, ty, pos, af, some g⟩] (HoistG P ds blK rest K) σ := cU _ _ _ _ _ _ rfl
@[simp] theorem Qf (c a b : Operand) : HoistG P ds blK (⟨d, .pick c a b, ty, pos, af, some g⟩ :: rest) K σ = HoistF P ds blK [⟨d, .pick c a b, ty, pos, af, some g⟩] (HoistG P ds blK rest K) σ := cU _ _ _ _ _ _ rfl
@[simp] theorem Qz (t : TypeId) (x : Operand) : HoistG P ds blK (⟨d, .load t x, ty, pos, af, some g⟩ :: rest) K σ = HoistF P ds blK [⟨d, .load t x, ty, pos, af, some g⟩] (HoistG P ds blK rest K) σ := cU _ _ _ _ _ _ rfl
@[simp] theorem Fq (x : Operand) : HoistG P ds blK (⟨d, .nilCheck x, ty, pos, af, some g⟩ :: rest) K σ = HoistF P ds blK [⟨d, .nilCheck x, ty, pos, af, some g⟩] (HoistG P ds blK rest K) σ := cU _ _ _ _ _ _ rfl
@[simp] theorem Mi (op : BinOp) (t : TypeId) (x y : Operand) (t2 : TypeId) : HoistG P ds blK (⟨d, .binOp op t x y t2, ty, pos, af, some g⟩ :: rest) K σ = HoistF P ds blK [⟨d, .binOp op t x y t2, ty, pos, af, some g⟩] (HoistG P ds blK rest K) σ := cU _ _ _ _ _ _ rfl
@[simp] theorem Dc (t : TypeId) (x : Operand) (i : Nat) : HoistG P ds blK (⟨d, .fieldAddr t x i, ty, pos, af, some g⟩ :: rest) K σ = HoistF P ds blK [⟨d, .fieldAddr t x i, ty, pos, af, some g⟩] (HoistG P ds blK rest K) σ := cU _ _ _ _ _ _ rfl
@[simp] theorem Fk (t : TypeId) (x i : Operand) : HoistG P ds blK (⟨d, .indexAddr t x i, ty, pos, af, some g⟩ :: rest) K σ = HoistF P ds blK [⟨d, .indexAddr t x i, ty, pos, af, some g⟩] (HoistG P ds blK rest K) σ := cU _ _ _ _ _ _ rfl
end
theorem K4 {P:Program} {ds:List (Option Tmp)} {blK:Int→Option Blk} {rest:List Oper} {K:St→Prop} {σ:St} {d:Option Tmp} {f:FuncId} {xs:List V} {v:V} (h:RO P f xs v) (hK:HoistG P ds blK rest K (σ.put d v)):gcK P ds blK rest K σ d (some (f,xs)):=
 ⟨_,rfl,v,h,hK⟩
theorem A4 {o:Oper} (h:isGC o=true): ∃d f args ats ty pos af j b,o=⟨d,.call ⟨.value f,args,ats⟩,ty,pos,af,some (j,b)⟩:=by
 unfold isGC at h
 split at h
 ·rename_i d f args ats ty pos af jb
  obtain⟨j,b⟩:=jb
  exact⟨_,_,_,_,_,_,_,_,_,rfl⟩
 ·cases h
theorem V7 {P:Program} {ds:List (Option Tmp)} {blK:Int→Option Blk} {K:St→Prop} {σ:St} {ops:Array Oper} {o:Oper} (hd:ds=ops.toList.map (·.dst)) (h:HoistF P ds blK [o] K σ) {k:Nat} (h0:ops[k]? =some o): ∃v,DY P ops blK o σ v∧K (σ.put o.dst v):=by
 have:=kF (P:=P) (ops:=ops) (blK:=blK) (K:=K) [o] [k] σ (by simp[h0]) (by rw[←hd];exact h)
 unfold Hoist at this
 rw[h0] at this
 exact this
theorem D4 {P:Program} {ops:Array Oper} {blK:Int→Option Blk} {K:St→Prop} : ∀(l:List Oper) (k:Nat) (σ:St),(∀j,l[j]? =ops[k+j]?)→HoistG P (ops.toList.map (·.dst)) blK l K σ→Hoist P ops blK (List.range' k l.length) K σ
 | [], k, σ, _, h => h
 | o :: rest, k, σ, hl, h => by
   have h0:ops[k]? =some o:=by simpa using (hl 0).symm
   have ih:=fun σ' (h':HoistG P (ops.toList.map (·.dst)) blK rest K σ')=>D4 rest (k+1) σ' (fun j=>by have:=hl (j+1);simpa [Nat.add_assoc,Nat.add_comm 1 j] using this) h'
   have hds: ∀(j:Nat) d,(ops.toList.map (·.dst))[j]? =some (some d)→(ops[j]?).bind (·.dst)=some d:=by
    intro j d hd
    rw[List.getElem?_map,Array.getElem?_toList] at hd
    rcases h:ops[j]? with _ | o
    ·rw[h] at hd;cases hd
    ·rw[h] at hd;simpa using hd
   show Hoist P ops blK (k::List.range' (k+1) rest.length) K σ
   unfold Hoist
   rw[h0]
   simp only
   cases hgc:isGC o with
   | false=>
     rw[cU _ _ _ _ _ _ hgc] at h
     obtain⟨v,h1,h2⟩:=V7 rfl h h0
     exact⟨v,h1,ih _ h2⟩
   | true=>
     obtain⟨d,f,args,ats,ty,pos,af,j,b,rfl⟩:=A4 hgc
     rw[tY] at h
     unfold DY
     simp only
     unfold gcS at h
     split at h
     ·rename_i t hd
      rw[hds j t hd]
      simp only
      unfold gcV at h
      split at h
      ·rename_i q hq
       rw[hq]
       split at h
       ·rename_i hqb
        obtain⟨p,hp,v,h1,h2⟩:=h
        exact⟨v,⟨fun _=> .inr ⟨_,f,p,0,[],rfl,rfl,hp,.inr (Py h1)⟩,fun hh=>by subst hqb;cases q<;>cases hh⟩,ih _ h2⟩
       ·rename_i hqb
        exact⟨.tup [],⟨fun hh=>absurd hh hqb,fun _=>rfl⟩,ih _ h⟩
      ·rename_i hq
       rw[hq]
       exact⟨.tup [],rfl,ih _ h⟩
      ·exact h.elim
     ·exact h.elim
theorem rK {P:Program} {ds:List (Option Tmp)} {blK:Int→Option Blk} {K:St→Prop} (S:List (Option Tmp)) (σ0:St): ∀(l:List Oper) (σ:St),HoistG P ds blK l K σ→(∀o,o∈l→o.dst∈S)→(σ.n=σ0.n∧ ∀t,some t∉S→σ.sl t=σ0.sl t)→
  HoistG P ds blK l (fun σ'=>K σ'∧σ'.n=σ0.n∧ ∀t,some t∉S→σ'.sl t=σ0.sl t) σ
 | [], σ, h, _, h0 => ⟨h, h0⟩
 | o :: rest, σ, h, hS, h0 => by
   have cW: ∀v,(σ.put o.dst v).n=σ0.n∧ ∀t,some t∉S→(σ.put o.dst v).sl t=σ0.sl t:=fun v=>by
    have hd:=hS o List.mem_cons_self
    cases hod:o.dst with
    | none => exact h0
    | some d =>
      rw[hod] at hd
      exact⟨h0.1,fun t ht=>by
       show upd σ.sl d v t=_
       rw[aG _ _ _ _ (fun e=>ht (by rw[e];exact hd))];exact h0.2 t ht⟩
   have next: ∀σ',HoistG P ds blK rest K σ'→(σ'.n=σ0.n∧ ∀t,some t∉S→σ'.sl t=σ0.sl t)→HoistG P ds blK rest (fun σ'=>K σ'∧σ'.n=σ0.n∧ ∀t,some t∉S→σ'.sl t=σ0.sl t) σ':=fun σ' hv hk=>
    rK S σ0 rest _ hv (fun o' ho'=>hS o' (List.mem_cons_of_mem _ ho')) hk
   cases hgc:isGC o with
   | false=>
     rw[cU _ _ _ _ _ _ hgc] at h ⊢
     have:=mE S σ0 [o] σ h (fun o' ho'=>hS o' (by rw[List.mem_singleton.1 ho'];exact List.mem_cons_self)) h0
     revert this
     have mono: ∀(K1 K2:St→Prop),(∀σ',K1 σ'→K2 σ')→HoistF P ds blK [o] K1 σ→HoistF P ds blK [o] K2 σ:=by
      intro K1 K2 hK hh
      unfold HoistF at hh ⊢
      cases hg:o.guard with
      | none =>
        simp only[hg] at hh ⊢
        split at hh
        ·obtain⟨p,h1,v,n,ys,h2,h3⟩:=hh
         exact⟨p,h1,v,n,ys,h2,hK _ h3⟩
        ·obtain⟨v,h1,h2⟩:=hh
         exact⟨v,h1,hK _ h2⟩
      | some jb =>
        obtain⟨j,b⟩:=jb
        simp only[hg] at hh ⊢
        split at hh
        ·split at hh
         ·split at hh
          ·rename_i hq
           obtain⟨v,h1,h2⟩:=hh
           rw[if_pos hq]
           exact⟨v,h1,hK _ h2⟩
          ·rename_i hq
           rw[if_neg hq]
           exact hK _ hh
         ·exact hK _ hh
         ·exact hh.elim
        ·exact hh.elim
     exact mono _ _ fun σ' hk=>next σ' hk.1 hk.2
   | true=>
     obtain⟨d,f,args,ats,ty,pos,af,j,b,rfl⟩:=A4 hgc
     rw[tY] at h ⊢
     unfold gcS at h ⊢
     split at h
     ·unfold gcV at h ⊢
      split at h
      ·split at h
       ·rename_i hq
        obtain⟨p,hp,v,h1,h2⟩:=h
        rw[if_pos hq]
        exact⟨p,hp,v,h1,next _ h2 (cW v)⟩
       ·rename_i hq
        rw[if_neg hq]
        exact next _ h (cW _)
      ·exact next _ h (cW _)
      ·exact h.elim
     ·exact h.elim
theorem Jj {P:Program} {id:Nat} {ops:Array Oper} {K:Ex→St→Prop} {σ:St} (hm:P.follows .mixedOrders=true) (hB:yG ops=true) (l:List (Nat×V)) (n:Nat) (bl:Int→Option Blk) (t:Nat) (v:V) (hf:Fit l n bl σ) (hd:(l.all fun p=> !(ops.toList.map (·.dst)).contains (some p.1))=true)
  (h1:HoistG P (ops.toList.map (·.dst)) bl ops.toList (fun σ'=>σ'.sl t=v∧σ'.bl=bl) ⟨n,hv l,bl⟩) (h2:K .normal ⟨n,hv ((t,v)::l),bl⟩):AW P (.region id ops true) K σ:=by
 refine dI l n bl hf ?_
 have hq:AW P (.region id ops true) (fun e σ'=>e= .normal∧(σ'.sl t=v∧σ'.bl=bl)∧σ'.n=n∧ ∀u,some u∉ops.toList.map (·.dst)→σ'.sl u=hv l u) ⟨n,hv l,bl⟩:=by
  have hB2:=hB
  simp only[yG,Bool.and_eq_true,List.isEmpty_iff] at hB2
  refine pQ hm hB2.1 hB2.2 ?_
  have:=rK (ops.toList.map (·.dst)) ⟨n,hv l,bl⟩ ops.toList ⟨n,hv l,bl⟩ h1 (fun o ho=>List.mem_map_of_mem ho) ⟨rfl,fun _ _=>rfl⟩
  have:=D4 ops.toList 0 ⟨n,hv l,bl⟩ (fun j=>by simp) this
  rw[List.range_eq_range',←Array.length_toList]
  simpa using this
 intro w0 M F a w hs
 refine wp_mono (hq w0 M F a w hs) fun e a' w' hp=> ?_
 obtain⟨ex,σ',F',e1,e2,e3,rfl,⟨k1,k2⟩,k3,k4⟩:=hp
 refine⟨.normal,⟨n,hv ((t,v)::l),bl⟩,F',e1,e2,e3.le ?_,h2⟩
 refine D0 ⟨k3,fun p hp=> ?_,by rw[k2];exact Sub.refl _⟩
 rcases List.mem_cons.1 hp with rfl | hp
 ·exact k1
 ·have:=List.all_eq_true.1 hd p hp
  have h5:some p.1∉ops.toList.map (·.dst):=by
   intro hc
   rw[Bool.not_eq_true'] at this
   have h6:=List.contains_iff_mem.2 hc
   rw[this] at h6;cases h6
  rw[k4 _ h5,Bn l hf.2.1 p hp,hf.2.1 p hp]
end Go.Proofs.YticmgmemnpcbbaaGreat.Vm

namespace Go.Proofs.YticmgmemnpcbbaaGreat.Vm
open Go Go.RowKit Go.Proofs
set_option linter.unusedSimpArgs false
set_option linter.unusedVariables false
attribute [-simp] xV
def kS (Z:Nat→Nat→Rat) (n j i:Nat):Rat:=Z i n / Z i j
def lvQ (Z:Nat→Nat→Rat) (n j:Nat) (bs:Nat→Nat):Nat→Option Nat
 | 0 => none
 | i + 1 => if 0 < Z i j then match lvQ Z n j bs i with
   | none=>some i
   | some b=>if kS Z n j i<kS Z n j b∨kS Z n j i=kS Z n j b∧bs i<bs b then some i else some b
   else lvQ Z n j bs i
theorem tE {Z:Nat→Nat→Rat} {n j:Nat} {bs:Nat→Nat} : ∀ {i p:Nat},lvQ Z n j bs i=some p→p<i∧0<Z p j
 | 0, p, h => by cases h
 | i + 1, p, h => by
   rw[lvQ] at h
   split at h
   ·rename_i hp
    split at h
    ·cases h;exact⟨by omega,hp⟩
    ·rename_i b hb
     have:=tE hb
     split at h
     ·cases h;exact⟨by omega,hp⟩
     ·cases h;exact⟨by omega,this.2⟩
   ·have:=tE h
    exact⟨by omega,this.2⟩
theorem C8 {m b:Nat} {E:Nat→Nat→Rat} {T:Lp.Tab} {rows:List Nat} {t:SN} (h:View m b E T rows t) {j:Nat} (hj:j<t.n): ∀i,i≤rows.length→
  Lp.leave T b j (rows.take i)=(lvQ t.Z t.n j t.bs i).map fun p=>atR rows p
 | 0, _ => by simp [lvQ, Lp.leave]
 | i + 1, hi => by
   have hlt:i<rows.length:=by omega
   have hlr:i<t.r:=by rw[h.len];exact hlt
   have ih:=C8 h hj i (by omega)
   have e:rows.take (i+1)=rows.take i++ [atR rows i]:=by
    unfold atR;rw[List.take_add_one,List.getElem?_eq_getElem hlt,List.getD_eq_getElem?_getD,List.getElem?_eq_getElem hlt];rfl
   rw[e,Lp.qO,ih,lvQ]
   unfold Lp.lvStep
   rw[←h.z i j hlr hj]
   by_cases hp:0<t.Z i j
   ·rw[if_pos hp,if_pos hp]
    cases hb:lvQ t.Z t.n j t.bs i with
    | none => rfl
    | some q =>
      simp only[Option.map_some]
      have hq:=(tE hb).1
      have hqr:q<t.r:=by omega
      have e1: ∀p,p<t.r→Lp.quo T b j (atR rows p)=kS t.Z t.n j p:=fun p hp=>by
       unfold Lp.quo kS
       rw[h.z p j hp hj,h.zb p hp]
      rw[e1 i hlr,e1 q hqr,←h.bs i hlr,←h.bs q hqr]
      split<;>rfl
   ·rw[if_neg hp,if_neg hp]
theorem Oe {a b:Rat} (h:a<b):zQ a b= -1:=by
 have:=(Io a b).1 h
 unfold zQ gG;rw[if_pos this]
theorem Mn (a:Rat):zQ a a=0:=by
 unfold zQ gG;rw[if_neg (by omega),if_pos rfl]
theorem Mt {a b:Rat} (h:b<a):zQ a b=1:=by
 have:=(Io b a).1 h
 unfold zQ gG;rw[if_neg (by omega),if_neg (by omega)]
def Lb (Z:Nat→Nat→Rat) (n j:Nat):Option Nat→List V
 | none => [.bool false, .nils, .nils]
 | some b => (ro (some (kS Z n j b))).c
theorem N4 {m b:Nat} {E:Nat→Nat→Rat} {T:Lp.Tab} {rows:List Nat} {t:SN} (h:View m b E T rows t) (j:Nat) (hjn:j<t.n):
  RO Tryz.prog 249 [.ptr t.c,.int .i64 j] (.int .i64 (oI (lvQ t.Z t.n j t.bs t.r))):=by
 have hnl:=h.nl
 have hrl:=h.rl
 have hw1:=h.nw
 have htm:=h.tm.z
 clear h
 obtain⟨R,w,n,Z,co,bs⟩:=t
 simp only at hjn hnl hrl hw1 htm
 subst hw1
 have l3: ∀q:Rat,(rq q).c.length=3:=fun _=>rfl
 have t3: ∀q:Rat,(rq q).c.take 3=(rq q).c:=fun _=>rfl
 obtain⟨w,hw⟩: ∃w,n+1=w:=⟨_,rfl⟩
 rw[hw] at htm
 refine aJ Tryz.func249 rfl rfl (by rw[Tryz.ntmps249];simp) fun bl=> ?_
 rw[Tryz.ntmps249,Tryz.results249]
 refine aC ?_
 simp[SN.c,hw]
 intro g6 hg6 hb6
 refine aI (fun i:Nat=> [(0,.ptr [.int .i64 n,.sl (rrs R w Z),.sl (iv (lb R bs)),.sl (rqs w co)]),(1,.int .i64 j),(5,.int .i64 (oI (lvQ Z n j bs i))),(6,.loc g6 3 0 0),(14,.sl (rrs R w Z)),(15,.int .i64 R),(16,.int .i64 i)]) (fun i=>upd bl g6 (some ⟨3,[Lb Z n j (lvQ Z n j bs i)]⟩)) (fun i=>i≤R) (fun i=>R - i) _ 0 (Nat.zero_le _) ⟨rfl,by simp[lvQ,oI],sub_eq (by simp[lvQ,Lb])⟩ ?_
 intro i hi
 have wi:IntKind.i64.wrap ((i:Int)+1)=(i:Int)+1:=i64_in (by omega) (by omega)
 refine aD ?_
 simp
 refine aD ?_
 simp
 refine⟨fun hiR=> ?_,fun hiR=> ?_⟩
 ·have Dl:(i:Int)<R:=by omega
  have hjw:j<w:=by omega
  have qP:(j:Int)<w:=by omega
  have hnw:n<w:=by omega
  have aMP:(n:Int)<w:=by omega
  have wn:IntKind.i64.wrap ((w:Int) - 1)=(n:Int):=by rw[i64_in (by omega) (by omega)];omega
  have fj:=bU (htm i j hiR hjw)
  have fn:=bU (htm i n hiR hnw)
  refine aM (aR ?_)
  refine aD ?_
  simp[hiR,Dl]
  refine aM ?_
  refine aC ?_
  simp[hjw,qP,l3,t3]
  refine aE (fQ fj) ?_
  simp
  have aC0:(0<Z i j) ↔ 0<(Z i j).num:=Lp.Ca.symm
  refine⟨fun hle=> ?_,fun hgt=> ?_⟩
  ·have hlv:lvQ Z n j bs (i+1)=lvQ Z n j bs i:=by
    rw[lvQ,if_neg (by rw[aC0];omega)]
   refine aC ?_
   simp[wi,aB]
   refine⟨i+1,by omega,by omega,rfl,by simp[hlv],sub_eq (by simp[hlv])⟩
  have lY:0<Z i j:=aC0.2 (by omega)
  have hz0:Z i j≠0:=fun e=>by rw[e] at lY;exact absurd lY (by decide)
  have hfq:fits (kS Z n j i):=rH (htm i n hiR hnw) (htm i j hiR hjw) hz0
  have lD:=B9 (Z i n) (Z i j) fn fj hz0
  rw[show fit (Z i n / Z i j)=some (kS Z n j i) from by have:fits (Z i n / Z i j):=hfq;simp[fit,this,kS]] at lD
  obtain⟨B,hB⟩: ∃B,upd bl g6 (some ⟨3,[Lb Z n j (lvQ Z n j bs i)]⟩)=B:=⟨_,rfl⟩
  have hB6:B g6=some ⟨3,[Lb Z n j (lvQ Z n j bs i)]⟩:=by rw[←hB];simp
  rw[hB]
  refine aM ?_
  refine nJ aN [0,1,2,3,4,5,6,7,8,9,10] 2 (by kernel_rfl) ?_
  simp[hjw,qP,hnw,aMP,l3,t3,wn]
  refine aP lD ?_
  simp
  refine Dz 11 ?_
  simp
  intro g9 hg9 hb9
  have n96: ¬ g9=g6:=fun e=>by rw[e,hB6] at hb9;cases hb9
  refine⟨by simp[hb9],Dz 12 ?_⟩
  simp[RT.c]
  refine⟨by simp[hb9],Dy ?_⟩
  simp
  refine cE 1 9 (.ptr (ro (some (kS Z n j i))).c) B (by intro z b hz;simp only[aA] at hz ⊢;grind) (by simp[frz,dropB,hb9,V.cl,RT.c]) ?_
  refine dI [(0,.ptr [.int .i64 n,.sl (rrs R w Z),.sl (iv (lb R bs)),.sl (rqs w co)]),(1,.int .i64 j),(5,.int .i64 (oI (lvQ Z n j bs i))),(6,.loc g6 3 0 0),(14,.sl (rrs R w Z)),(15,.int .i64 R),(16,.int .i64 i),(7,.int .i64 i),(9,.ptr (ro (some (kS Z n j i))).c)] 73 B ⟨rfl,by simp,Sub.refl _⟩ ?_
  cases hlv:lvQ Z n j bs i with
  | none =>
    have hnx:lvQ Z n j bs (i+1)=some i:=by rw[lvQ,if_pos lY,hlv]
    rw[hlv] at hB6
    refine aM ?_
    refine sE aN (by kernel_rfl) [(0,.ptr [.int .i64 n,.sl (rrs R w Z),.sl (iv (lb R bs)),.sl (rqs w co)]),(1,.int .i64 j),(5,.int .i64 (-1)),(6,.loc g6 3 0 0),(14,.sl (rrs R w Z)),(15,.int .i64 R),(16,.int .i64 i),(7,.int .i64 i),(9,.ptr (ro (some (kS Z n j i))).c)] _ B 68 (.bool true) ⟨rfl,by simp[oI],Sub.refl _⟩ rfl ?_ ?_
    ·simp
    simp
    refine aC ?_
    simp[hB6,Lb,RT.c,l3,t3]
    refine aC ?_
    simp[wi,aB]
    refine⟨i+1,by omega,by omega,rfl,by simp[hnx,oI],?_⟩
    simp only[hnx]
    rw[←hB]
    intro z y hz
    simp only[aA] at hz ⊢
    grind
  | some q =>
    obtain⟨hqi,hqp⟩:=tE hlv
    have hqR:q<R:=by omega
    have aL8:(q:Int)<R:=by omega
    have hq0:Z q j≠0:=fun e=>by rw[e] at hqp;exact absurd hqp (by decide)
    have hfl:fits (kS Z n j q):=rH (htm q n hqR hnw) (htm q j hqR hjw) hq0
    have I5:=Eb (kS Z n j i) (kS Z n j q) hfq hfl
    have hnx:lvQ Z n j bs (i+1)=if kS Z n j i<kS Z n j q∨kS Z n j i=kS Z n j q∧bs i<bs q then some i else some q:=by rw[lvQ,if_pos lY,hlv]
    rw[hlv] at hB6
    obtain⟨A,hA⟩: ∃A,kS Z n j i=A:=⟨_,rfl⟩
    obtain⟨L,hL⟩: ∃L,kS Z n j q=L:=⟨_,rfl⟩
    have Fe:B g6=some ⟨3,[(ro (some L)).c]⟩:=by rw[hB6,←hL];rfl
    rw[hA,hL] at I5 hnx
    rw[hA]
    refine aM ?_
    refine Jj aN (by kernel_rfl) [(0,.ptr [.int .i64 n,.sl (rrs R w Z),.sl (iv (lb R bs)),.sl (rqs w co)]),(1,.int .i64 j),(5,.int .i64 q),(6,.loc g6 3 0 0),(14,.sl (rrs R w Z)),(15,.int .i64 R),(16,.int .i64 i),(7,.int .i64 i),(9,.ptr (ro (some A)).c)] _ B 68 (.bool (decide (A<L∨A=L∧bs i<bs q))) ⟨rfl,by simp[oI],Sub.refl _⟩ rfl ?_ ?_
    ·have hq1: ¬ (q:Int)<0:=by omega
     rcases(show A<L∨A=L∨L<A by grind) with c | c | c
     ·rw[Oe c] at I5
      simp[hq1,Fe,l3,t3]
      refine K4 I5 ?_
      simp[c]
     ·subst c
      rw[Mn] at I5
      have c2: ¬ A<A:=by grind
      simp[hq1,Fe,l3,t3]
      refine K4 I5 ?_
      simp[c2,Fe,l3,t3]
      refine K4 I5 ?_
      simp[c2,hiR,Dl,hqR,aL8]
     ·rw[Mt c] at I5
      have c2: ¬ A<L:=by grind
      have c3: ¬ A=L:=by grind
      simp[hq1,Fe,l3,t3]
      refine K4 I5 ?_
      simp[c2,c3,Fe,l3,t3]
      refine K4 I5 ?_
      simp[c2,c3]
    by_cases hc:A<L∨A=L∧bs i<bs q
    ·rw[if_pos hc] at hnx
     simp[hc]
     refine aC ?_
     simp[Fe,RT.c,l3,t3]
     refine aC ?_
     simp[wi,aB]
     refine⟨i+1,by omega,by omega,rfl,by simp[hnx,oI],?_⟩
     simp only[hnx]
     rw[←hA,←hB]
     intro z y hz
     simp only[aA] at hz ⊢
     by_cases e:z=g6
     ·rw[if_pos e] at hz ⊢;exact hz
     ·rw[if_neg e] at hz ⊢;rw[if_neg e];exact hz
    ·rw[if_neg hc] at hnx
     simp[hc]
     refine aC ?_
     simp
     refine aC ?_
     simp[wi,aB]
     refine⟨i+1,by omega,by omega,rfl,by simp[hnx,oI],?_⟩
     simp only[hnx]
     rw[←hB,hlv]
     exact Sub.refl _
 ·have hie:i=R:=by omega
  subst hie
  exact aK [.int .i64 (oI (lvQ Z n j bs i))] 0 (by simp) (by simp[frz]) (by simp[hb6])
end Go.Proofs.YticmgmemnpcbbaaGreat.Vm

namespace Go.Proofs.YticmgmemnpcbbaaGreat.Vm
open Go Go.RowKit Go.Proofs
set_option linter.unusedSimpArgs false
set_option linter.unusedVariables false
def snV (rows:List Nat) (n b m:Nat) (w0:Nat→Rat) (T:Lp.Tab):SN:=⟨rows.length,n+1,n,fun p c=>T.X (atR rows p) (if c<n then c else b),fun c=>Lp.rc m w0 T (if c<n then c else b),fun p=>T.bs (atR rows p)⟩
theorem SS.congr {b:Int→Option Blk} {g:SG} {r w n:Nat} {Z Z':Nat→Nat→Rat} {co co':Nat→Rat} {bs bs':Nat→Nat} (h:SS b g ⟨r,w,n,Z,co,bs⟩) (hZ: ∀p c,p<r→c<w→Z p c=Z' p c) (hc: ∀c,c<w→co c=co' c) (hb: ∀p,p<r→bs p=bs' p):SS b g ⟨r,w,n,Z',co',bs'⟩:=by
 have hlb:lb r bs=lb r bs':=List.map_congr_left fun p hp=>by rw[hb p (by simpa using hp)]
 refine⟨h.len,h.top,fun i x hi=> ?_,h.pos,h.hd,?_,?_,h.pT,h.pR,h.pB,h.pC,h.nd⟩
 ·have hlt:i<r:=by have:=h.len;simp only at this;rw[←this];exact(List.getElem?_eq_some_iff.1 hi).1
  rw[h.row i x hi]
  simp only
  rw[bI fun c hc2=>hZ i c hlt hc2]
 ·have:=h.ba
  simp only at this ⊢
  rw[this,hlb]
 ·have:=h.cst
  simp only at this ⊢
  rw[this,bI hc]
structure Hn (n0 m n : Nat) (E : Nat → Nat → Rat) (rows : List Nat) (deep : Bool) (w0 : Nat → Rat) (ok : Lp.Tab → Nat → Prop) : Prop where
 ml:m≤17
 nl:n0+m≤100
 nn:n≤n0+m
 rr:Rows m rows
 dead: ∀T,mJ n0 m E rows T→ ∀i,i<m→i∉rows→n≤T.bs i
 wt: ∀c,c<n0+m+1→Lp.isInt (w0 c)∧ -((1000:Nat):Rat)≤w0 c∧w0 c≤((1000:Nat):Rat)
 bas: ∀T,mJ n0 m E rows T→ ∀j,j<n→basic rows.length (fun p=>T.bs (atR rows p)) j→ ¬ ok T j
theorem Hn.view {n0 m n:Nat} {E:Nat→Nat→Rat} {rows:List Nat} {deep:Bool} {w0:Nat→Rat} {ok:Lp.Tab→Nat→Prop} (h:Hn n0 m n E rows deep w0 ok) {T:Lp.Tab} (hI:mJ n0 m E rows T):View m (n0+m) E T rows (snV rows n (n0+m) m w0 T):=by
 have hl:=h.rr.len
 have hml:=h.ml
 have hnl:=h.nl
 have hnn:=h.nn
 refine⟨hI.z.ti,h.rr,rfl,fun _ _=>rfl,?_,?_,rfl,?_,h.dead T hI,fun p j _ hj=> ?_,fun p _=> ?_,⟨fun i c hi hc=> ?_,fun c hc=> ?_,?_,?_⟩⟩
 ·show n≤100;omega
 ·show rows.length≤100;omega
 ·show n+1≤200;omega
 ·show T.X _ (if j<n then j else n0+m)=_
  rw[if_pos (show j<n from hj)]
 ·show T.X _ (if n<n then n else n0+m)=_
  rw[if_neg (by omega)]
 ·have hi':i<rows.length:=hi
  have hin:=h.rr.lt (cH hi')
  exact Lp.jD (hI.z.sm (c:=if c<n then c else n0+m) hin (by split<;>omega)) (qT hml)
 ·exact Lp.jD (hI.z.rc h.wt (c:=if c<n then c else n0+m) (by split<;>omega) (by decide)) (sD hml)
 ·show n+1≤200;omega
 ·show rows.length≤100;omega
theorem Bd {n0 m n:Nat} {rows:List Nat} {w0:Nat→Rat} {T:Lp.Tab} (hr:Rows m rows) {pr k:Nat} (hp:pr<rows.length) (hk:k<n) (h0:T.X (atR rows pr) k≠0):
  (∀p c,p<rows.length→zpv (snV rows n (n0+m) m w0 T).Z pr k p c=(snV rows n (n0+m) m w0 (Lp.piv T (atR rows pr) k)).Z p c)∧
  (∀c,cpv (snV rows n (n0+m) m w0 T).Z (snV rows n (n0+m) m w0 T).co pr k c=(snV rows n (n0+m) m w0 (Lp.piv T (atR rows pr) k)).co c)∧
  (∀p,p<rows.length→pvS (snV rows n (n0+m) m w0 T).bs pr k p=(snV rows n (n0+m) m w0 (Lp.piv T (atR rows pr) k)).bs p):=by
 refine⟨fun p c hpl=> ?_,fun c=> ?_,fun p hpl=> ?_⟩
 ·unfold zpv snV
  simp only
  rw[if_pos hk]
  by_cases e:p=pr
  ·subst e;rw[if_pos rfl,Lp.pU]
  ·rw[if_neg e,Lp.mB T k _ fun e2=>e (hr.inj hpl hp e2)]
 ·unfold cpv snV
  simp only
  rw[if_pos hk,Lp.Hb w0 T (hr.lt (cH hp)) h0]
 ·unfold pvS snV
  simp only
  by_cases e:p=pr
  ·subst e;rw[if_pos rfl,Lp.dD]
  ·rw[if_neg e,Lp.cI T k fun e2=>e (hr.inj hpl hp e2)]
structure aBG where
 e:Nat
 b:Int→Option Blk
structure aB0 where
 j:Nat
 en:Int
theorem l10Run_cp {bl:Int→Option Blk} {K:V→(Int→Option Blk)→Prop} {n0 m n:Nat} {E:Nat→Nat→Rat} {rows:List Nat} {deep:Bool} {w0:Nat→Rat} {ok:Lp.Tab→Nat→Prop} (h:Hn n0 m n E rows deep w0 ok) (g:SG) (T:Lp.Tab) (e:Nat)
  (hsg: ∀T,mJ n0 m E rows T→ ∀j,j<n→ ¬ basic rows.length (fun p=>T.bs (atR rows p)) j→ ∃s:Int,(0<s ↔ ok T j)∧RO Tryz.prog 248 [.ptr (snV rows n (n0+m) m w0 T).c,.int .i64 j,.bool deep] (.int .i64 s))
  (h1:Lp.nx n (n0+m) rows ok (Lp.orb (Lp.nx n (n0+m) rows ok) T e)=none)
  (h2: ∀e',e'<e→(Lp.nx n (n0+m) rows ok (Lp.orb (Lp.nx n (n0+m) rows ok) T e')).isSome=true)
  (hI: ∀e',e'≤e→mJ n0 m E rows (Lp.orb (Lp.nx n (n0+m) rows ok) T e'))
  (hS:SS bl g (snV rows n (n0+m) m w0 T))
  (hT: ∀b',Lp.fstP (ok (Lp.orb (Lp.nx n (n0+m) rows ok) T e)) n=none→SS b' g (snV rows n (n0+m) m w0 (Lp.orb (Lp.nx n (n0+m) rows ok) T e))→(∀x y,bl x=some y→x∉g.all→b' x=some y)→K (.bool true) b')
  (hF: ∀b' k,Lp.fstP (ok (Lp.orb (Lp.nx n (n0+m) rows ok) T e)) n=some k→Lp.leave (Lp.orb (Lp.nx n (n0+m) rows ok) T e) (n0+m) k rows=none→(∀x y,bl x=some y→x∉g.all→b' x=some y)→K (.bool false) b'):
  cO Tryz.prog 190 [.loc g.T 4 0 0,.bool deep] bl K:=by
 obtain⟨nxf,hnx⟩: ∃f,Lp.nx n (n0+m) rows ok=f:=⟨_,rfl⟩
 rw[hnx] at h1 h2 hI hT hF
 have hml:=h.ml
 have hnl:=h.nl
 have hnn:=h.nn
 have hrl:=h.rr.len
 refine cV Tryz.func190 rfl rfl (by rw[Tryz.ntmps190];simp) ?_
 rw[Tryz.ntmps190,Tryz.results190]
 refine aC ?_
 simp
 refine aI (fun q:aBG=> [(0,.loc g.T 4 0 0),(1,.bool deep)]) (fun q=>q.b) (fun q=>q.e≤e∧SS q.b g (snV rows n (n0+m) m w0 (Lp.orb nxf T q.e))∧ ∀x y,bl x=some y→x∉g.all→q.b x=some y) (fun q=>e - q.e) _ ⟨0,bl⟩ ⟨Nat.zero_le _,hS,fun _ _ hx _=>hx⟩ ⟨rfl,by simp,Sub.refl _⟩ ?_
 rintro⟨q,b⟩ ⟨hq,hSb,hfb⟩
 simp only at hq hSb hfb
 obtain⟨U,hU⟩: ∃U,Lp.orb nxf T q=U:=⟨_,rfl⟩
 have hIU:=hI q hq
 rw[hU] at hSb hIU
 have hV:=h.view hIU
 have z4:frz b 4 (.loc g.T 4 0 0)=some (.ptr (snV rows n (n0+m) m w0 U).c):=hSb.frz 0
 have bT:b g.T=_:=hSb.hd
 simp only[snV] at bT
 refine aR ?_
 refine aD ?_
 simp
 refine aM ?_
 refine aC ?_
 simp
 refine aI (fun s:aB0=> [(0,.loc g.T 4 0 0),(1,.bool deep),(5,.int .i64 s.en),(6,.int .i64 s.j)]) (fun _=>b) (fun s=>s.j≤n∧((s.en= -1∧ ∀k,k<s.j→ ¬ ok U k)∨ ∃k:Nat,s.en=k∧Lp.fstP (ok U) n=some k)) (fun s=>n - s.j) _ ⟨0, -1⟩ ⟨Nat.zero_le _,.inl ⟨rfl,fun k hk=>by simp only at hk;omega⟩⟩ ⟨rfl,by simp,Sub.refl _⟩ ?_
 rintro⟨j,en⟩ ⟨hj,hen⟩
 simp only at hj hen
 have wj:IntKind.i64.wrap ((j:Int)+1)=(j:Int)+1:=i64_in (by omega) (by omega)
 refine aM (aM ?_)
 refine bP [(0,.loc g.T 4 0 0),(1,.bool deep),(5,.int .i64 en),(6,.int .i64 j)] _ b 17 (.bool (decide (j<n∧en<0))) ⟨rfl,by simp,Sub.refl _⟩ rfl ?_ ?_
 ·simp[bT]
  by_cases h0:j<n
  ·simp[h0]
   try (intro;omega)
  ·simp[h0]
 simp
 refine aC ?_
 simp
 refine⟨fun hjn cL=> ?_,fun hno=> ?_⟩
 ·have bO:en= -1∧ ∀k,k<j→ ¬ ok U k:=by
   rcases hen with g1 | ⟨k,g1,g2⟩
   ·exact g1
   ·omega
  obtain⟨rfl,bO⟩:=bO
  refine aM (aR ?_)
  refine aM ?_
  have hBs:=S8 (snV rows n (n0+m) m w0 U) j hV.rl
  by_cases hok:ok U j
  ·refine bP [(0,.loc g.T 4 0 0),(1,.bool deep),(5,.int .i64 (-1)),(6,.int .i64 j)] _ b 30 (.bool true) ⟨rfl,by simp,Sub.refl _⟩ rfl ?_ ?_
   ·have hnb: ¬ basic rows.length (fun p=>U.bs (atR rows p)) j:=fun hb=>h.bas U hIU j hjn hb hok
    obtain⟨s,hs1,hs2⟩:=hsg U hIU j hjn hnb
    rw[show decide (basic (snV rows n (n0+m) m w0 U).r (snV rows n (n0+m) m w0 U).bs j)=false from decide_eq_false hnb] at hBs
    simp
    refine bK 4 (ys:= [.ptr (snV rows n (n0+m) m w0 U).c,.int .i64 j]) (by simp[z4];simp[frz]) hBs rfl ?_
    simp
    refine bK 4 (ys:= [.ptr (snV rows n (n0+m) m w0 U).c,.int .i64 j,.bool deep]) (by simp[z4];simp[frz]) hs2 rfl ?_
    have aG6:0<s:=hs1.2 hok
    simp[aG6]
   simp
   refine aC ?_
   simp
   refine aC ?_
   simp[wj,aB]
   refine⟨⟨j+1,j⟩,⟨by simp only;omega,.inr ⟨j,rfl,Lp.dJ.2 ⟨hjn,hok,bO⟩⟩⟩,by simp only;omega,rfl,by simp,Sub.refl _⟩
  ·refine bP [(0,.loc g.T 4 0 0),(1,.bool deep),(5,.int .i64 (-1)),(6,.int .i64 j)] _ b 30 (.bool false) ⟨rfl,by simp,Sub.refl _⟩ rfl ?_ ?_
   ·simp
    by_cases hb:basic rows.length (fun p=>U.bs (atR rows p)) j
    ·rw[show decide (basic (snV rows n (n0+m) m w0 U).r (snV rows n (n0+m) m w0 U).bs j)=true from decide_eq_true hb] at hBs
     refine bK 4 (ys:= [.ptr (snV rows n (n0+m) m w0 U).c,.int .i64 j]) (by simp[z4];simp[frz]) hBs rfl ?_
     simp
    ·obtain⟨s,hs1,hs2⟩:=hsg U hIU j hjn hb
     rw[show decide (basic (snV rows n (n0+m) m w0 U).r (snV rows n (n0+m) m w0 U).bs j)=false from decide_eq_false hb] at hBs
     refine bK 4 (ys:= [.ptr (snV rows n (n0+m) m w0 U).c,.int .i64 j]) (by simp[z4];simp[frz]) hBs rfl ?_
     simp
     refine bK 4 (ys:= [.ptr (snV rows n (n0+m) m w0 U).c,.int .i64 j,.bool deep]) (by simp[z4];simp[frz]) hs2 rfl ?_
     have: ¬ 0<s:=fun e=>hok (hs1.1 e)
     simp
     omega
   simp
   refine aC ?_
   simp
   refine aC ?_
   simp[wj,aB]
   refine⟨⟨j+1, -1⟩,⟨by simp only;omega,.inl ⟨rfl,fun k hk=> ?_⟩⟩,by simp only;omega,rfl,by simp,Sub.refl _⟩
   by_cases e:k=j
   ·rw[e];exact hok
   ·exact bO k (by simp only at hk;omega)
 ·have hnU:nxf U=match Lp.fstP (ok U) n with | none=>none | some k=>match Lp.leave U (n0+m) k rows with | none=>none | some r=>some (r,k):=by rw[←hnx];rfl
  have hqe:nxf U=none→q=e:=fun hn=>by
   rcases Nat.lt_or_ge q e with g1 | g1
   ·have:=h2 q g1
    rw[hU,hn] at this;cases this
   ·omega
  refine aM ?_
  refine aC ?_
  simp
  rcases hen with ⟨rfl,bO⟩| ⟨k,rfl,hk⟩
  ·have hjn:j=n:=by
    rcases Nat.lt_or_ge j n with g1 | g1
    ·have:=hno g1;omega
    ·omega
   subst hjn
   have hf0:Lp.fstP (ok U) j=none:=Lp.fG.2 bO
   rw[hf0] at hnU
   have hq1:=hqe hnU
   subst hq1
   rw[hU] at hT
   simp
   rw[dQ]
   exact⟨[.bool true],by simp,hT b hf0 hSb hfb⟩
  ·obtain⟨hkn,aQE, -⟩:=Lp.dJ.1 hk
   rw[hk] at hnU
   simp only at hnU
   have hk1: ¬ (k:Int)<0:=by omega
   simp[hk1]
   have hlv:=C8 hV hkn rows.length (Nat.le_refl _)
   rw[List.take_length] at hlv
   have hLr:=N4 hV k hkn
   refine aD ?_
   simp
   refine bK 4 (ys:= [.ptr (snV rows n (n0+m) m w0 U).c,.int .i64 k]) (by simp[z4];simp[frz]) hLr rfl ?_
   simp
   cases hv:lvQ (snV rows n (n0+m) m w0 U).Z (snV rows n (n0+m) m w0 U).n k (snV rows n (n0+m) m w0 U).bs rows.length with
   | none =>
     have hv':lvQ (snV rows n (n0+m) m w0 U).Z (snV rows n (n0+m) m w0 U).n k (snV rows n (n0+m) m w0 U).bs (snV rows n (n0+m) m w0 U).r=none:=hv
     have hlv:Lp.leave U (n0+m) k rows=none:=hlv.trans (congrArg (Option.map fun p=>atR rows p) hv)
     rw[hlv] at hnU
     have hq1:=hqe hnU
     subst hq1
     rw[hU] at hF
     refine aM ?_
     refine aC ?_
     simp[hv',oI]
     rw[dQ]
     exact⟨[.bool false],by simp,hF b k hk hlv hfb⟩
   | some pr =>
     have hv':lvQ (snV rows n (n0+m) m w0 U).Z (snV rows n (n0+m) m w0 U).n k (snV rows n (n0+m) m w0 U).bs (snV rows n (n0+m) m w0 U).r=some pr:=hv
     have hlv:Lp.leave U (n0+m) k rows=some (atR rows pr):=hlv.trans (congrArg (Option.map fun p=>atR rows p) hv)
     rw[hlv] at hnU
     simp only at hnU
     have Um:=(tE hv).1
     have lY:(snV rows n (n0+m) m w0 U).Z pr k≠0:=fun e0=>by
      have:=(tE hv).2
      rw[e0] at this;exact absurd this (by decide)
     have hX:U.X (atR rows pr) k≠0:=by
      have:=hV.z pr k Um hkn
      rw[this] at lY;exact lY
     have aNP:q<e:=by
      rcases Nat.lt_or_ge q e with g1 | g1
      ·exact g1
      ·have:q=e:=by omega
       subst this
       rw[hU,hnU] at h1;cases h1
     have nD:Lp.orb nxf T (q+1)=Lp.piv U (atR rows pr) k:=by
      rw[Lp.orb,hU,hnU]
     have hV2:=h.view (T:=Lp.piv U (atR rows pr) k) (by have:=hI (q+1) aNP;rwa [nD] at this)
     obtain⟨p1,p2,p3⟩:=Bd (n0:=n0) (w0:=w0) h.rr Um hkn hX
     have aMZ: ¬ (pr:Int)<0:=by omega
     refine aM ?_
     refine aC ?_
     simp[hv',oI,aMZ]
     refine aC ?_
     simp
     refine tV g (snV rows n (n0+m) m w0 U) pr k hSb Um (show k<n+1 by omega) hV.tm lY ⟨fun i c hi hc=> ?_,fun c hc=> ?_,hV.tm.w,hV.tm.r⟩ fun b' hS' hx'=> ?_
     ·show mR (zpv _ pr k i c)
      rw[p1 i c hi];exact hV2.tm.z i c hi hc
     ·show mR (cpv _ _ pr k c)
      rw[p2 c];exact hV2.tm.co c hc
     simp[aB]
     refine⟨⟨q+1,b'⟩,⟨by simp only;omega,?_,fun x y g1 g2=>hx' x y (hfb x y g1 g2) g2⟩,by simp only;omega,rfl,by simp,Sub.refl _⟩
     simp only
     rw[nD]
     exact hS'.congr (fun p c hp _=>p1 p c hp) (fun c _=>p2 c) (fun p hp=>p3 p hp)

def wk :V→V
 | .nils => .sl []
 | x => x
theorem Wl {x:V} (h:x.one=true):(wk x).one=true:=by
 cases x<;>first | exact h | rfl
theorem We {F:Nat→Prop} {w:World} {x:V} {v:Value} (h:Rep F w x v):Rep F w (wk x) v:=by
 cases x with
 | nils => cases h; exact .sl0 none 0 (fun _ => rfl)
 | _ => exact h
theorem aDR {P:Program} {c:Code} {K:Ex→St→Prop} {σ:St} {g:Int} {s:Nat} {els:List (List V)} (hb:σ.bl g=some ⟨s,els⟩)
  (h:AW P c K ⟨σ.n,σ.sl,upd σ.bl g (some ⟨s,els.map fun e=>e.map wk⟩)⟩):AW P c K σ:=by
 intro w0 M F a w hs
 have hm:=hs.mem
 refine h w0 M F a w ⟨⟨hm.os,hm.tape,hm.output,hm.size,hm.frame,hm.iX,hm.fr,?_,fun x b hx h0=> ?_,fun x b hx=> ?_⟩,hs.size,hs.sl,hs.defers⟩
 ·obtain⟨n,hn⟩:=hm.fin
  refine⟨n,fun x hx=> ?_⟩
  have:=hn x hx
  show upd _ _ _ x=none
  by_cases hxg:x=g
  ·subst hxg;rw[hb] at this;cases this
  ·rw[aG _ _ _ _ hxg];exact this
 ·by_cases hxg:x=g
  ·subst hxg;exact hm.own x _ hb h0
  ·simp only at hx
   rw[aG _ _ _ _ hxg] at hx
   exact hm.own x b hx h0
 ·by_cases hxg:x=g
  ·subst hxg
   simp only at hx
   rw[aU] at hx
   cases hx
   have hB:=hm.blk x _ hb
   unfold cY at hB ⊢
   split at hB
   ·rename_i cL
    rw[if_pos cL];simp only at hB ⊢;rw[hB];rfl
   ·rename_i cL
    rw[if_neg cL]
    obtain⟨h1,cs,t,h2,h3,h4⟩:=hB
    refine⟨h1,cs,t,h2,by simpa using h3,fun k e he=> ?_⟩
    simp only[List.getElem?_map] at he
    cases he0:els[k]? with
    | none => rw [he0] at he; cases he
    | some e0 =>
      rw[he0] at he;cases he
      obtain⟨h5,h6⟩:=h4 k e0 he0
      refine⟨by simpa using h5,fun j y hy=> ?_⟩
      rw[List.getElem?_map] at hy
      cases hy0:e0[j]? with
      | none=>rw[hy0] at hy;cases hy
      | some y0=>
        rw[hy0] at hy;cases hy
        obtain⟨h7,v,h8,h9⟩:=h6 j y0 hy0
        exact⟨Wl h7,v,h8,We h9⟩
  ·simp only at hx
   rw[aG _ _ _ _ hxg] at hx
   exact hm.blk x b hx
theorem aM2 :biC 0= [.bool false,.sl []]:=by
 simp[bS,aW,iv]
theorem Mq (n:Nat):(List.replicate n [V.bool false,.nils]).map (fun e=>e.map wk)=zv n fun _=>0:=by
 rw[List.map_replicate]
 apply List.ext_getElem
 ·simp
 ·intro i h1 h2
  simp[zv,aM2,wk]
theorem Hu {N i:Nat} (f:Nat→Int) (v:Int) (h:i<N):(zv N f).set i (biC v)=zv N fun c=>if c=i then v else f c:=by
 apply List.ext_getElem
 ·simp
 ·intro j h1 h2
  rw[List.getElem_set,G5,G5]
  by_cases e:i=j
  ·rw[if_pos e,if_pos e.symm]
  ·rw[if_neg e,if_neg (Ne.symm e)]
theorem F7 (r:Nat) (bs:Nat→Nat):lb (r+1) bs=lb r bs++ [(bs r:Int)]:=by simp[lb,List.range_succ]
theorem TT.start {b:Int→Option Blk} {T R B F:Int} {t:TN} (hr:t.r=0) (hR:b R=some ⟨1,[]⟩) (hB:b B=some ⟨1,[]⟩) (hT:b T=some ⟨6,[[.lsl R 1 0 0,.bool (decide (t.d<0)),.sl (iv (lim t.d.natAbs)),.lsl B 1 0 0,.int .i64 t.n,.lsl F 1 0 t.n]]⟩)
  (hF:b F=some ⟨1,lv t.n t.fr⟩) (pT:0≤T) (pF:0≤F) (nd: [T,R,B,F].Nodup):TT b ⟨T,R,B,F,[]⟩ t:=
 ⟨⟨hr.symm,hR,fun i g h=>(by cases h),fun g h=>(by cases h),fun i j g h=>(by cases h),fun h=>(by cases h)⟩,by simp only[hr];exact hT,by simp only[hr];exact hB,hF,pT,fun _=>hr,fun _=>hr,pF,nd⟩
theorem TT.snoc {b b':Int→Option Blk} {g:TG} {t:TN} (h:TT b g t) (gN gM gr:Int) (hR:b' gN=some ⟨1,(g.ids++ [gr]).map fun g=> [.lsl g 2 0 (t.n+1)]⟩) (hB:b' gM=some ⟨1,iv (lb (t.r+1) t.bs)⟩)
  (hT:b' g.T=some ⟨6,[[.lsl gN 1 0 (t.r+1),.bool (decide (t.d<0)),.sl (iv (lim t.d.natAbs)),.lsl gM 1 0 (t.r+1),.int .i64 t.n,.lsl g.F 1 0 t.n]]⟩) (hF:b' g.F=b g.F) (hi: ∀x,x∈g.ids→b' x=b x)
  (hr:b' gr=some ⟨2,zv (t.n+1) (t.Z t.r)⟩) (h0:0≤gr) (hN:0≤gN) (hM:0≤gM) (nd:(g.T::gN::gM::g.F::(g.ids++ [gr])).Nodup):
  TT b' ⟨g.T,gN,gM,g.F,g.ids++ [gr]⟩ ⟨t.r+1,t.n,t.Z,t.d,t.bs,t.fr⟩:=by
 have hl:=h.fJ.len
 have key: ∀(i:Nat) (x:Int),(g.ids++ [gr])[i]? =some x→(i<t.r∧g.ids[i]? =some x)∨(i=t.r∧x=gr):=fun i x hx=>by
  by_cases e:i<t.r
  ·rw[List.getElem?_append_left (by omega)] at hx;exact .inl ⟨e,hx⟩
  ·rw[List.getElem?_append_right (by omega)] at hx
   have:i - g.ids.length=0:=by
    rcases Nat.eq_zero_or_pos (i - g.ids.length) with h | h
    ·exact h
    ·rw[List.getElem?_eq_none (by simp;omega)] at hx;cases hx
   rw[this] at hx;cases hx
   exact .inr ⟨by omega,rfl⟩
 have nd2:=nd
 simp only[List.nodup_cons,List.mem_cons,not_or] at nd2
 obtain⟨-,⟨-, -,nNi⟩, -, -,ndi⟩:=nd2
 have hgr:gr∉g.ids:=fun hm=>by
  rw[List.nodup_append] at ndi
  exact ndi.2.2 gr hm gr (by simp) rfl
 refine⟨⟨by simp[hl],hR,fun i x hx=> ?_,fun x hx=> ?_,fun i j x hx hy=> ?_,nNi⟩,hT,hB,?_,h.pT,fun hn=>absurd hn (by simp only;omega),fun hn=>absurd hn (by simp only;omega),h.pF,nd⟩
 ·rcases key i x hx with ⟨hlt,hx⟩| ⟨rfl,rfl⟩
  ·rw[hi x (List.mem_of_getElem? hx)];exact h.fJ.row i x hx
  ·exact hr
 ·rcases List.mem_append.1 hx with hx | hx
  ·exact h.fJ.pos x hx
  ·rw[List.mem_singleton.1 hx];exact h0
 ·rcases key i x hx with ⟨hlt,hx⟩| ⟨e1,e2⟩<;>rcases key j x hy with ⟨Sy,hy⟩| ⟨e3,e4⟩
  ·exact h.fJ.inj i j x hx hy
  ·exact absurd (List.mem_of_getElem? hx) (by rw[e4];exact hgr)
  ·exact absurd (List.mem_of_getElem? hy) (by rw[e2];exact hgr)
  ·rw[e1,e3]
 ·simp only;rw[hF];exact h.fre
theorem TT.aDJ {b b':Int→Option Blk} {g:TG} {t:TN} (h:TT b g t) (fr:Nat→Bool) (hF:b' g.F=some ⟨1,lv t.n fr⟩) (hk: ∀x y,x∈g.all→x≠g.F→b x=some y→b' x=some y):TT b' g ⟨t.r,t.n,t.Z,t.d,t.bs,fr⟩:=by
 have nd:=h.nd
 simp only[List.nodup_cons,List.mem_cons,not_or] at nd
 obtain⟨⟨n1,n2,n3,n4⟩,⟨n5,n6,n7⟩,⟨n8,n9⟩,n10,n11⟩:=nd
 refine⟨h.fJ.cW fun x y hx hy=> ?_,hk _ _ (by simp[TG.all]) n3 h.hd,hk _ _ (by simp[TG.all]) n8 h.ba,hF,h.pT,h.pR,h.pB,h.pF,h.nd⟩
 rcases hx with rfl | hx
 ·exact hk _ _ (by simp[TG.all]) n6 hy
 ·exact hk _ _ (by simp[TG.all,hx]) (fun e=>n10 (e▸hx)) hy
theorem cZ {m q:Nat} (h:q<m):atR (List.range m) q=q:=by
 unfold atR
 rw[List.getD_eq_getElem?_getD,List.getElem?_eq_getElem (by simpa using h)];simp
end Go.Proofs.YticmgmemnpcbbaaGreat.Vm
