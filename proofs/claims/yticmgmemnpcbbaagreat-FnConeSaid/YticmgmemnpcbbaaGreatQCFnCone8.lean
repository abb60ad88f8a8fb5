/- FnCone: for every code the law of sums and multiples of equilibria returns true; no condition. -/


import Derived.Test.YticmgmemnpcbbaaGreatQCFnCone7

namespace Go.Proofs.YticmgmemnpcbbaaGreat.Vm
open Go Go.RowKit Go.Proofs
set_option linter.unusedSimpArgs false
set_option linter.unusedVariables false
def okA (n:Nat):Nat→Bool:=fun c=>decide (c<n)
def oA (n m:Nat):Nat→Int:=fun c=>if n≤c∧c<n+m then -1 else 0
theorem Du (n m:Nat):wO (oA n m)=Lp.cJ n m:=by
 funext c
 unfold wO oA Lp.cJ
 split<;>rfl
def tbA (p:Pg) (n m i:Nat) (fr:Nat→Bool):TN:=⟨i,n+m,eZ p n m,1,fun q=>n+q,fr⟩
theorem Gk (N:Nat):List.replicate N [V.bool false]=lv N fun _=>false:=by
 unfold lv
 rw[List.map_const',List.length_range]
theorem J1 (N:Nat):List.replicate N [V.int .i64 0]=iv (lz N fun _=>0):=by
 simp[iv,lz,List.map_const']
theorem Il {N k:Nat} (f:Nat→Int) (v:Int) (h:k<N):(iv (lz N f)).set k [.int .i64 v]=iv (lz N fun c=>if c=k then v else f c):=by
 apply List.ext_getElem
 ·simp
 ·intro j h1 h2
  rw[List.getElem_set,lC,lC,tY,tY]
  by_cases e:k=j
  ·rw[if_pos e,if_pos e.symm]
  ·rw[if_neg e,if_neg (Ne.symm e)]
theorem vS {N:Nat} {f g:Nat→Int} (h: ∀c,c<N→f c=g c):lz N f=lz N g:=List.map_congr_left fun c hc=>by rw[h c (by simpa using hc)]
theorem nF {N:Nat} {f g:Nat→Bool} (h: ∀c,c<N→f c=g c):lv N f=lv N g:=List.map_congr_left fun c hc=>by rw[h c (by simpa using hc)]
theorem TT.first {b:Int→Option Blk} {g:TG} {p:Pg} {n m:Nat} {fr:Nat→Bool} (h:PgN p n m) (ht:TT b g (tbA p n m m fr)):TT b g (bI n m (eQ p n m) (List.range m) (Lp.lX n (eQ p n m)) fr):=by
 have hr:(List.range m).length=m:=by simp
 have hd:=dz0 h
 have hb:lb m (fun q=>(Lp.lX n (eQ p n m)).bs (atR (List.range m) q))=lb m fun q=>n+q:=List.map_congr_left fun q hq=>by
  have hq':q<m:=by simpa using hq
  simp only[nS hq'];rfl
 refine⟨?_,?_,?_,ht.fre,ht.pT,?_,?_,ht.pF,ht.nd⟩
 ·have:=ht.dI.congr (Z':=fun q c=>Lp.zt m (eQ p n m) (Lp.lX n (eQ p n m)) (atR (List.range m) q) c) fun q c hq _=>by
   simp only[tbA] at hq ⊢
   rw[nS hq,zt0 h]
  simp only[bI]
  rw[hr];exact this
 ·have e:=ht.hd
  simp only[tbA] at e
  simp only[bI,hd,hr]
  exact e
 ·simp only[bI];rw[hr,hb];exact ht.ba
 ·simp only[bI];rw[hr];exact ht.pR
 ·simp only[bI];rw[hr];exact ht.pB
structure aAO where
 i:Nat
 g:TG
 b:Int→Option Blk
theorem K7 {bl:Int→Option Blk} {K:V→(Int→Option Blk)→Prop} (p:Pg) (n m:Nat) (h:PgN p n m)
  (hN: ∀b' t,Lp.mA n m (n+m+1) 1000 (eQ p n m) t→Lp.rc m (Lp.cJ n m) t (n+m)≠0→Sub bl b'→K (.tup [.nilp,.bool false]) b')
  (hS: ∀b' g t,Lp.mA n m (n+m+1) 1000 (eQ p n m) t→Lp.rc m (Lp.cJ n m) t (n+m)=0→TT b' g (bI n m (eQ p n m) (Lp.bJ n (Lp.kicks n t m) m) (Lp.kicks n t m) (okA n))→(∀x,x∈g.all→bl x=none)→Sub bl b'→K (.tup [.loc g.T 6 0 0,.bool true]) b'):
  bD Tryz.prog 126 [.ptr p.v] bl K:=by
 have hml:=h.ml
 have hnl:=h.nl
 have wnm:IntKind.i64.wrap ((n:Int)+(m:Int))=((n+m:Nat):Int):=by rw[i64_in (by omega) (by omega)];simp
 have hint: ∀z:Int,z.natAbs≤1000→RO Tryz.prog 160 [.int .i64 z] (.agg (biC z)):=fun z hz=>pI z (by omega)
 refine aY Tryz.func126 rfl rfl (by rw[Tryz.ntmps126];simp) ?_
 rw[Tryz.ntmps126,Tryz.results126]
 refine aC ?_
 simp
 refine bX aO (by kernel_rfl) ?_
 simp[Pg.v,h.rows,h.bA]
 rw[wnm]
 obtain⟨N,hN0⟩: ∃N,n+m=N:=⟨_,rfl⟩
 rw[hN0]
 refine aC ?_
 simp
 refine bQ aO bl (Sub.refl _) [0,1,2] 4 (by kernel_rfl) ?_
 simp
 refine aP (hint 1 (by decide)) ?_
 simp
 refine Dz 3 ?_
 simp
 refine⟨by omega,by unfold maxLen;omega,fun gF hgF hbF=> ?_⟩
 have sF:Sub bl (upd bl gF (some ⟨1,List.replicate N [.bool false]⟩)):=by simp[hbF]
 refine⟨sF,Dz 4 ?_⟩
 simp
 refine⟨sF,Dz 5 ?_⟩
 simp
 intro gT hgT hTF hbT
 refine⟨by simp[hbF,hbT,hTF],Dz 6 ?_⟩
 simp
 refine⟨by simp[hbF,hbT,hTF],Dy ?_⟩
 simp
 obtain⟨b0,hb0⟩: ∃b0,b0=upd (upd bl gF (some ⟨1,List.replicate N [.bool false]⟩)) gT (some ⟨6,[[.nils,.bool false,.sl (iv (lim 1)),.nils,.int .i64 N,.lsl gF 1 0 N]]⟩):=⟨_,rfl⟩
 have b0T:b0 gT=some ⟨6,[[.nils,.bool false,.sl (iv (lim 1)),.nils,.int .i64 N,.lsl gF 1 0 N]]⟩:=by rw[hb0];simp[dW]
 have b0F:b0 gF=some ⟨1,lv N fun _=>false⟩:=by rw[hb0];simp[Ne.symm hTF,Gk]
 have s0:Sub bl b0:=by rw[hb0];simp[hbF,hbT,hTF]
 refine iH [(0,.ptr p.v),(4,.int .i64 N),(5,.loc gT 6 0 0),(34,.int .i64 m),(35,.int .i64 0)] 205 b0 ⟨rfl,by simp[Pg.v,h.rows,h.bA],by rw[hb0];exact sub_eq (by simp[dW])⟩ ?_
 clear hb0
 refine qH (g:=gT) (s:=6) 0 0 1 b0T rfl rfl fun gR hgR hRT=> ?_
 have hgR:b0 gR=none:=hgR
 have hRF:gR≠gF:=fun e=>by rw[e,b0F] at hgR;cases hgR
 have b0R:bl gR=none:=by
  cases hv:bl gR with
  | none => rfl
  | some y => have := s0 gR y hv; rw [hgR] at this; cases this
 refine qH (g:=gT) (s:=6) (els:= [[.lsl gR 1 0 0,.bool false,.sl (iv (lim 1)),.nils,.int .i64 N,.lsl gF 1 0 N]]) 0 3 1 (by simp[Ne.symm hRT]) rfl rfl fun gB hgB hBT=> ?_
 simp[hBT] at hgB
 obtain⟨hBR,hgB⟩:=hgB
 have hBF:gB≠gF:=fun e=>by rw[e,b0F] at hgB;cases hgB
 have b0B:bl gB=none:=by
  cases hv:bl gB with
  | none => rfl
  | some y => have := s0 gB y hv; rw [hgB] at this; cases this
 obtain⟨b1,hb1⟩: ∃b1,b1=upd (upd (upd (upd b0 gT (some ⟨6,[[.lsl gR 1 0 0,.bool false,.sl (iv (lim 1)),.nils,.int .i64 N,.lsl gF 1 0 N]]⟩)) gR (some ⟨1,[]⟩)) gT (some ⟨6,[[.lsl gR 1 0 0,.bool false,.sl (iv (lim 1)),.lsl gB 1 0 0,.int .i64 N,.lsl gF 1 0 N]]⟩)) gB (some ⟨1,[]⟩):=⟨_,rfl⟩
 have t1:TT b1 ⟨gT,gR,gB,gF,[]⟩ (tbA p n m 0 (fun _=>false)):=by
  refine TT.start rfl ?_ ?_ ?_ ?_ hgT hgF ?_
  ·rw[hb1];simp[hRT,Ne.symm hBR]
  ·rw[hb1];simp
  ·rw[hb1];simp[Ne.symm hBT,Ne.symm hRT,tbA,hN0]
  ·rw[hb1];simp[Ne.symm hBF,Ne.symm hRF,Ne.symm hTF,tbA,hN0,b0F]
  ·simp;grind
 refine iH [(0,.ptr p.v),(4,.int .i64 N),(5,.loc gT 6 0 0),(34,.int .i64 m),(35,.int .i64 0)] 205 b1 ⟨rfl,by simp,by rw[hb1];exact sub_eq (by simp)⟩ ?_
 have s1:Sub bl b1:=by
  intro x y hx
  have:=s0 x y hx
  have x1:x≠gT:=fun e=>by rw[e,hbT] at hx;cases hx
  have x2:x≠gR:=fun e=>by rw[e,b0R] at hx;cases hx
  have x3:x≠gB:=fun e=>by rw[e,b0B] at hx;cases hx
  rw[hb1]
  simp[x1,x2,x3,this]
 clear hb1
 refine aL (fun q:aAO=> [(0,.ptr p.v),(4,.int .i64 N),(5,.loc gT 6 0 0),(34,.int .i64 m),(35,.int .i64 q.i)]) (fun q=>q.b) (fun q=>q.i≤m∧TT q.b q.g (tbA p n m q.i (fun _=>false))∧q.g.T=gT∧q.g.F=gF∧(∀x,x∈q.g.all→bl x=none)∧Sub bl q.b) (fun q=>m - q.i) _ ⟨0,⟨gT,gR,gB,gF,[]⟩,b1⟩ ⟨Nat.zero_le _,t1,rfl,rfl,by simp[TG.all,hbT,b0R,b0B,hbF],s1⟩ ⟨rfl,by simp,Sub.refl _⟩ ?_
 clear s1 t1 hgB hgR s0 b0T b0F
 clear b0R b0B hBT hBF hBR hRT hRF
 rintro⟨i,⟨gT',gR,gB,gF',ids⟩,b⟩ ⟨him,hTb,e1,e2,hal,hsb⟩
 simp only at e1 e2 him hTb hsb
 subst e1 e2
 have bT:b gT'=_:=hTb.hd
 have bB:b gB=_:=hTb.ba
 have bG:b gR=_:=hTb.dI.top
 have bF:b gF'=_:=hTb.fre
 have hil:=hTb.dI.len
 simp only[tbA] at bT bB bG bF hil
 rw[hN0] at bT bF bG
 have wi:IntKind.i64.wrap ((i:Int)+1)=(i:Int)+1:=i64_in (by omega) (by omega)
 obtain⟨N1,hN1⟩: ∃x,N+1=x:=⟨_,rfl⟩
 rw[hN1] at bG
 have wN:IntKind.i64.wrap ((N:Int)+1)=(N1:Int):=by rw[i64_in (by omega) (by omega)];omega
 refine aE ?_
 simp
 refine aE ?_
 simp
 refine⟨fun hi=> ?_,fun hi=> ?_⟩
 ·refine cI (cC ?_)
  refine aE ?_
  simp
  refine aE ?_
  simp[wN]
  refine⟨by omega,by unfold maxLen;omega,fun gr hgr hbr=> ?_⟩
  refine aEQ (g:=gr) (s:=2) (els:=List.replicate N1 [.bool false,.nils]) ?_ ?_
  ·simp
  rw[Jr]
  refine aE ?_
  simp
  have rT: ¬ gr=gT':=fun e=>by rw[e,bT] at hbr;cases hbr
  have rR: ¬ gr=gR:=fun e=>by rw[e,bG] at hbr;cases hbr
  have rB: ¬ gr=gB:=fun e=>by rw[e,bB] at hbr;cases hbr
  have rF: ¬ gr=gF':=fun e=>by rw[e,bF] at hbr;cases hbr
  have ri:gr∉ids:=fun hm2=>by
   obtain⟨q,hq⟩:=List.mem_iff_getElem?.1 hm2
   rw[hTb.dI.row q gr hq] at hbr;cases hbr
  have rbl:bl gr=none:=by
   cases hv:bl gr with
   | none => rfl
   | some y => have := hsb gr y hv; rw [hbr] at this; cases this
  refine mE (fun _:Unit=> [(0,.ptr p.v),(4,.int .i64 N),(5,.loc gT' 6 0 0),(34,.int .i64 m),(35,.int .i64 i),(6,.int .i64 i),(7,.lsl gr 2 0 N1),(8,.int .i64 (sgB p i))]) (fun _=>upd b gr (some ⟨2,zv N1 fun _=>0⟩)) (fun _=>True) 205 ?_ ?_
  ·refine aC ?_
   simp[Pg.v,h.b,hi]
   refine⟨fun cD=> ?_,fun cD=> ?_⟩
   ·simp[aG]
    exact⟨rfl,by simp[Pg.v,h.b,sgB,cD],sub_eq (by simp)⟩
   ·simp[aG]
    exact⟨rfl,by simp[Pg.v,h.b,sgB,cD],sub_eq (by simp)⟩
  rintro⟨⟩ -
  obtain⟨sg,hsg⟩: ∃x,sgB p i=x:=⟨_,rfl⟩
  have sg1:sg.natAbs=1:=by rw[←hsg];unfold sgB;split<;>rfl
  rw[hsg]
  have hpA: ∀c,(sg*pA p n i c).natAbs≤1000:=fun c=>by rw[Int.natAbs_mul,sg1,Nat.one_mul];exact kO h.am _
  have hpB:(sg*pB p i).natAbs≤1000:=by rw[Int.natAbs_mul,sg1,Nat.one_mul];exact kO h.bm _
  refine mE (fun _:Unit=> [(0,.ptr p.v),(4,.int .i64 N),(5,.loc gT' 6 0 0),(34,.int .i64 m),(35,.int .i64 i),(6,.int .i64 i),(7,.lsl gr 2 0 N1),(8,.int .i64 sg)]) (fun _=>upd b gr (some ⟨2,zv N1 fun c=>if c<n then sg*pA p n i c else 0⟩)) (fun _=>True) 205 ?_ ?_
  ·refine aC ?_
   simp
   refine aD (Tk p n m i h hi) ?_
   simp
   refine aL (fun j:Nat=> [(0,.ptr p.v),(4,.int .i64 N),(5,.loc gT' 6 0 0),(34,.int .i64 m),(35,.int .i64 i),(6,.int .i64 i),(7,.lsl gr 2 0 N1),(8,.int .i64 sg),(51,.sl (iv (lz n (pA p n i)))),(52,.int .i64 n),(53,.int .i64 j)]) (fun j=>upd b gr (some ⟨2,zv N1 fun c=>if c<j then sg*pA p n i c else 0⟩)) (fun j=>j≤n) (fun j=>n - j) _ 0 (Nat.zero_le _) ⟨rfl,by simp,sub_eq (by simp)⟩ ?_
   intro j hj
   have wj:IntKind.i64.wrap ((j:Int)+1)=(j:Int)+1:=i64_in (by omega) (by omega)
   have wa: ∀c,IntKind.i64.wrap (sg*pA p n i c)=sg*pA p n i c:=fun c=>i64_in (by have:=hpA c;omega) (by have:=hpA c;omega)
   refine aC ?_
   simp
   refine⟨fun hjn=> ?_,fun hjn=> ?_⟩
   ·simp[hjn,wa]
    refine aD (hint _ (hpA j)) ?_
    simp[wj,aB,show j<N1 by omega,Fx]
    refine⟨j+1,by omega,by omega,rfl,by simp,?_⟩
    refine sub_eq ?_
    funext x
    simp only[aA]
    split
    ·congr 2
     exact qP fun c hc=>by
      by_cases e:c=j
      ·rw[if_pos e,if_pos (by omega),e]
      ·rw[if_neg e];grind
    ·rfl
   ·rw[show j=n by omega]
    simp[aG]
    exact⟨rfl,by simp,Sub.refl _⟩
  rintro⟨⟩ -
  refine aE ?_
  have wni:IntKind.i64.wrap ((n:Int)+(i:Int))=((n+i:Nat):Int):=by rw[i64_in (by omega) (by omega)];simp
  obtain⟨ni,hni⟩: ∃x,n+i=x:=⟨_,rfl⟩
  rw[hni] at wni
  refine eE aO [0,1,2,3,4,5,6,7,8] 1 9 (by kernel_rfl) ?_
  simp[Pg.v,h.bA,wni]
  refine aP (hint 1 (by decide)) ?_
  simp[show ni<N1 by omega,show(ni:Int)<N1 by omega]
  refine cN (i:=9) (by kernel_rfl) rfl rfl rfl ?_
  simp[show ni<N1 by omega,Fx]
  refine Dy ?_
  simp
  refine aE ?_
  have wB:IntKind.i64.wrap (sg*pB p i)=sg*pB p i:=i64_in (by omega) (by omega)
  have hNN:N<N1:=by omega
  have Qo:(N:Int)<N1:=by omega
  simp[Pg.v,h.b,hi,wB]
  refine aD (hint _ hpB) ?_
  simp[hNN,Qo,Fx]
  obtain⟨b2,hb2⟩: ∃b2,b2=upd b gr (some ⟨2,zv N1 (eZ p n m i)⟩):=⟨_,rfl⟩
  refine iH [(0,.ptr p.v),(4,.int .i64 N),(5,.loc gT' 6 0 0),(34,.int .i64 m),(35,.int .i64 i),(6,.int .i64 i),(7,.lsl gr 2 0 N1)] 205 b2 ⟨rfl,by simp[Pg.v,h.b,h.bA],?_⟩ ?_
  ·rw[hb2]
   refine sub_eq ?_
   funext x
   simp only[aA]
   split
   ·congr 2
    exact qP fun c hc=>by
     unfold eZ
     rw[hN0,hni,hsg]
     grind
   ·rfl
  have b2r:b2 gr=some ⟨2,zv N1 (eZ p n m i)⟩:=by rw[hb2];simp
  have b2x: ∀x,x≠gr→b2 x=b x:=fun x hx=>by rw[hb2,aJ _ _ _ _ hx]
  have b2T:=b2x gT' (Ne.symm rT)
  have b2R:=b2x gR (Ne.symm rR)
  have b2B:=b2x gB (Ne.symm rB)
  have b2F:=b2x gF' (Ne.symm rF)
  have b2i: ∀x,x∈ids→b2 x=b x:=fun x hx=>b2x x fun e=>ri (e▸hx)
  rw[bT] at b2T
  rw[bG] at b2R
  rw[bB] at b2B
  rw[bF] at b2F
  clear hb2
  have nds:=hTb.nd
  simp only[List.nodup_cons,List.mem_cons,not_or] at nds
  obtain⟨⟨nTR,nTB,nTF,nTi⟩,⟨nRB,nRF,nRi⟩,⟨nBF,nBi⟩,nFi,Mx⟩:=nds
  have Gc: ∀x,b2 x=none→x≠gT'∧x≠gR∧x≠gB∧x≠gF'∧x≠gr∧x∉ids:=fun x hx=>by
   refine⟨fun e=> ?_,fun e=> ?_,fun e=> ?_,fun e=> ?_,fun e=> ?_,fun e=> ?_⟩
   ·rw[e,b2T] at hx;cases hx
   ·rw[e,b2R] at hx;cases hx
   ·rw[e,b2B] at hx;cases hx
   ·rw[e,b2F] at hx;cases hx
   ·rw[e,b2r] at hx;cases hx
   ·rw[b2i x e] at hx
    obtain⟨q,hq⟩:=List.mem_iff_getElem?.1 e
    rw[hTb.dI.row q x hq] at hx;cases hx
  refine aE ?_
  simp[b2T,b2R,appV,elsV,hil]
  intro g4 hg4 hb4
  obtain⟨n4T,n4R,n4B,n4F,n4r,n4i⟩:=Gc g4 hb4
  have tk:(ids.map fun g=> [V.lsl g 2 0 N1]).take i=ids.map fun g=> [V.lsl g 2 0 N1]:=List.take_of_length_le (by simp[hil])
  simp[Ne.symm n4T,Ne.symm n4R,n4T,n4R,Int.not_lt.2 hg4,b2R,hil,tk]
  refine⟨by omega,fun gN hgN hbN=> ?_⟩
  have nN:gN≠gT'∧gN≠gB∧gN≠gF'∧gN≠gr∧gN∉ids∧gN≠g4:=by
   by_cases e:gN=gR
   ·subst e
    exact⟨Ne.symm nTR,nRB,nRF,Ne.symm rR,nRi,Ne.symm n4R⟩
   ·obtain⟨q1,q2⟩:=hbN e
    obtain⟨w1,w2,w3,w4,w5,w6⟩:=Gc gN q2
    exact⟨w1,w3,w4,w5,w6,q1⟩
  obtain⟨nNT,nNB,nNF,nNr,nNi,nN4⟩:=nN
  simp[Ne.symm nNT,nNT,Ne.symm n4T,nTR,b2T]
  obtain⟨b3,hb3⟩: ∃b3,b3=upd (upd (rem b2 gR) gN (some ⟨1,(ids++ [gr]).map fun g=> [.lsl g 2 0 N1]⟩)) gT' (some ⟨6,[[.lsl gN 1 0 (i+1),.bool false,.sl (iv (lim 1)),.lsl gB 1 0 i,.int .i64 N,.lsl gF' 1 0 N]]⟩):=⟨_,rfl⟩
  refine iH [(0,.ptr p.v),(4,.int .i64 N),(5,.loc gT' 6 0 0),(34,.int .i64 m),(35,.int .i64 i),(6,.int .i64 i)] 205 b3 ⟨rfl,by simp[Pg.v,h.b,h.bA],?_⟩ ?_
  ·rw[hb3]
   intro z y hz
   simp only[aA,aI] at hz ⊢
   grind
  have b3N:b3 gN=some ⟨1,(ids++ [gr]).map fun g=> [.lsl g 2 0 N1]⟩:=by rw[hb3];simp[nNT]
  have b3T:b3 gT'=some ⟨6,[[.lsl gN 1 0 (i+1),.bool false,.sl (iv (lim 1)),.lsl gB 1 0 i,.int .i64 N,.lsl gF' 1 0 N]]⟩:=by rw[hb3];simp
  have b3x: ∀x,x≠gT'→x≠gN→x≠gR→b3 x=b2 x:=fun x x1 x2 x3=>by rw[hb3,aJ _ _ _ _ x1,aJ _ _ _ _ x2,aI,if_neg x3]
  have b3B:=b3x gB (Ne.symm nTB) (Ne.symm nNB) (Ne.symm nRB)
  rw[b2B] at b3B
  clear hb3
  refine sH aO (rem b3 gB) (wF b3 gB) [0,1,2,3,4,5,6,7,8,9,10] 5 15 (by kernel_rfl) ?_
  simp[nTB,b3T,Pg.v,h.bA,wni]
  refine Dq 11 false ?_
  simp
  intro g5 hg5 hb5
  have n5:g5≠gT'∧g5≠gN∧g5≠gB:=⟨fun e=>(by rw[e,b3T] at hb5;cases hb5),fun e=>(by rw[e,b3N] at hb5;cases hb5),fun e=>(by rw[e,b3B] at hb5;cases hb5)⟩
  obtain⟨n5T,n5N,n5B⟩:=n5
  have r5:rem b3 gB g5=none:=by rw[aI,if_neg n5B];exact hb5
  have aBZ: ∀X,Sub (rem b3 gB) (upd b3 g5 X):=fun X z y hz=>by
   rw[aI] at hz
   rw[aA]
   grind
  refine⟨aBZ _,Dq 12 false ?_⟩
  have tkB:(iv (lb i fun q=>n+q)).take i=iv (lb i fun q=>n+q):=List.take_of_length_le (by simp)
  simp[n5B,Ne.symm n5B,appV,elsV,Int.not_lt.2 hg5,b3B,tkB]
  have hlb:iv (lb i fun q=>n+q)++ [[.int .i64 ni]]=iv (lb (i+1) fun q=>n+q):=by rw[La,nQ,hni];rfl
  rw[hlb]
  refine⟨by omega,fun gM hgM hbM=> ?_⟩
  have nM:gM≠gT'∧gM≠gN∧gM≠gF'∧gM≠gr∧gM∉ids∧gM≠g5:=by
   by_cases e:gM=gB
   ·subst e
    exact⟨Ne.symm nTB,Ne.symm nNB,nBF,Ne.symm rB,nBi,Ne.symm n5B⟩
   ·obtain⟨q1,q2⟩:=hbM e
    have q3:gM≠gT':=fun e2=>by rw[e2,b3T] at q2;cases q2
    have q4:gM≠gN:=fun e2=>by rw[e2,b3N] at q2;cases q2
    by_cases e3:gM=gR
    ·subst e3
     exact⟨q3,q4,nRF,Ne.symm rR,nRi,q1⟩
    ·rw[b3x gM q3 q4 e3] at q2
     obtain⟨w1,w2,w3,w4,w5,w6⟩:=Gc gM q2
     exact⟨q3,q4,w4,w5,w6,q1⟩
  obtain⟨nMT,nMN,nMF,nMr,nMi,nM5⟩:=nM
  have uV: ∀X Y,Sub (rem b3 gB) (upd (rem (upd b3 g5 X) gB) gM Y):=fun X Y z y hz=>by
   rw[aI] at hz
   rw[aA,aI,aA]
   grind
  have aDM: ∀X Y Z,Sub (upd (upd (rem b3 gB) gM Y) gT' Z) (upd (upd (rem (upd b3 g5 X) gB) gM Y) gT' Z):=fun X Y Z z y hz=>by
   simp only[aA,aI] at hz ⊢
   grind
  refine⟨uV _ _,Dq 13 false ?_⟩
  simp
  refine⟨uV _ _,Dq 14 false ?_⟩
  simp
  refine⟨uV _ _,Dq 15 true ?_⟩
  simp[Ne.symm nMT,nTB,n5T,Ne.symm n5T,b3T]
  refine Dd ?_
  simp
  refine aC ?_
  simp[wi,aB]
  obtain⟨b4,Ml⟩: ∃b4,b4=upd (upd (rem b3 gB) gM (some ⟨1,iv (lb (i+1) fun q=>n+q)⟩)) gT' (some ⟨6,[[.lsl gN 1 0 (i+1),.bool false,.sl (iv (lim 1)),.lsl gM 1 0 (i+1),.int .i64 N,.lsl gF' 1 0 N]]⟩):=⟨_,rfl⟩
  have b4T:b4 gT'=some ⟨6,[[.lsl gN 1 0 (i+1),.bool false,.sl (iv (lim 1)),.lsl gM 1 0 (i+1),.int .i64 N,.lsl gF' 1 0 N]]⟩:=by rw[Ml];simp
  have b4M:b4 gM=some ⟨1,iv (lb (i+1) fun q=>n+q)⟩:=by rw[Ml];simp[nMT]
  have b4x: ∀x,x≠gT'→x≠gM→x≠gB→b4 x=b3 x:=fun x x1 x2 x3=>by rw[Ml,aJ _ _ _ _ x1,aJ _ _ _ _ x2,aI,if_neg x3]
  have b4o: ∀x,x≠gT'→x≠gM→x≠gB→x≠gN→x≠gR→x≠gr→b4 x=b x:=fun x x1 x2 x3 x4 x5 x6=>by rw[b4x x x1 x2 x3,b3x x x1 x4 x5,b2x x x6]
  have fr: ∀x,b x=none→bl x=none:=fun x hx=>by
   cases hv:bl x with
   | none => rfl
   | some y => have := hsb x y hv; rw [hx] at this; cases this
  have blR:bl gR=none:=hal gR (by simp[TG.all])
  have blB:bl gB=none:=hal gB (by simp[TG.all])
  have blN:bl gN=none:=by
   by_cases e:gN=gR
   ·rw[e];exact blR
   ·have:=(hbN e).2
    rw[b2x gN nNr] at this;exact fr gN this
  have blM:bl gM=none:=by
   by_cases e:gM=gB
   ·rw[e];exact blB
   ·by_cases e3:gM=gR
    ·rw[e3];exact blR
    ·have:=(hbM e).2
     rw[b3x gM nMT nMN e3,b2x gM nMr] at this;exact fr gM this
  have M5:=hTb.snoc (b':=b4) gN gM gr (by simp only[tbA];rw[hN0,hN1,b4x gN nNT (Ne.symm nMN) nNB,b3N]) (by simp only[tbA];exact b4M) (by simp only[tbA];rw[hN0,b4T];rfl)
   (by simp only;exact b4o gF' (Ne.symm nTF) (Ne.symm nMF) (Ne.symm nBF) (Ne.symm nNF) (Ne.symm nRF) (Ne.symm rF))
   (fun x hx=>by simp only at hx;exact b4o x (fun e=>nTi (e▸hx)) (fun e=>nMi (e▸hx)) (fun e=>nBi (e▸hx)) (fun e=>nNi (e▸hx)) (fun e=>nRi (e▸hx)) (fun e=>ri (e▸hx)))
   (by simp only[tbA];rw[hN0,hN1,b4x gr rT (Ne.symm nMr) rB,b3x gr rT (Ne.symm nNr) rR,b2r]) hgr hgN hgM (by
     simp only[List.nodup_cons,List.mem_cons,not_or,List.mem_append,List.mem_singleton,List.nodup_append,List.not_mem_nil,or_false]
     refine⟨⟨Ne.symm nNT,Ne.symm nMT,nTF,nTi,Ne.symm rT⟩,⟨Ne.symm nMN,nNF,nNi,nNr⟩,⟨nMF,nMi,nMr⟩,⟨nFi,Ne.symm rF⟩,Mx,by simp,fun a ha c hc=> ?_⟩
     rw[hc];exact fun e=>ri (e▸ha))
  refine⟨⟨i+1,⟨gT',gN,gM,gF',ids++ [gr]⟩,b4⟩,⟨by simp only;omega,M5,rfl,rfl,fun x hx=> ?_,fun x y hx=> ?_⟩,by simp only;omega,rfl,by simp[h.bA,h.b],by rw[Ml];exact aDM _ _ _⟩
  ·simp only[TG.all,List.mem_cons,List.mem_append,List.not_mem_nil,or_false] at hx
   rcases hx with rfl | rfl | rfl | rfl | hx | rfl
   ·exact hbT
   ·exact blN
   ·exact blM
   ·exact hbF
   ·exact hal x (by simp[TG.all,hx])
   ·exact rbl
  ·have nx: ∀z,bl z=none→x≠z:=fun z hz e=>by rw[e,hz] at hx;cases hx
   simp only
   rw[b4o x (nx _ hbT) (nx _ blM) (nx _ blB) (nx _ blN) (nx _ blR) (nx _ rbl)]
   exact hsb x y hx
 ·have hie:i=m:=by omega
  subst hie
  clear hi him
  refine⟨by omega,by unfold maxLen;omega,fun gO hgO hbO=> ?_⟩
  have oT: ¬ gO=gT':=fun e=>by rw[e,bT] at hbO;cases hbO
  have oR: ¬ gO=gR:=fun e=>by rw[e,bG] at hbO;cases hbO
  have oB: ¬ gO=gB:=fun e=>by rw[e,bB] at hbO;cases hbO
  have oF: ¬ gO=gF':=fun e=>by rw[e,bF] at hbO;cases hbO
  have oi:gO∉ids:=fun hm2=>by
   obtain⟨q,hq⟩:=List.mem_iff_getElem?.1 hm2
   rw[hTb.dI.row q gO hq] at hbO;cases hbO
  have nds:=hTb.nd
  simp only[List.nodup_cons,List.mem_cons,not_or] at nds
  obtain⟨⟨nTR,nTB,nTF,nTi⟩,⟨nRB,nRF,nRi⟩,⟨nBF,nBi⟩,nFi,Mx⟩:=nds
  refine aL (fun k:Nat=> [(0,.ptr p.v),(4,.int .i64 N),(5,.loc gT' 6 0 0),(11,.lsl gO 1 0 N),(117,.int .i64 N),(118,.int .i64 k)]) (fun k=>upd (upd b gF' (some ⟨1,lv N fun c=>decide (c<k∧c<n)⟩)) gO (some ⟨1,iv (lz N fun c=>if c<k then oA n i c else 0)⟩)) (fun k=>k≤N) (fun k=>N - k) _ 0 (Nat.zero_le _) ⟨rfl,by simp[Pg.v,h.b,h.bA],?_⟩ ?_
  ·refine sub_eq ?_
   funext x
   simp only[aA]
   rw[J1]
   split
   ·simp
   ·split
    ·rename_i e;rw[e,bF];simp
    ·rfl
  intro k hk
  have wk:IntKind.i64.wrap ((k:Int)+1)=(k:Int)+1:=i64_in (by omega) (by omega)
  refine aE ?_
  simp
  refine aE ?_
  simp
  refine⟨fun hkn=> ?_,fun hkn=> ?_⟩
  ·refine cI (cC ?_)
   refine aE ?_
   simp
   refine cI ?_
   refine eE aO [0,1,2,3,4,5,6,7,8,9,10,11] 1 12 (by kernel_rfl) ?_
   have nOT:=Ne.symm oT
   simp[Pg.v,h.bA,bT,nOT,nTF,hkn]
   refine cN (i:=12) (by kernel_rfl) rfl rfl rfl ?_
   simp[Ne.symm oF,hkn,O7, -Bool.decide_and]
   refine Dy ?_
   simp
   refine aC ?_
   simp[Pg.v,h.bA,oF,hkn,wk,aB,Il]
   refine⟨fun hnk=> ?_,fun hnk=> ?_⟩
   ·refine aC ?_
    simp[wk,aB]
    refine⟨k+1,by omega,by omega,rfl,by simp[h.bA],sub_eq ?_⟩
    have e1:(lv N fun c=>decide (c<k+1)&& decide (c<n))=lv N fun c=>if c=k then decide (k<n) else decide (c<k)&& decide (c<n):=nF fun c _=>by
     by_cases e:c=k
     ·subst e;simp
     ·rw[if_neg e,show decide (c<k+1)=decide (c<k) from by simp;omega]
    have e2:(lz N fun c=>if c<k+1 then oA n i c else 0)=lz N fun c=>if c=k then -1 else if c<k then oA n i c else 0:=vS fun c hc=>by
     by_cases e:c=k
     ·subst e;rw[if_pos (by omega),if_pos rfl];unfold oA;rw[if_pos ⟨hnk,by omega⟩]
     ·rw[if_neg e];grind
    funext x
    simp only[aA]
    rw[e1,e2]
    grind
   ·refine aC ?_
    simp[wk,aB]
    refine⟨k+1,by omega,by omega,rfl,by simp[h.bA],sub_eq ?_⟩
    have e1:(lv N fun c=>decide (c<k+1)&& decide (c<n))=lv N fun c=>if c=k then decide (k<n) else decide (c<k)&& decide (c<n):=nF fun c _=>by
     by_cases e:c=k
     ·subst e;simp
     ·rw[if_neg e,show decide (c<k+1)=decide (c<k) from by simp;omega]
    have e2:(lz N fun c=>if c<k+1 then oA n i c else 0)=lz N fun c=>if c<k then oA n i c else 0:=vS fun c hc=>by
     by_cases e:c=k
     ·subst e;rw[if_pos (by omega),if_neg (by omega)];unfold oA;rw[if_neg (by omega)]
     ·grind
    funext x
    simp only[aA]
    rw[e1,e2]
    grind
  ·have hke:k=N:=by omega
   subst hke
   clear hkn hk
   obtain⟨bM,hbM⟩: ∃bM,bM=upd (upd b gF' (some ⟨1,lv k fun c=>decide (c<k)&& decide (c<n)⟩)) gO (some ⟨1,iv (lz k fun c=>if c<k then oA n i c else 0)⟩):=⟨_,rfl⟩
   rw[←hbM]
   have bMF:bM gF'=some ⟨1,lv k (okA n)⟩:=by
    rw[hbM]
    simp[Ne.symm oF]
    exact nF fun c hc=>by unfold okA;simp[hc]
   have bMO:bM gO=some ⟨1,iv (lz k (oA n i))⟩:=by
    rw[hbM]
    simp
    rw[vS fun c hc=>by rw[if_pos hc]]
   have bMx: ∀x,x≠gF'→x≠gO→bM x=b x:=fun x x1 x2=>by rw[hbM,aJ _ _ _ _ x2,aJ _ _ _ _ x1]
   clear hbM
   have hTM:=(hTb.Zx (b':=bM) (okA n) (by simp only[tbA];rw[hN0];exact bMF) (fun x y hx hx2 hy=>by
    rw[bMx x hx2 fun e=> ?_];exact hy
    have:=hal x hx
    rw[e] at hy;rw[hbO] at hy;cases hy)).first h
   obtain⟨e,h1,h2,h3,h4⟩:=Lp.vG (F:=fO (n+i) (okA n)) (N':=n+i) h.init (fun c hc=>hc.1) (Nat.le_refl _) (fun c hc=>⟨by omega,by omega,by unfold okA;simpa using hc⟩)
   rw[←Du] at h1 h2 h3
   have hnx:Lp.nx (n+i) (n+i) (List.range i) (Lp.okW i (wO (oA n i)) (fO (n+i) (okA n))) (Lp.orb (Lp.nx (n+i) (n+i) (List.range i) (Lp.okW i (wO (oA n i)) (fO (n+i) (okA n)))) (Lp.lX n (eQ p n i)) e)=none:=by
    unfold Lp.nx at h1 ⊢
    rw[h1]
   have hoA: ∀c,(oA n i c).natAbs≤1000:=fun c=>by unfold oA;split<;>decide
   have K5:=fun K'=>tE (bl:=bM) (K:=K') n i (eQ p n i) (List.range i) ⟨gT',gR,gB,gF',ids⟩ (Lp.lX n (eQ p n i)) (okA n) (oA n i) gO e hml hnl (R6 i) hoA (.inl fun q hq=>by simpa using hq) hnx h2 h3 hTM (by rw[hN0];exact bMO) hgO (by simp[TG.all,oT,oR,oB,oF,oi])
   rw[Du] at h1
   simp only[Du] at K5
   obtain⟨t,ht⟩: ∃t,Lp.orb (Lp.nx (n+i) (n+i) (List.range i) (Lp.okW i (Lp.cJ n i) (fO (n+i) (okA n)))) (Lp.lX n (eQ p n i)) e=t:=⟨_,rfl⟩
   rw[ht] at h1 h4
   simp only[ht] at K5
   simp only[hN0] at K5
   rw[hN0] at h1
   refine K5 _ (fun b' _ hT2 hx2=> ?_) (fun b' k' hk'=>absurd hk' (by rw[h1];simp))
   clear K5
   generalize frK i (oA n i) t (okA n) k=fr at hT2
   simp
   have Qo:k<N1:=by omega
   have aCP:(k:Int)<N1:=by omega
   have cT:b' gT'=_:=hT2.hd
   have cB:b' gB=_:=hT2.ba
   have cG:b' gR=_:=hT2.dI.top
   have cF:b' gF'=_:=hT2.fre
   have hrl:(List.range i).length=i:=by simp
   simp only[bI,hrl,hN0,hN1] at cT cB cG cF
   have cB2:lb i (fun q=>t.bs (atR (List.range i) q))=lb i t.bs:=List.map_congr_left fun q hq=>by
    have hq':q<i:=by simpa using hq
    simp only[nS hq']
   rw[cB2] at cB
   simp[cT]
   have cS:Sub bl b':=fun x y hx=>by
    have h9:=hsb x y hx
    have x1:x∉TG.all ⟨gT',gR,gB,gF',ids⟩:=fun hm2=>by have:=hal x hm2;rw[this] at hx;cases hx
    have x2:x≠gF':=fun e=>x1 (by rw[e];simp[TG.all])
    have x3:x≠gO:=fun e=>by rw[e,hbO] at h9;cases h9
    exact hx2 x y (by rw[bMx x x2 x3];exact h9) x1
   refine aL (fun j:Nat=> [(0,.ptr p.v),(4,.int .i64 k),(5,.loc gT' 6 0 0),(149,.lsl gB 1 0 i),(150,.int .i64 i),(151,.int .i64 j)]) (fun _=>b') (fun j=>j≤i∧ ∀q,q<j→ ¬ (n≤t.bs q∧0<t.X q (n+i))) (fun j=>i - j) _ 0 ⟨Nat.zero_le _,fun q hq=>by omega⟩ ⟨rfl,by simp[Pg.v,h.b,h.bA],Sub.refl _⟩ ?_
   rintro j ⟨hj,cQ⟩
   have wj:IntKind.i64.wrap ((j:Int)+1)=(j:Int)+1:=i64_in (by omega) (by omega)
   refine aE ?_
   simp
   refine aE ?_
   simp
   refine⟨fun hji=> ?_,fun hji=> ?_⟩
   ·refine cI (cC ?_)
    refine aE ?_
    simp[cB,hji]
    obtain⟨gi,hgi,Ce,Qj,tV⟩:=hT2.dI.at j (by simp only[bI,hrl];exact hji)
    simp only[bI] at tV
    rw[hN0,hN1,nS hji] at tV
    obtain⟨zx,hzx⟩: ∃zx,Lp.zt i (eQ p n i) t j k=zx:=⟨_,rfl⟩
    refine aE ?_
    simp
    refine aX [(0,.ptr p.v),(4,.int .i64 k),(5,.loc gT' 6 0 0),(149,.lsl gB 1 0 i),(150,.int .i64 i),(151,.int .i64 j),(13,.int .i64 j),(14,.int .i64 (t.bs j))] _ b' 175 (.bool (decide (n≤t.bs j∧0<zx))) ⟨rfl,by simp[Pg.v,h.b,h.bA],Sub.refl _⟩ rfl ?_ ?_
    ·simp[Pg.v,h.bA]
     by_cases hnb:n≤t.bs j
     ·have hgj: ∀h,ids[j]'h=gi:=fun h=>by rw[List.getElem?_eq_getElem h] at hgi;exact Option.some.inj hgi
      simp[hnb,Nat.not_lt.2 hnb,cT,cG,hji,hgj,tV,Qo,aCP,hil]
      refine aD (iU _) ?_
      rw[hzx]
      have hsp:0<zx.sign ↔ 0<zx:=by
       rcases Int.lt_trichotomy zx 0 with q | q | q
       ·rw[Int.sign_eq_neg_one_of_neg q];omega
       ·rw[q];decide
       ·rw[Int.sign_eq_one_of_pos q];omega
      simp[hsp]
     ·simp[hnb]
    have hzs:=Lp.nG h4.inv.z hji (show n+i<n+i+1 by omega)
    rw[hN0,hzx] at hzs
    have hzero:Lp.rc i (Lp.cJ n i) t (n+i)=0→t.bs j<n∨t.X j (n+i)=0:=fun h0=>by
     rcases Nat.lt_or_ge (t.bs j) n with g | g
     ·exact .inl g
     ·exact .inr (h4.zero h0 j hji (by omega))
    refine aC ?_
    simp
    refine⟨fun c1 c2=> ?_,fun hno=> ?_⟩
    ·rw[aU]
     refine⟨[.nilp,.bool false],by simp,hN b' t h4 (fun h0=> ?_) cS⟩
     have:=hzs.1.1 c2
     rw[←hN0] at this
     rcases hzero h0 with g | g
     ·omega
     ·rw[g] at this;exact absurd this (by decide)
    ·refine aC ?_
     simp[wj,aB]
     refine⟨j+1,⟨by omega,fun q hq c1 c2=> ?_⟩,by omega,rfl,by simp[h.bA,h.b],Sub.refl _⟩
     by_cases e:q=j
     ·subst e
      rw[hN0] at c2
      have g1:=hno c1
      have g2:=hzs.1.2 c2
      omega
     ·exact cQ q (by omega) ⟨c1,c2⟩
   ·have hje:j=i:=by omega
    subst hje
    have hp0:Lp.rc j (Lp.cJ n j) t (n+j)=0:=by
     rw[Lp.sR rfl]
     refine Lp.gI fun q hq=> ?_
     split
     ·rename_i hb
      have h8:=h4.inv.nn q hq
      have h9: ¬ 0<t.X q (n+j):=fun g=>cQ q hq ⟨hb.1,g⟩
      grind
     ·rfl
    simp[cT]
    refine aL (fun c:Nat=> [(0,.ptr p.v),(4,.int .i64 k),(5,.loc gT' 6 0 0),(181,.int .i64 k),(182,.int .i64 c)]) (fun c=>upd b' gF' (some ⟨1,lv k fun x=>if x<c then okA n x else fr x⟩)) (fun c=>c≤k) (fun c=>k - c) _ 0 (Nat.zero_le _) ⟨rfl,by simp[Pg.v,h.b,h.bA],?_⟩ ?_
    ·refine sub_eq ?_
     funext x
     simp only[aA]
     split
     ·rename_i e;rw[e,cF];simp
     ·rfl
    intro c hc
    have wc:IntKind.i64.wrap ((c:Int)+1)=(c:Int)+1:=i64_in (by omega) (by omega)
    refine aE ?_
    simp
    refine aE ?_
    simp
    refine⟨fun hck=> ?_,fun hck=> ?_⟩
    ·refine cI (cC ?_)
     refine aE ?_
     simp
     refine eE aO [0,1,2,3,4,5,6,7,8,9,10,11] 1 12 (by kernel_rfl) ?_
     simp[Pg.v,h.bA,cT,nTF,hck]
     refine cN (i:=12) (by kernel_rfl) rfl rfl rfl ?_
     simp[hck,O7]
     refine Dy ?_
     simp
     refine aC ?_
     simp[wc,aB]
     refine⟨c+1,by omega,by omega,rfl,by simp[h.bA],sub_eq ?_⟩
     funext x
     simp only[aA]
     split
     ·congr 2
      exact nF fun y hy=>by
       by_cases e:y=c
       ·subst e;simp[okA]
       ·rw[if_neg e];grind
     ·rfl
    ·have hce:c=k:=by omega
     subst hce
     obtain⟨bL,hbL⟩: ∃bL,bL=upd b' gF' (some ⟨1,lv c fun x=>if x<c then okA n x else fr x⟩):=⟨_,rfl⟩
     rw[←hbL]
     have bLF:bL gF'=some ⟨1,lv c (okA n)⟩:=by rw[hbL,bS,nF fun x hx=>by rw[if_pos hx]]
     have bLx: ∀x,x≠gF'→bL x=b' x:=fun x x1=>by rw[hbL,aJ _ _ _ _ x1]
     clear hbL
     have hTL:=hT2.Zx (b':=bL) (okA n) (by simp only[bI];rw[hN0];exact bLF) (fun x y hx hx2 hy=>by rw[bLx x hx2];exact hy)
     simp[Pg.v,h.bA]
     refine Dx n j (eQ p n j) ⟨gT',gR,gB,gF',ids⟩ t (okA n) hml hnl (h4.wP hp0) hTL fun b5 g5 e1 e2 hT5 aJP hb5=> ?_
     simp
     rw[aU]
     have n5: ∀x y,bl x=some y→x∉TG.all ⟨gT',gR,gB,gF',ids⟩:=fun x y hx hm2=>by have:=hal x hm2;rw[this] at hx;cases hx
     refine⟨[.loc g5.T 6 0 0,.bool true],by simp[e1],hS b5 g5 t h4 hp0 hT5 (fun x hx=> ?_) fun x y hx=> ?_⟩
     ·rcases aJP x hx with g1 | g1
      ·exact hal x g1
      ·cases hv:bl x with
       | none => rfl
       | some y =>
         have g2:=n5 x y hv
         rw[bLx x fun e=>g2 (by rw[e];simp[TG.all]),cS x y hv] at g1
         cases g1
     ·have g2:=n5 x y hx
      exact hb5 x y (by rw[bLx x fun e=>g2 (by rw[e];simp[TG.all])];exact cS x y hx) g2

section
variable {P : Program}
theorem Mem.see {w0:World} {M F:Nat→Prop} {bl:Int→Option Blk} {w:World} (hm:Mem w0 M F bl w) {g:Int} {b b':Blk} (hb:bl g=some b) (hB:bV F w g b'):Mem w0 M F (upd bl g (some b')) w:=by
 refine⟨hm.os,hm.tape,hm.output,hm.size,hm.frame,hm.gG,hm.fr,?_,fun x c hx h0=> ?_,fun x c hx=> ?_⟩
 ·obtain⟨n,hn⟩:=hm.fin
  refine⟨n,fun x hx=> ?_⟩
  have:=hn x hx
  by_cases hxg:x=g
  ·subst hxg;rw[hb] at this;cases this
  ·rw[aJ _ _ _ _ hxg];exact this
 ·by_cases hxg:x=g
  ·subst hxg;exact hm.own x _ hb h0
  ·rw[aJ _ _ _ _ hxg] at hx
   exact hm.own x c hx h0
 ·by_cases hxg:x=g
  ·subst hxg
   rw[bS] at hx
   cases hx;exact hB
  ·rw[aJ _ _ _ _ hxg] at hx
   exact hm.blk x c hx
def uns (cs:List V):List (List V):=cs.map fun x=> [x]
theorem F7 {F:Nat→Prop} {w:World} {g:Int} {cs:List V} (h0:0≤g):bV F w g ⟨1,uns cs⟩ ↔ bV F w g ⟨cs.length,[cs]⟩:=by
 unfold bV uns
 rw[if_neg (by omega),if_neg (by omega)]
 constructor
 ·rintro⟨h1,c,t,h2,h3,h4⟩
  refine⟨h1,c,t,h2,by simpa using h3,fun k e he=> ?_⟩
  have hk:k=0:=by
   have:=(List.getElem?_eq_some_iff.1 he).1
   simpa using this
  subst hk
  cases he
  refine⟨rfl,fun j x hx=> ?_⟩
  obtain⟨-,h5⟩:=h4 j [x] (by simp[hx])
  obtain⟨h6,v,h7,h8⟩:=h5 0 x rfl
  exact⟨h6,v,by simpa using h7,h8⟩
 ·rintro⟨h1,c,t,h2,h3,h4⟩
  refine⟨h1,c,t,h2,by simpa using h3,fun k e he=> ?_⟩
  simp only[List.getElem?_map] at he
  cases hk:cs[k]? with
  | none => rw [hk] at he; cases he
  | some y =>
    rw[hk] at he;cases he
    refine⟨rfl,fun j x hx=> ?_⟩
    have hj:j=0:=by
     have:=(List.getElem?_eq_some_iff.1 hx).1
     simpa using this
    subst hj
    cases hx
    obtain⟨-,h5⟩:=h4 0 cs rfl
    obtain⟨h6,v,h7,h8⟩:=h5 k y hk
    exact⟨h6,v,by simpa using h7,h8⟩
def TS (P:Program) (o:Oper) (K:St→Prop) (σ:St):Prop:= ∀(w0:World) (M F:Nat→Prop) (a:Act) (w:World) (Q:Exit→Act→World→Prop),Sim w0 M F σ a w→o.wp P a w (Nx w0 M F K) Q
theorem Hv {ops:Array Oper} {Q:Exit→Act→World→Prop} {F0:Nat→Prop} {w0:World} {M:Nat→Prop} {K:St→Prop} {r:List Oper} (hQ: ∀σ F a w,(∀b,F0 b→F b)→Sim w0 M F σ a w→K σ→wpList P ops Q r a w) (l:List Oper):
  ∀(σ:St) (F:Nat→Prop) (a:Act) (w:World),(∀b,F0 b→F b)→Ops P (ops.toList.map (·.dst)) l K σ→Sim w0 M F σ a w→wpList P ops Q (l++r) a w:=by
 induction l with
 | nil => intro σ F a w hF h hs; exact hQ σ F a w hF hs h
 | cons o rest ih =>
   intro σ F a w hF h hs
   have next:T P o (Ops P (ops.toList.map (·.dst)) rest K) σ→o.wp P a w (wpList P ops Q (rest++r)) Q:=fun hT=>
    Oper.wp_mono (fun a' w' hn=>by
     obtain⟨σ',F',hF',hs',hK⟩:=hn
     exact ih σ' F' a' w' (fun b hb=>hF' b (hF b hb)) hK hs') (E1 hT hs)
   unfold Ops at h
   rw[List.cons_append]
   unfold wpList
   split at h
   ·rename_i hg
    rw[if_pos (by simp[Region.wanted,hg])]
    exact .inl (next h)
   ·rename_i j b hg
    split at h
    ·rename_i d hd
     rcases fF h with ⟨q,hq,h1,h2⟩| ⟨hq,h1⟩
     rotate_left
     ·rw[if_neg (by simp[Region.wanted,hg,kQ hd hs hq])]
      exact ih _ F _ w hF h1 (hs.put kK)
     have hy:=wJ hd hs hq
     by_cases hqb:q=b
     ·rw[if_pos (by simp[Region.wanted,hg,hy,hqb])]
      have h1':=h1 hqb
      subst hqb
      rw[kE hq] at h1'
      exact .inl (next h1')
     ·rw[if_neg (by simp[Region.wanted,hg,hy,hqb])]
      have P4:q= !b:=by cases q<;>cases b<;>simp_all
      have h2':=h2 P4
      rw[←P4,kE hq] at h2'
      exact ih _ F _ w hF h2' (hs.put kK)
    ·exact h.elim
theorem X4 {id:Nat} {ops:Array Oper} {K:Ex→St→Prop} {σ:St} (o:Oper) (ho:ops.toList.getLast? =some o) (hg:o.guard=none) (h:OpsF P (ops.toList.map (·.dst)) ops.toList.dropLast (TS P o (K .normal)) σ):AW P (.region id ops false) K σ:=by
 intro w0 M F a w hs
 refine wp_region_list ?_
 have e:ops.toList=ops.toList.dropLast++ [o]:=by
  obtain⟨hne,hl⟩:=List.getLast?_eq_some_iff.1 ho
  rw[hl];simp
 have hgo:=Hv (P:=P) (ops:=ops) (Q:=C0 w0 M F K) (F0:=F) (w0:=w0) (M:=M) (r:= [o]) (K:=TS P o (K .normal)) (fun σ' F' a' w' hF' hs' hK=>by
  unfold wpList
  rw[if_pos (by simp[Region.wanted,hg])]
  refine .inl (Oper.wp_mono (fun a2 w2 hn=> ?_) (hK w0 M F' a' w' _ hs'))
  obtain⟨σ2,F2,h1,h2,h3⟩:=hn
  exact⟨.normal,σ2,F2,rfl,fun b hb=>h1 b (hF' b hb),h2,h3⟩) ops.toList.dropLast σ F a w (fun _ h=>h) (sJ h) hs
 rw[←e] at hgo
 exact hgo
theorem yV : ∀(cs l:List V) (o:Nat),o+cs.length≤l.length→splice l o cs=l.take o++(cs++l.drop (o+cs.length))
 | [], l, o, h => by simp [splice]
 | c :: cs, l, o, h => by
   rw[splice,yV cs (l.set o c) (o+1) (by simp at h ⊢;omega)]
   simp only[List.length_cons] at h
   rw[List.take_succ_eq_append_getElem (by simp;omega),List.getElem_set_self,List.take_set_of_le (Nat.le_refl _),List.drop_set_of_lt (by omega)]
   simp[Nat.add_assoc,Nat.add_comm 1]
theorem W0 {α β:Type} [DecidableEq α] (f:α→β) (a:α) (b c:β):upd (upd f a b) a c=upd f a c:=by
 funext x
 simp only[aA]
 split<;>rfl
theorem Mem.Df {w0:World} {M F:Nat→Prop} {bl:Int→Option Blk} {w:World} (hm:Mem w0 M F bl w) {g:Int} {cs ys:List V} (h0:0≤g) (hb:bl g=some ⟨1,uns cs⟩) (hle:ys.length≤cs.length) (fQ: ∀x,x∈ys→x.one=true)
  {vs:List Value} (hvl:vs.length=ys.length) (hvr: ∀(i:Nat) (x:V),ys[i]? =some x→ ∃v,vs[i]? =some v∧Rep F w x v) (hvo: ∀v,v∈vs→v.oneCell'=true):
  ∃w',(storeCells ⟨g.toNat,0,none⟩ vs).run P w= .ok () w'∧Mem w0 M F (upd bl g (some ⟨1,uns (ys++cs.drop ys.length)⟩)) w'∧(∀k,F k→w'.heap[k]? =w.heap[k]?)∧dE w w':=by
 have m1:=hm.see hb ((F7 h0).1 (hm.blk g _ hb))
 obtain⟨w',h1,h2,h3,h4⟩:=m1.store (P:=P) (g:=g) (b:=⟨cs.length,[cs]⟩) (k:=0) (j:=0) (e:=cs) (cs:=ys) (bS _ _ _) rfl (by simpa using hle) fQ hvl hvr hvo
 have hsp:splice cs 0 ys=ys++cs.drop ys.length:=by rw[yV ys cs 0 (by omega)];simp
 have hl:(ys++cs.drop ys.length).length=cs.length:=by simp;omega
 rw[W0] at h2
 simp only[List.set_cons_zero,hsp] at h2
 have m2:=h2.see (bS _ _ _) ((F7 (cs:=ys++cs.drop ys.length) h0).2 (by rw[hl];exact h2.blk g _ (bS _ _ _)))
 rw[W0] at m2
 exact⟨w',by simpa using h1,m2,h3,h4⟩
theorem Kg {d:Option Nat} {ty:TypeId} {pos:String} {af:Array Edge} {gd:Option (Nat×Bool)} {K:St→Prop} {σ:St} {x y:Operand} {t tx e:TypeId} {g:Int} {n:Nat} {cs ys:List V} (hx:σ.ev x= .lsl g 1 0 n) (hy:σ.ev y= .sl (uns ys))
  (h0:0≤g) (hb:σ.bl g=some ⟨1,uns cs⟩) (hcn:cs.length=n) (hle:ys.length≤n) (hys:((uns ys).all fun c=>c.length==1 && c.all V.one)=true) (he:slE P t=some e) (hz:csz P e=some 1)
  (hK:K (({ σ with bl:=upd σ.bl g (some ⟨1,uns (ys++cs.drop ys.length)⟩) } :St).put d (.int .i64 ys.length))):
  TS P ⟨d,.call { callee:= .builtin .copy,args:= #[x,y],argTypes:= #[t,tx] },ty,pos,af,gd⟩ K σ:=by
 intro w0 M F a w Q hs
 have hxr:=hs.ev x
 rw[hx] at hxr
 have hyr:=hs.ev y
 rw[hy] at hyr
 rcases A2 hxr with ⟨cD, -⟩| ⟨hg,cap,hlc,gU,hav, -⟩
 ·omega
 have hL:=lG hs.mem hyr (sz:=1) (Nat.le_refl _) (ys:=uns ys) (by simp only[elsV];rw[if_pos hys])
 obtain⟨xa,xc,news,hxv,hnl,hnc,hno,hnr⟩:=hL
 have hul:(uns ys).length=ys.length:=by simp[uns]
 rw[hul] at hxv hnl
 have hf:(Builtin.firstCells 1 ys.length (.slice xa ys.length xc)).run P w= .ok news.toArray w:=by
  rcases hnc with h | ⟨bb,off,rfl,jA⟩
  ·have hy0:ys= []:=by cases ys with
    | nil => rfl
    | cons => simp [uns] at h
   subst hy0
   have hn0:news= []:=List.eq_nil_of_length_eq_zero (by simpa using hnl)
   subst hn0
   cases xa<;>simp[Builtin.firstCells,loadCells,loadCellsFrom]
  ·exact run_firstCells_some w 1 ys.length ⟨bb,off,none⟩ ys.length xc news hnl (fun j u hu=>by rw[dC];exact jA j u hu)
 have fQ: ∀z,z∈ys→z.one=true:=fun z hz=>by
  have:=List.all_eq_true.1 hys [z] (by simp[uns,hz])
  simpa using this
 obtain⟨w',h1,h2,h3,h4⟩:=hs.mem.Df (P:=P) (vs:=news) h0 hb (by omega) fQ (by simpa using hnl) (fun i z hz=>by
  obtain⟨-,h6⟩:=hnr i [z] (by simp[uns,hz])
  obtain⟨-,u,h7,h8⟩:=h6 0 z rfl
  exact⟨u,by simpa using h7,h8⟩) hno
 have hs':Sim w0 M F ({ σ with bl:=upd σ.bl g (some ⟨1,uns (ys++cs.drop ys.length)⟩) } :St) a w':=⟨h2,hs.size,fun t ht=>(hs.sl t ht).mono (fun _ h=>h) h3 h4,hs.defers⟩
 refine aV (v:=goInt ys.length) (w':=w') ?_ ⟨_,F,fun _ h=>h,hs'.put (.int _ _),hK⟩
 have aI7:Nat.min ys.length n=ys.length:=Nat.min_eq_left hle
 simp only[execOp,resolve,Sem.run_bind,Sem.run_pure,Result.andThen_ok,invoke,builtin,List.map_toArray,List.map_cons,List.map_nil,Builtin.copy_,List.getElem?_toArray,List.getElem?_cons_zero,List.getElem?_cons_succ,run_underlying (bN he),hav,hxv,Builtin.lenOf,aI7,run_sizeOf hz,hf]
 rw[Nat.zero_mul,h1];rfl
theorem Bq {e:TypeId} {u:V} (h:zeroC P e=some [u]): ∃i z v,P.info? e=some i∧i.zero=some z∧z.cells= #[v]∧ofCell v=u∧u.one=true:=by
 obtain⟨i,z,h1,h2,h3,h4,h5⟩:=gL h
 have hl:z.cells.toList.length=1:=by
  have:=congrArg List.length h3
  simpa using this.symm
 obtain⟨v,hv⟩:=List.length_eq_one_iff.1 hl
 rw[hv] at h3
 refine⟨i,z,v,h1,h2,?_,?_,by simpa using h4⟩
 ·rw[←Array.toArray_toList (xs:=z.cells),hv]
 ·simpa using h3.symm
theorem Dn {d:Option Nat} {ty:TypeId} {pos:String} {af:Array Edge} {gd:Option (Nat×Bool)} {K:St→Prop} {σ:St} {x:Operand} {t e:TypeId} {g:Int} {n:Nat} {cs:List V} {u:V} (hx:σ.ev x= .lsl g 1 0 n)
  (h0:0≤g) (hb:σ.bl g=some ⟨1,uns cs⟩) (hcn:cs.length=n) (he:slE P t=some e) (hz:zeroC P e=some [u])
  (hK:K (({ σ with bl:=upd σ.bl g (some ⟨1,uns (List.replicate n u)⟩) } :St).put d (.tup []))):
  TS P ⟨d,.call { callee:= .builtin .clear,args:= #[x],argTypes:= #[t] },ty,pos,af,gd⟩ K σ:=by
 intro w0 M F a w Q hs
 obtain⟨i,z,v,hi,hzz,hzc,hvu,hu1⟩:=Bq hz
 have hxr:=hs.ev x
 rw[hx] at hxr
 rcases A2 hxr with ⟨cD, -⟩| ⟨hg,cap,hlc,gU,hav, -⟩
 ·omega
 have hru:Rep F w u v:=by rw[←hvu];exact kZ F w v
 obtain⟨w',h1,h2,h3,h4⟩:=hs.mem.Df (P:=P) (ys:=List.replicate n u) (vs:=List.replicate n v) h0 hb (by simp;omega) (fun z hz=>by rw[(List.mem_replicate.1 hz).2];exact hu1) (by simp) (fun i y hy=>by
  have hin:i<n:=by have:=(List.getElem?_eq_some_iff.1 hy).1;simpa using this
  rw[List.getElem?_replicate,if_pos hin] at hy
  cases hy
  exact⟨v,by rw[List.getElem?_replicate,if_pos hin],hru⟩) (fun y hy=>by rw[(List.mem_replicate.1 hy).2];exact hru.one hu1)
 have hd:List.replicate n u++cs.drop (List.replicate n u).length=List.replicate n u:=by simp[hcn]
 rw[hd] at h2
 have hs':Sim w0 M F ({ σ with bl:=upd σ.bl g (some ⟨1,uns (List.replicate n u)⟩) } :St) a w':=⟨h2,hs.size,fun t ht=>(hs.sl t ht).mono (fun _ h=>h) h3 h4,hs.defers⟩
 refine aV (v:= .tuple #[]) (w':=w') ?_ ⟨_,F,fun _ h=>h,hs'.put (.tup _ _ rfl (by simp)),hK⟩
 have hzl:(Builtin.zeroCells z.cells n).toList=List.replicate n v:=by
  rw[hzc]
  apply List.ext_getElem
  ·simp[Builtin.zeroCells]
  ·intro j h1 h2
   simp[Builtin.zeroCells,Nat.mod_one]
 have hzv:(zeroValue e).run P w= .ok z w:=by simp[zeroValue,typeInfo,hi,hzz]
 cases n with
 | zero =>
   have hw:w'=w:=by simpa [storeCells] using h1.symm
   subst hw
   simp only[execOp,resolve,Sem.run_bind,Sem.run_pure,Result.andThen_ok,invoke,builtin,List.map_toArray,List.map_cons,List.map_nil,Builtin.clear_,List.getElem?_toArray,List.getElem?_cons_zero,run_underlying (bN he),hav]
 | succ n =>
   simp only[execOp,resolve,Sem.run_bind,Sem.run_pure,Result.andThen_ok,invoke,builtin,List.map_toArray,List.map_cons,List.map_nil,Builtin.clear_,List.getElem?_toArray,List.getElem?_cons_zero,run_underlying (bN he),hav,hzv,hzl]
   rw[Nat.zero_mul,h1];rfl
end

structure Stg (n m : Nat) (E : Nat → Nat → Rat) (C : Nat → Rat) (rows : List Nat) (q : Nat) (fr : Nat → Bool) (t : Lp.Tab) : Prop where
 mid:Lp.Mid n m 1000 E rows (fO (n+m) fr) t
 sel:Lp.Sel n m (n+m) E C q (fO (n+m) fr)
theorem Di {m N:Nat} {O:Nat→Int} {t:Lp.Tab} {fr:Nat→Bool} (hf:Lp.fstP (Lp.okW m (wO O) (fO N fr) t) N=none):fO N (frK m O t fr N)=Lp.Fn m (wO O) (fO N fr) t:=by
 funext c
 refine propext ?_
 unfold fO Lp.Fn frK
 constructor
 ·rintro⟨h1,h2⟩
  rw[if_pos h1,Bool.and_eq_true] at h2
  obtain⟨h3,h4⟩:=h2
  have h5: ¬ Lp.rc m (wO O) t c<0:=by simpa using h4
  have h6:=Lp.eI.1 hf c h1
  unfold Lp.okW fO at h6
  refine⟨⟨h1,h3⟩,?_⟩
  have h7: ¬ 0<Lp.rc m (wO O) t c:=fun g=>h6 ⟨⟨h1,h3⟩,g⟩
  grind
 ·rintro⟨⟨h1,h2⟩,h3⟩
  refine⟨h1,?_⟩
  rw[if_pos h1,h2,h3]
  have: ¬ ((0:Rat)<0):=by decide
  simp[this]
theorem G2 {bl:Int→Option Blk} {K:V→(Int→Option Blk)→Prop} (n m:Nat) (E:Nat→Nat→Rat) (rows:List Nat) (g:TG) (t:Lp.Tab) (fr:Nat→Bool) (C:Nat→Rat) (q:Nat) (O:Nat→Int) (gO:Int)
  (hm:m≤17) (hn:n+m≤100) (hr:Rows m rows) (hS:Stg n m E C rows q fr t) (hw:wO O=Lp.wl C q) (hO: ∀c,(O c).natAbs≤1000) (hO0: ∀c,n≤c→O c=0)
  (hTT:TT bl g (bI n m E rows t fr)) (hgO:bl gO=some ⟨1,iv (lz (n+m) O)⟩) (hg0:0≤gO) (hgn:gO∉g.all)
  (hT: ∀b' t' fr',Stg n m E C rows (q+1) fr' t'→TT b' g (bI n m E rows t' fr')→(∀x y,bl x=some y→x∉g.all→b' x=some y)→K (.bool true) b')
  (hF: ∀b',q=0→Lp.Unb n m E (n+m) C→(∃x,Lp.gJ n m E (n+m) x)→(∀x y,bl x=some y→x∉g.all→b' x=some y)→K (.bool false) b'):
  bD Tryz.prog 205 [.loc g.T 6 0 0,.lsl gO 1 0 (n+m)] bl K:=by
 obtain⟨e,h1,h2,h3⟩:=hS.mid.ends (wO O)
 have he:=h3 e (Nat.le_refl _)
 refine tE n m E rows g t fr O gO e hm hn hr hO (.inr hO0) h1 h2 (fun e' he'=>(h3 e' he').inv) hTT hgO hg0 hgn (fun b' hf hT2 hx=> ?_) fun b' k hf hl hT2 hx=> ?_
 ·have hR:=Lp.Cb (N':=n+m) he.inv he.low he.bas (Nat.le_add_right n m) hf
  refine hT b' _ _ ⟨?_,?_⟩ hT2 hx
  ·rw[Di hf];exact he.next
  ·rw[Di hf]
   refine hS.sel.next (t:=Lp.orb (Lp.nx (n+m) (n+m) rows (Lp.okW m (wO O) (fO (n+m) fr))) t e) ?_
   rw[←hw];exact hR
 ·obtain⟨k1,k2,k3⟩:=Lp.dO.1 hf
  have hkn:k<n:=he.lt k k2.1
  obtain⟨t',ht'⟩: ∃t',Lp.orb (Lp.nx (n+m) (n+m) rows (Lp.okW m (wO O) (fO (n+m) fr))) t e=t':=⟨_,rfl⟩
  rw[ht'] at he k2 hl
  have pU:=k2.2
  rw[hw] at pU
  cases q with
  | zero => exact hF b' rfl (Lp.tA he.inv he.low hkn hl pU) ⟨_, he.He.1⟩ hx
  | succ q => exact absurd hl (Lp.sZ he.inv C hkn pU)
def fxs (n:Nat) (x:Nat→Rat):List (List V):=(List.range n).map fun c=> [fv (some (x c))]
@[simp] theorem Us (n : Nat) (x : Nat → Rat) : (fxs n x).length = n := by simp [fxs]
@[simp] theorem K4 (n : Nat) (x : Nat → Rat) (i : Nat) (h : i < (fxs n x).length) : (fxs n x)[i] = [fv (some (x i))] := by simp [fxs]
theorem sD {n:Nat} {x y:Nat→Rat} (h: ∀c,c<n→x c=y c):fxs n x=fxs n y:=List.map_congr_left fun c hc=>by rw[h c (by simpa using hc)]
theorem Kl {n i:Nat} (x:Nat→Rat) (v:Rat) (hi:i<n):(fxs n x).set i [fv (some v)]=fxs n fun c=>if c=i then v else x c:=by
 apply List.ext_getElem
 ·simp
 ·intro j h1 h2
  rw[List.getElem_set,K4,K4]
  by_cases e:i=j
  ·rw[if_pos e,if_pos e.symm]
  ·rw[if_neg e,if_neg (Ne.symm e)]
def V1 (n:Nat) (C:Nat→Rat):Option (Option (Nat→Rat))→V
 | none => .tup [.int .i64 2, .sl [], .nilp]
 | some none => .tup [.int .i64 3, .sl [], .nilp]
 | some (some x) => .tup [.int .i64 0, .sl (fxs n x), fv (some (Lp.dot n C x))]

structure aEM where
 q:Nat
 t:Lp.Tab
 fr:Nat→Bool
 ob:List Int
 b:Int→Option Blk
def qR (q:Nat):Nat→Int:=fun c=>if c=q then -1 else 0
theorem Kj (C:Nat→Rat) (q:Nat):wO (qR q)=Lp.wl C (q+1):=by
 funext c
 unfold wO qR Lp.wl
 simp only
 split<;>rfl
def fxp (n k:Nat):List (List V):=(List.range n).map fun c=>if c<k then [fv (some 0)] else [.nilp]
@[simp] theorem Re (n k : Nat) : (fxp n k).length = n := by simp [fxp]
theorem Em (n:Nat):List.replicate n [V.nilp]=fxp n 0:=by
 unfold fxp
 apply List.ext_getElem
 ·simp
 ·intro i h1 h2;simp
@[simp] theorem aDU (n k i : Nat) (h : i < (fxp n k).length) : (fxp n k)[i] = if i < k then [fv (some 0)] else [.nilp] := by simp [fxp]
theorem Lf {n k:Nat} (h:k<n):(fxp n k).set k [fv (some 0)]=fxp n (k+1):=by
 apply List.ext_getElem
 ·simp
 ·intro j h1 h2
  rw[List.getElem_set]
  simp only[fxp,List.getElem_map,List.getElem_range]
  by_cases e:k=j
  ·rw[if_pos e,if_pos (by omega)]
  ·rw[if_neg e]
   by_cases e2:j<k
   ·rw[if_pos e2,if_pos (by omega)]
   ·rw[if_neg e2,if_neg (by omega)]
theorem Kq (n:Nat):fxp n n=fxs n fun _=>0:=List.map_congr_left fun c hc=>by rw[if_pos (by simpa using hc)]
theorem Qa (n:Nat) (x:Nat→Rat):(fxs n x).all (fun e=>e.all V.cl)=true:=by simp[fxs,V.cl,fv]
noncomputable def xUp (N : Nat) (rows : List Nat) (t : Lp.Tab) (i : Nat) : Nat → Rat := fun c => Lp.S i fun p => if t.bs (atR rows p) = c then t.X (atR rows p) N else 0
theorem Dm {m N:Nat} {E:Nat→Nat→Rat} {rows:List Nat} {t:Lp.Tab} (h:Lp.TI m E t) (hr:Rows m rows) {i:Nat} (hi:i<rows.length) (c:Nat):(if c=t.bs (atR rows i) then t.X (atR rows i) N else xUp N rows t i c)=xUp N rows t (i+1) c:=by
 show _=xUp N rows t i c+(if t.bs (atR rows i)=c then t.X (atR rows i) N else 0)
 by_cases e:c=t.bs (atR rows i)
 ·rw[if_pos e,if_pos e.symm]
  have:xUp N rows t i c=0:=Lp.gI fun p hp=>by
   refine if_neg fun e2=> ?_
   have h1:=h.inj (hr.lt (dA (show p<rows.length by omega))) (hr.lt (dA hi)) (e2.trans e)
   have:=hr.inj (show p<rows.length by omega) hi h1
   omega
  rw[this];grind
 ·rw[if_neg e,if_neg (Ne.symm e)];grind
theorem Jl {n m N:Nat} {rows:List Nat} {t:Lp.Tab} (hr:Rows m rows) (hd: ∀i,i<m→i∉rows→n≤t.bs i) {c:Nat} (hc:c<n):xUp N rows t rows.length c=Lp.xb m N t c:=by
 unfold xUp Lp.xb
 exact hr.sum (fun i=>if t.bs i=c then t.X i N else 0) fun i hi hn=>if_neg (by have:=hd i hi hn;omega)
theorem T5 {q:Rat} (h:Lp.sm (10^72) q):few 100000 q:=by
 obtain⟨h1,h2⟩:=Lp.wQ h
 have h3:(10:Nat)^72<LB^24:=by decide+kernel
 exact kI (k:=24) ⟨aH.2 (Nat.lt_of_le_of_lt h1 h3),aH.2 (Nat.lt_of_le_of_lt h2 h3)⟩ (by decide)
theorem Fa (p:Pg) (n m:Nat) (h:PgN p n m):RO Tryz.prog 145 [.ptr p.v] (V1 n (wO (pC p)) (Lp.opt n m (eQ p n m) (n+m) (wO (pC p)))):=by
 have hml:=h.ml
 have hnl:=h.nl
 refine aK Tryz.func145 rfl rfl (by rw[Tryz.ntmps145];simp) fun bl=> ?_
 rw[Tryz.ntmps145,Tryz.results145]
 refine aE ?_
 simp
 refine aE ?_
 simp
 refine K7 p n m h (fun b' t h4 hp hb=> ?_) (fun b' g t h4 hp hTT hfr hb=> ?_)
 ·rw[Lp.L1 (h4.no hp)]
  simp[V1]
  refine aC ?_
  simp
  exact aQ [.int .i64 2,.nils,.nilp] 1 (by simp) (by simp[frz,V.cl]) hb
 have hK:=(Lp.kX (h4.wP hp) (show n≤n+m+1 by omega) m (Nat.le_refl _))
 obtain⟨t0,ht0⟩: ∃t0,Lp.kicks n t m=t0:=⟨_,rfl⟩
 rw[ht0] at hTT hK
 have Tc:=hK.inv
 have sX:=Bo n m t0
 have J6: ∀i,i∈Lp.bJ n t0 m→t0.bs i<n:=fun i hi=>(Lp.qO.1 hi).2
 obtain⟨rows,aC5⟩: ∃rows,Lp.bJ n t0 m=rows:=⟨_,rfl⟩
 rw[aC5] at hTT Tc sX J6
 have hS0:Stg n m (eQ p n m) (wO (pC p)) rows 0 (okA n) t0:=⟨⟨Tc,J6,fun i hi=>⟨by have:=J6 i hi;omega,by unfold okA;simpa using J6 i hi⟩,fun c hc=>by simpa [okA] using hc.2⟩,Lp.Sel.start fun c hc=>⟨by omega,by simpa [okA] using hc⟩⟩
 clear hK Tc J6
 obtain⟨gT,gR,gB,gF,ids⟩:=g
 have bT:b' gT=_:=hTT.hd
 have bB:b' gB=_:=hTT.ba
 have bG:b' gR=_:=hTT.dI.top
 have bF:b' gF=_:=hTT.fre
 simp only[bI] at bT bB bG bF
 obtain⟨N,hN⟩: ∃N,n+m=N:=⟨_,rfl⟩
 rw[hN] at bT
 have aJS:=hTT.pT
 simp
 refine aE ?_
 simp
 refine aE ?_
 simp[bT]
 refine⟨by omega,by unfold maxLen;omega,fun gO hgO hbO=> ?_⟩
 refine cI ?_
 refine X4 _ rfl rfl ?_
 simp[Pg.v]
 have hcl:p.c.length=n:=h.cl
 have hiv: ∀l:List Int,iv l=uns (l.map (V.int .i64)):=fun l=>by simp[iv,uns]
 refine Kg (g:=gO) (n:=N) (e:=3) (cs:=List.replicate N (.int .i64 0)) (ys:=p.c.map (V.int .i64)) (by simp) (by simp[hiv]) hgO (by simp[uns]) (by simp) (by simp[hcl];omega) (by simp[uns]) (by simp) (by simp) ?_
 have ecp:uns (p.c.map (V.int .i64)++(List.replicate N (V.int .i64 0)).drop (p.c.map (V.int .i64)).length)=iv (lz N (pC p)):=by
  rw[hiv]
  congr 1
  apply List.ext_getElem
  ·simp[hcl];omega
  ·intro j h1 h2
   rw[List.getElem_map,tY]
   unfold pC
   by_cases e:j<n
   ·rw[List.getElem_append_left (by simp[hcl];exact e)]
    simp[List.getD_eq_getElem?_getD,hcl,e]
   ·rw[List.getElem_append_right (by simp[hcl];omega)]
    simp[List.getD_eq_getElem?_getD,hcl,e]
 rw[ecp]
 obtain⟨bC,hbC⟩: ∃bC,bC=upd b' gO (some ⟨1,iv (lz N (pC p))⟩):=⟨_,rfl⟩
 simp
 refine iH [(0,.ptr p.v),(5,.loc gT 6 0 0),(7,.lsl gO 1 0 N)] 124 bC ⟨rfl,by simp[Pg.v],by rw[hbC];exact sub_eq (by simp)⟩ ?_
 have n6: ∀x,x∈TG.all ⟨gT,gR,gB,gF,ids⟩→ ∃y,b' x=some y:=fun x hx=>by
  simp only[TG.all,List.mem_cons] at hx
  rcases hx with rfl | rfl | rfl | rfl | hx
  ·exact⟨_,bT⟩
  ·exact⟨_,bG⟩
  ·exact⟨_,bB⟩
  ·exact⟨_,bF⟩
  ·obtain⟨q,hq⟩:=List.mem_iff_getElem?.1 hx
   exact⟨_,hTT.dI.row q x hq⟩
 have hgn:gO∉TG.all ⟨gT,gR,gB,gF,ids⟩:=fun hm2=>by
  obtain⟨y,hy⟩:=n6 gO hm2
  rw[hbO] at hy;cases hy
 have bCO:bC gO=some ⟨1,iv (lz N (pC p))⟩:=by rw[hbC];simp
 have hTC:TT bC ⟨gT,gR,gB,gF,ids⟩ (bI n m (eQ p n m) rows t0 (okA n)):=hTT.fV fun x y hx hy=>by rw[hbC,aJ _ _ _ _ (fun e=>hgn (by rw[←e];exact hx))];exact hy
 have sC:Sub bl bC:=fun x y hx=>by
  have:=hb x y hx
  rw[hbC,aJ _ _ _ _ (fun e=>by rw[e,hbO] at this;cases this)];exact this
 have blO:bl gO=none:=by
  cases hv:bl gO with
  | none => rfl
  | some y => have := hb gO y hv; rw [hbO] at this; cases this
 clear hbC bT bB bG bF hTT n6 hbO hb
 refine cI ?_
 refine aC ?_
 simp
 have hst:=fun K'=>G2 (bl:=bC) (K:=K') n m (eQ p n m) rows ⟨gT,gR,gB,gF,ids⟩ t0 (okA n) (wO (pC p)) 0 (pC p) gO hml hnl sX hS0 rfl (fun c=>kO h.cm c) (fun c hc=>by unfold pC;rw[List.getD_eq_getElem?_getD,List.getElem?_eq_none (by omega)];rfl) hTC (by rw[hN];exact bCO) hgO hgn
 rw[hN] at hst
 refine hst _ (fun b1 t1 fr1 hS1 hT1 hx1=> ?_) (fun b1 _ hU hF hx1=> ?_)
 rotate_left
 ·obtain⟨x,hx⟩:=hF
  have eo:=Lp.F4 hU hx
  rw[←hN] at eo
  rw[eo]
  simp[V1]
  exact aQ [.int .i64 3,.nils,.nilp] 1 (by simp) (by simp[frz,V.cl]) fun x y hx=>hx1 x y (sC x y hx) fun hm2=>by have:=hfr x hm2;rw[this] at hx;cases hx
 simp
 have aEC: ∀x y,bl x=some y→b1 x=some y:=fun x y hx=>hx1 x y (sC x y hx) fun hm2=>by have:=hfr x hm2;rw[this] at hx;cases hx
 have b1O:b1 gO=some ⟨1,iv (lz N (pC p))⟩:=hx1 gO _ bCO hgn
 clear hst hx1 hTC bCO sC aJS hS0 h4 hp
 refine cI ?_
 refine aC ?_
 simp[Pg.v,h.bA]
 refine aL (fun s:aEM=> [(0,.ptr p.v),(5,.loc gT 6 0 0),(7,.lsl gO 1 0 N),(41,.int .i64 n),(42,.int .i64 s.q)]) (fun s=>s.b) (fun s=>s.q≤n∧Stg n m (eQ p n m) (wO (pC p)) rows (s.q+1) s.fr s.t∧TT s.b ⟨gT,gR,gB,gF,ids⟩ (bI n m (eQ p n m) rows s.t s.fr)∧(s.b gO=some ⟨1,iv s.ob⟩∧s.ob.length=N)∧ ∀x y,bl x=some y→s.b x=some y) (fun s=>n - s.q) _ ⟨0,t1,fr1,lz N (pC p),b1⟩ ⟨Nat.zero_le _,hS1,hT1,⟨b1O,by simp⟩,aEC⟩ ⟨rfl,by simp[Pg.v,h.bA],Sub.refl _⟩ ?_
 clear hS1 hT1 b1O aEC
 rintro⟨q,t,fr,ob,b⟩ ⟨hq,hS,hT,⟨hbO,hol⟩,hbl⟩
 simp only at hq hS hT hbO hol hbl
 have wq:IntKind.i64.wrap ((q:Int)+1)=(q:Int)+1:=i64_in (by omega) (by omega)
 refine aE ?_
 simp
 refine aE ?_
 simp
 refine⟨fun hqn=> ?_,fun hqn=> ?_⟩
 ·refine cI (cC ?_)
  refine aE ?_
  simp
  refine cI ?_
  refine X4 _ rfl rfl ?_
  simp
  refine Dn (g:=gO) (n:=N) (e:=3) (u:= .int .i64 0) (cs:=ob.map (V.int .i64)) (by simp) hgO (by simp[hbO,hiv]) (by simp[hol]) (by simp) (by simp) ?_
  have e0:uns (List.replicate N (V.int .i64 0))=iv (lz N fun _=>0):=by rw[←J1];simp[uns]
  rw[e0]
  simp
  refine aC ?_
  have hqN:q<N:=by omega
  simp[hqN,Il]
  have hle:(lz N fun c=>if c=q then(-1:Int) else 0)=lz N (qR q):=rfl
  rw[hle]
  obtain⟨b2,hb2⟩: ∃b2,b2=upd b gO (some ⟨1,iv (lz N (qR q))⟩):=⟨_,rfl⟩
  rw[←hb2]
  have b2O:b2 gO=some ⟨1,iv (lz N (qR q))⟩:=by rw[hb2];simp
  have hT2:TT b2 ⟨gT,gR,gB,gF,ids⟩ (bI n m (eQ p n m) rows t fr):=hT.fV fun x y hx hy=>by rw[hb2,aJ _ _ _ _ (fun e=>hgn (by rw[←e];exact hx))];exact hy
  have b2l: ∀x y,bl x=some y→b2 x=some y:=fun x y hx=>by
   rw[hb2,aJ _ _ _ _ (fun e=>by rw[e,blO] at hx;cases hx)];exact hbl x y hx
  clear hb2
  have hst:=fun K'=>G2 (bl:=b2) (K:=K') n m (eQ p n m) rows ⟨gT,gR,gB,gF,ids⟩ t fr (wO (pC p)) (q+1) (qR q) gO hml hnl sX hS (Kj _ q) (fun c=>by unfold qR;split<;>decide) (fun c hc=>by unfold qR;rw[if_neg (by omega)]) hT2 (by rw[hN];exact b2O) hgO hgn
  rw[hN] at hst
  refine hst _ (fun b3 t3 fr3 hS3 hT3 hx3=> ?_) (fun b3 e=>by omega)
  simp
  refine aC ?_
  simp[wq,aB]
  refine⟨⟨q+1,t3,fr3,lz N (qR q),b3⟩,⟨by simp only;omega,hS3,hT3,⟨hx3 gO _ b2O hgn,by simp⟩,fun x y hx=>hx3 x y (b2l x y hx) fun hm2=>by have:=hfr x hm2;rw[this] at hx;cases hx⟩,by simp only;omega,rfl,by simp[h.bA],Sub.refl _⟩
 ·have hqe:q=n:=by omega
  subst hqe
  have hB:Lp.rO q m (eQ p q m) N (wO (pC p)) (Lp.xb m N t):=by rw[←hN];exact hS.sel.done hS.mid.He.1 hS.mid.He.2
  have eo:=Lp.uI hB
  rw[←hN] at eo
  rw[eo]
  have hD:Lp.Den (Lp.lid 1000 m) q (Lp.xb m N t):=Lp.Cr hS.mid.inv.z (by omega)
  simp only[V1]
  have e1:fxs q (fun c=>if c<q then Lp.xb m (q+m) t c else 0)=fxs q (Lp.xb m N t):=sD fun c hc=>by rw[if_pos hc,hN]
  have e2:Lp.dot q (wO (pC p)) (fun c=>if c<q then Lp.xb m (q+m) t c else 0)=Lp.dot q (wO (pC p)) (Lp.xb m N t):=Lp.yM fun c hc=>by rw[if_pos hc,hN]
  rw[e1,e2]
  clear hB eo e1 e2
  obtain⟨xs,hxs⟩: ∃xs,Lp.xb m N t=xs:=⟨_,rfl⟩
  have bT:b gT=_:=hT.hd
  have bB:b gB=_:=hT.ba
  have bG:b gR=_:=hT.dI.top
  have hil:=hT.dI.len
  simp only[bI] at bT bB bG hil
  rw[hN] at bT
  have hrl:=sX.len
  refine aC ?_
  simp[Pg.v,h.bA]
  refine⟨by omega,by unfold maxLen;omega,fun gx hgx hbx=> ?_⟩
  have xT: ¬ gx=gT:=fun e=>by rw[e,bT] at hbx;cases hbx
  have xR: ¬ gx=gR:=fun e=>by rw[e,bG] at hbx;cases hbx
  have xB: ¬ gx=gB:=fun e=>by rw[e,bB] at hbx;cases hbx
  have xi:gx∉ids:=fun hm2=>by
   obtain⟨j,hj⟩:=List.mem_iff_getElem?.1 hm2
   rw[hT.dI.row j gx hj] at hbx;cases hbx
  have Gp: ∀X,Sub bl (upd b gx X):=fun X x y hx=>by
   have:=hbl x y hx
   rw[aJ _ _ _ _ (fun e=>by rw[e,hbx] at this;cases this)];exact this
  refine aL (fun k:Nat=> [(0,.ptr p.v),(5,.loc gT 6 0 0),(9,.lsl gx 1 0 q),(59,.int .i64 q),(60,.int .i64 k)]) (fun k=>upd b gx (some ⟨1,fxp q k⟩)) (fun k=>k≤q) (fun k=>q - k) _ 0 (Nat.zero_le _) ⟨rfl,by simp[Pg.v,h.bA],sub_eq (by rw[Em])⟩ ?_
  intro k hk
  have wk:IntKind.i64.wrap ((k:Int)+1)=(k:Int)+1:=i64_in (by omega) (by omega)
  refine aC ?_
  simp
  refine⟨fun hkq=> ?_,fun hkq=> ?_⟩
  ·refine aD (eP 0 (by decide)) ?_
   simp[hkq]
   simp[wk,aB,show((0:Int):Rat)=0 from rfl,Lf hkq]
   refine⟨k+1,by omega,by omega,rfl,by simp[h.bA],sub_eq rfl⟩
  have hkq:k=q:=by omega
  subst hkq
  rw[Kq]
  simp[xT,Ne.symm xT,bT]
  refine aL (fun i:Nat=> [(0,.ptr p.v),(5,.loc gT 6 0 0),(9,.lsl gx 1 0 k),(71,.lsl gB 1 0 rows.length),(72,.int .i64 rows.length),(73,.int .i64 i)]) (fun i=>upd b gx (some ⟨1,fxs k (xUp N rows t i)⟩)) (fun i=>i≤rows.length) (fun i=>rows.length - i) _ 0 (Nat.zero_le _) ⟨rfl,by simp[Pg.v,h.bA],sub_eq rfl⟩ ?_
  intro i hi
  have wi:IntKind.i64.wrap ((i:Int)+1)=(i:Int)+1:=i64_in (by omega) (by omega)
  refine aE ?_
  simp
  refine aE ?_
  simp
  refine⟨fun hir=> ?_,fun hir=> ?_⟩
  ·refine cI (cC ?_)
   refine aE ?_
   simp[Ne.symm xB,bB,hir]
   obtain⟨gi,hgi,Ce,Qj,tV⟩:=hT.dI.at i (by simp only[bI];exact hir)
   simp only[bI] at tV
   have hgj: ∀h,ids[i]'h=gi:=fun h=>by rw[List.getElem?_eq_getElem h] at hgi;exact Option.some.inj hgi
   have xgi: ¬ gi=gx:=fun e=>xi (e▸Ce)
   have hbk:t.bs (atR rows i)<k:=hS.mid.low _ (dA hir)
   have aE2:(t.bs (atR rows i):Int)<k:=by omega
   have aJX:(N:Int)<(k:Int)+m+1:=by omega
   have hdz:=Lp.qA hS.mid.inv.z
   have aJM:=Lp.Pj hS.mid.inv.z
   have aJF:=Lp.Ni hS.mid.inv.z (sX.lt (dA hir)) (show N<k+m+1 by omega)
   have hzc:=Lp.eW hS.mid.inv.z (sX.lt (dA hir)) (show N<k+m+1 by omega)
   obtain⟨zx,hzx⟩: ∃zx,Lp.zt m (eQ p k m) t (atR rows i) N=zx:=⟨_,rfl⟩
   obtain⟨dx,hdx⟩: ∃dx,Lp.dz m (eQ p k m) t=dx:=⟨_,rfl⟩
   rw[hdx] at hdz aJM hzc
   simp only[hdx] at bT
   rw[hzx] at aJF hzc
   have qQ:=Lp.nZ hml
   obtain⟨td,htd⟩: ∃td,(10:Nat)^66=td:=⟨_,rfl⟩
   have h24:td<LB^24:=by rw[←htd];decide+kernel
   rw[htd] at qQ
   have hln:(lim zx.natAbs).length≤300000:=Nat.le_trans (aH.2 (Nat.lt_of_le_of_lt (show zx.natAbs≤td by omega) h24)) (by decide)
   have hld:(lim dx.natAbs).length≤300000:=Nat.le_trans (aH.2 (Nat.lt_of_le_of_lt (show dx.natAbs≤td by omega) h24)) (by decide)
   have C7:=rS zx dx.natAbs (by omega) hln hld
   have hmk:mkRat zx dx.natAbs=t.X (atR rows i) N:=by
    have e1:((dx.natAbs:Nat):Rat)=(dx:Rat):=by
     rw[←Rat.intCast_natCast,Int.natAbs_of_nonneg (by omega)]
    have e2:(0:Rat)<(dx:Rat):=Rat.intCast_pos.2 hdz
    rw[Rat.mkRat_eq_div,e1,hzc]
    grind
   rw[hmk] at C7
   clear htd h24 qQ
   refine eE aO [0,1,2,3,4,5,6,7,8,9,10,11,12,13,14,15,16,17,18,19,20,21] 1 22 (by kernel_rfl) ?_
   simp[Ne.symm xT,Ne.symm xR,bT,bG,hir,hgj,tV,xgi,hil,show N<k+m+1 by omega,aJX,hbk,aE2,hzx]
   refine aP C7 ?_
   simp[hbk,aE2]
   refine cN (i:=22) (by kernel_rfl) rfl rfl rfl ?_
   have hfv:V.ptr (rq (t.X (atR rows i) N)).c=fv (some (t.X (atR rows i) N)):=rfl
   rw[hfv]
   simp[hbk,Kl]
   refine Dy ?_
   simp
   refine aC ?_
   simp[wi,aB]
   refine⟨i+1,by omega,by omega,rfl,by simp[h.bA],sub_eq ?_⟩
   funext x
   simp only[aA]
   split
   ·congr 2
    exact sD fun c _=>Dm hS.mid.inv.z.ti sX hir c
   ·rfl
  have hie:i=rows.length:=by omega
  subst hie
  have exs:fxs k (xUp N rows t rows.length)=fxs k xs:=sD fun c hc=>by
   have:=Jl (N:=N) sX (fun j hj hn=>(hS.mid.inv.dead j hj hn).1) hc
   rw[this,hxs]
  rw[exs]
  refine aD (eP 0 (by decide)) ?_
  simp[show((0:Int):Rat)=0 from rfl]
  rw[hxs] at hD
  have hCi: ∀c,c<k→(pC p c).natAbs≤1000:=fun c _=>kO h.cm c
  have Nm:=hD.sum (W:=1000) hCi (by decide)
  have h72:(k+1)*(1000*Lp.lid 1000 m)≤10^72:=Nat.le_trans (Nat.mul_le_mul (show k+1≤101 by omega) (Nat.mul_le_mul_left _ (Lp.nZ hml))) (by decide+kernel)
  have h66:Lp.lid 1000 m≤10^72:=Nat.le_trans (Lp.nZ hml) (by decide+kernel)
  have hfS: ∀j,j≤k→few 100000 (Lp.S j fun c=>(pC p c:Rat)*xs c):=fun j hj=>T5 (Lp.oH (Nm j hj) h72)
  have hfx: ∀c,c<k→few 100000 (xs c):=fun c hc=>T5 (Lp.oH (hD.sm hc) h66)
  have hfC: ∀c,few 100000 (pC p c:Rat):=fun c=>kI (k:=24) (fits_int (by have:=kO h.cm c;unfold pC;omega)) (by decide)
  have hfm: ∀c,c<k→few 100000 (xs c*(pC p c:Rat)):=fun c hc=>T5 (Lp.oH (Lp.Ql (Lp.oH (hD.sm hc) (Lp.nZ hml)) (Lp.Rc (hCi c hc) (by decide))) (by decide+kernel))
  clear Nm h72 h66
  refine aL (fun j:Nat=> [(0,.ptr p.v),(9,.lsl gx 1 0 k),(102,.lsl gx 1 0 k),(103,.int .i64 k),(104,.int .i64 j),(13,fv (some (Lp.S j fun c=>(pC p c:Rat)*xs c)))]) (fun _=>upd b gx (some ⟨1,fxs k xs⟩)) (fun j=>j≤k) (fun j=>k - j) _ 0 (Nat.zero_le _) ⟨rfl,by simp[Lp.S],Sub.refl _⟩ ?_
  intro j hj
  have wj:IntKind.i64.wrap ((j:Int)+1)=(j:Int)+1:=i64_in (by omega) (by omega)
  refine aE ?_
  simp
  refine aE ?_
  simp
  refine⟨fun hjk=> ?_,fun hjk=> ?_⟩
  ·refine cI (cC ?_)
   refine aC ?_
   simp[hjk,Pg.v,h.c]
   refine aD (eP (pC p j) (by have:=hCi j hjk;omega)) ?_
   simp
   refine aD (r:=fv (some (xs j*(pC p j:Rat)))) (yW _ _ (hfx j hjk) (hfC j)) ?_
   simp
   have aD5:(Lp.S j fun c=>(pC p c:Rat)*xs c)+xs j*(pC p j:Rat)=Lp.S (j+1) fun c=>(pC p c:Rat)*xs c:=by rw[Lp.S];grind
   have hpl:=G9 _ _ (hfS j (by omega)) (hfm j hjk)
   rw[aD5] at hpl
   refine aD (r:=fv (some (Lp.S (j+1) fun c=>(pC p c:Rat)*xs c))) hpl ?_
   simp
   refine aC ?_
   simp[wj,aB]
   refine⟨j+1,by omega,by omega,rfl,by simp[Pg.v,h.c],Sub.refl _⟩
  ·have hje:j=k:=by omega
   subst hje
   rw[hxs]
   have hf1:frz (dropB (upd b gx (some ⟨1,fxs j xs⟩)) bl) 1 (.lsl gx 1 0 j)=some (.sl (fxs j xs)):=cE hgx (by
    cases hv:bl gx with
    | none => rfl
    | some y => have := hbl gx y hv; rw [hbx] at this; cases this) (bS _ _ _) (by simp) (Qa _ _)
   refine aQ [.int .i64 0,.lsl gx 1 0 j,fv (some (Lp.dot j (wO (pC p)) xs))] 2 (by simp;rfl) ?_ (Gp _)
   simp only[retV]
   rw[C3]
   simp only[List.mapM_cons,List.mapM_nil,hf1,uW]
   simp[frz]

noncomputable def aNC (n : Nat) (C : Nat → Rat) : Option (Option (Nat → Rat)) → V
 | none => .agg [.int .i64 2, .sl [], .bool false, .sl [], .sl []]
 | some none => .agg [.int .i64 3, .sl [], .bool false, .sl [], .sl []]
 | some (some x) => .agg (.int .i64 0 :: .sl (rqs n x) :: (rq (Lp.dot n C x)).c)
structure aLW where
 j:Nat
 gX:Int
 b:Int→Option Blk

theorem Cw (s:Str):(aF s.js).length≤s.js.length:=by
 unfold aF cH
 rw[List.length_map]
 exact Nat.le_trans (List.length_filter_le _ _) (by simp)
theorem aE5 {s:Str} (h:SOk s):nR s≤12:=by have:=Cw s;have:=h.nj;unfold nR;omega
theorem Ie {s:Str} (h:SOk s):nC s≤16:=by
 have:=kJ s.ms s.ms.length;have:=h.nm
 unfold nC bA;omega
theorem Ej {l:List Int} {n:Nat} (h: ∀i,i<l.length→ -100≤lat l i∧lat l i≤100):(lat l n).natAbs≤100:=by
 by_cases hn:n<l.length
 ·have:=h n hn;omega
 ·have:lat l n=0:=by simp[lat,hn]
  rw[this];decide
theorem Hj {s:Str} {l:List Int} (h:LOk s l): ∀x,x∈right s l→x.natAbs≤100:=by
 intro x hx
 unfold right at hx
 obtain⟨j, -,hx⟩:=List.mem_flatMap.1 hx
 have h1:=Ej (n:=(2*j).toNat) h.f
 have h2:=Ej (n:=(2*j+1).toNat) h.f
 rcases List.mem_cons.1 hx with rfl | hx
 ·omega
 ·have:=List.mem_singleton.1 hx;subst this;omega
theorem Qc {s:Str} (h:SOk s) (i c:Nat) (hc:c<nC s):(ent s i c).natAbs≤100:=by
 obtain⟨-,h2⟩:=mV s c hc
 have h3:=M4 h (i*s.ms.length+(aZ s c).1.toNat)
 unfold ent
 rw[Int.natAbs_mul]
 rcases h2 with e | e<;>rw[e]<;>simp<;>omega
theorem Ui {s:Str} (h:SOk s): ∀x,x∈aTo s (nR s*nC s)→x.natAbs≤100:=by
 intro x hx
 unfold aTo at hx
 obtain⟨t,ht,rfl⟩:=List.mem_map.1 hx
 have ht':t<nR s*nC s:=by simpa using ht
 refine Qc h _ _ (Nat.mod_lt _ ?_)
 rcases Nat.eq_zero_or_pos (nC s) with e | e
 ·rw[e] at ht';omega
 ·exact e
theorem rQ {s:Str} {l:List Int} (h:LOk s l):PgN (bU s l) (nC s) (nR s):=by
 have h1:=aE5 h.sok
 have h2:=Ie h.sok
 refine⟨rfl,rfl,by simp[bU],eX s l,by simp[bU],fun x hx=> ?_,fun x hx=> ?_,fun x hx=> ?_,by omega,by omega⟩
 ·have:=Ui h.sok x hx;omega
 ·have:=Hj h x hx;omega
 ·have:x=0:=by
   simp only[bU] at hx
   exact(List.mem_replicate.1 hx).2
  rw[this];decide

theorem lT (s:Str) (l:List Int) (hL:LOk s l):RO Tryz.prog 72 [.ptr s.c,.sl (iv l),.int .i64 0,.int .i64 0] (.agg (bU s l).v):=by
 have:=dK 2 (tQ s l hL) (Mn _)
 rwa [Ry] at this
noncomputable def Fu (s : Str) (l : List Int) : Bool := C9 (nC s) (nR s) (eQ (bU s l) (nC s) (nR s))
noncomputable def iO (s : Str) (l : List Int) : Bool := lOk s l && Fu s l
theorem Q5 (s:Str) (l:List Int) (hL:LOk s l):RO Tryz.prog 75 [.ptr s.c,.sl (iv l)] (.bool (Fu s l)):=by
 have hpg:=rQ hL
 obtain⟨p,hp⟩: ∃p,bU s l=p:=⟨_,rfl⟩
 have hF:=lT s l hL
 have hq:Fu s l=C9 (nC s) (nR s) (eQ p (nC s) (nR s)):=by rw[←hp];rfl
 rw[hp] at hpg hF
 rw[hq]
 refine aK Tryz.func75 rfl rfl (by rw[Tryz.ntmps75];simp) fun bl=> ?_
 rw[Tryz.ntmps75,Tryz.results75]
 refine aE ?_
 simp
 refine aE ?_
 simp
 refine aD hF ?_
 simp[Pg.v]
 intro g hg hbg
 refine cK 1 5 (.ptr p.v) bl (by intro z b hz;simp only[aA] at hz ⊢;grind) (by simp[frz,dropB,hbg,V.cl,Pg.v]) ?_
 refine aC ?_
 simp
 refine K7 p (nC s) (nR s) hpg (fun b' t h4 h0 hb=> ?_) (fun b' g' t h4 h0 _ _ hb=> ?_)
 ·have hno:C9 (nC s) (nR s) (eQ p (nC s) (nR s))=false:=by
   rw[Bool.eq_false_iff];exact fun e=>h0 ((mA.has h4).2 e)
  simp
  exact aQ [.bool false] 0 (by simp) (by simp[frz,hno]) hb
 ·have Cm:=(mA.has h4).1 h0
  simp
  exact aQ [.bool true] 0 (by simp) (by simp[frz,Cm]) hb
theorem gZ (s:Str) (l:List Int) (hs:s.sz) (hl:l.length≤1048576):RO Tryz.prog 18 [.agg s.c,.sl (iv l)] (.bool (iO s l)):=by
 refine aK Tryz.func18 rfl rfl (by rw[Tryz.ntmps18];simp) fun bl=> ?_
 rw[Tryz.ntmps18,Tryz.results18]
 refine aE ?_
 simp[Str.c]
 intro g hg hbg
 refine cK 1 2 (.ptr s.c) bl (by intro z b hz;simp only[aA] at hz ⊢;grind) (by simp[frz,dropB,hbg,V.cl,Str.c]) ?_
 refine cI ?_
 refine aX [(1,.sl (iv l)),(2,.ptr s.c)] _ bl 4 (.bool (iO s l)) ⟨rfl,by simp[Str.c],Sub.refl _⟩ rfl ?_ ?_
 ·simp[Str.c]
  refine aD (nD s l hs.js hs.ms hs.nm (by omega)) ?_
  simp
  refine⟨fun h=> ?_,fun h=> ?_⟩
  ·simp[iO,h]
   refine aD (Q5 s l (pH h)) ?_
   simp
  ·simp[iO,h]
 simp
 refine aC ?_
 simp
 exact aS (by simp) rfl rfl

def xl (n:Nat) (x:Nat→Rat):List (Option Rat):=(List.range n).map fun c=>some (x c)
@[simp] theorem Vl (n : Nat) (x : Nat → Rat) : (xl n x).length = n := by simp [xl]
theorem Qz (n:Nat) (x:Nat→Rat):fxs n x=fvs (xl n x):=by simp[fvs,xl,fxs]
theorem Lb {n k:Nat} (x:Nat→Rat) (h:k≤n):(fxs n x).take k=fvs (xl k x):=by
 rw[←Qz]
 unfold fxs
 rw[←List.map_take,List.take_range,Nat.min_eq_left h]
theorem J9 {p:Pg} {n m:Nat} (h:PgN p n m) {x:Nat→Rat} (ho:Lp.opt n m (eQ p n m) (n+m) (wO (pC p))=some (some x)) (c:Nat):fits (x c):=by
 rcases Lp.answers (wO (pC p)) h.init with ⟨e,_⟩| ⟨e,_⟩| ⟨y,e,_,hd,h0⟩
 ·rw[ho] at e;cases e
 ·rw[ho] at e;cases e
 ·rw[ho] at e
  have e:=Option.some.inj (Option.some.inj e)
  subst e
  by_cases hc:c<n
  ·exact Aw (Lp.oH (hd.sm hc) (M6 h.ml))
  ·rw[h0 c (by omega)];exact fits_int (n:=0) (by decide)
theorem Ph {n:Nat} {x:Nat→Rat} (h: ∀c,fits (x c)):okL (xl n x):=fun y hy=>by
 obtain⟨c,_,rfl⟩:=List.mem_map.1 hy
 exact okS (h c)
def tG (s:Str) (n:Nat):Option (Option (Nat→Rat))→V
 | some (some x) => .tup [.sl (fvs (fH s.ms (xl (nC s) x) (nC s))), .sl ((fxs n x).drop (nC s)), .bool true]
 | _ => .tup [.sl [], .sl [], .bool false]
theorem Au (s:Str) (hm:s.ms.length≤8) (p:Pg) (n m:Nat) (h:PgN p n m) (hn:nC s≤n):RO Tryz.prog 71 [.ptr s.c,.agg p.v] (tG s n (Lp.opt n m (eQ p n m) (n+m) (wO (pC p)))):=by
 have hS:=Fa p n m h
 obtain⟨o,ho⟩: ∃o,Lp.opt n m (eQ p n m) (n+m) (wO (pC p))=o:=⟨_,rfl⟩
 have xP:=fun x (e:o=some (some x))=>J9 h (ho.trans e)
 rw[ho] at hS ⊢
 have hlen:(bA s.ms).length=nC s:=rfl
 refine aK Tryz.func71 rfl rfl (by rw[Tryz.ntmps71];simp) fun bl=> ?_
 rw[Tryz.ntmps71,Tryz.results71]
 refine aE ?_
 simp[Pg.v]
 intro g hg hbg
 refine cK 1 3 (.ptr p.v) bl (by intro z b hz;simp only[aA] at hz ⊢;grind) (by simp[frz,dropB,hbg,V.cl,Pg.v]) ?_
 refine aE ?_
 simp[Pg.v]
 refine aD hS ?_
 rcases o with _ | _ | x
 ·simp[V1]
  refine aC ?_
  simp
  exact aQ [.nils,.nils,.bool false] 1 (by simp) (by simp[frz,V.cl,tG]) (Sub.refl _)
 ·simp[V1]
  refine aC ?_
  simp
  exact aQ [.nils,.nils,.bool false] 1 (by simp) (by simp[frz,V.cl,tG]) (Sub.refl _)
 ·have hF:=Lh s (xl (nC s) x) hm (Ph (xP x rfl)) (by simp[nC])
  rw[hlen] at hF
  simp[V1]
  refine cI ?_
  refine aC ?_
  simp
  refine aC ?_
  simp
  refine aD (pW s hm) ?_
  simp[hlen]
  have hcl: ∀y,y∈fxs n x→1=y.length:=fun y hy=>by
   obtain⟨c,_,rfl⟩:=List.mem_map.1 hy
   rfl
  have hni:(nC s:Int)≤n:=by omega
  refine bX aO (by kernel_rfl) ?_
  simp[sliV,hni,hn,Lb x hn]
  refine⟨hcl,aP hF ?_⟩
  have htk:(fxs n x).take n=fxs n x:=List.take_of_length_le (by simp)
  simp[sliV,hni,hn,htk]
  refine⟨hcl,?_⟩
  have e:retV [.sl (fvs (fH s.ms (xl (nC s) x) (nC s))),.sl ((fxs n x).drop (nC s)),.bool true]=tG s n (some (some x)):=rfl
  exact aQ [.sl (fvs (fH s.ms (xl (nC s) x) (nC s))),.sl ((fxs n x).drop (nC s)),.bool true] 1 (by simp) (by rw[e];simp[frz,V.cl,tG]) (Sub.refl _)
noncomputable def yA (s : Str) : Option (Option (Nat → Rat)) → List (Option Rat)
 | some (some x) => fH s.ms (xl (nC s) x) (nC s)
 | _ => [none]
noncomputable def jM (s : Str) (l : List Int) : List (Option Rat) :=
 if lOk s l=true then yA s (Lp.opt (nC s) (nR s) (eQ (bU s l) (nC s) (nR s)) (nC s+nR s) (wO (pC (bU s l)))) else [none]
theorem Lo {s:Str} (hs:SOk s) {o:Option (Option (Nat→Rat))} (h: ∀x,o=some (some x)→ ∀c,fits (x c)):okL (yA s o)∧(yA s o).length≤24:=by
 have:=hs.nm
 rcases o with _ | _ | x
 ·exact⟨mZ,by simp[yA]⟩
 ·exact⟨mZ,by simp[yA]⟩
 ·exact⟨E0 s.ms (Ph (h x rfl)) _,by show(fH _ _ _).length≤24;rw[dP];omega⟩
theorem Z9 {s:Str} {l:List Int} (h:lOk s l=true):sOk s=true:=by
 unfold lOk at h
 rw[Bool.and_eq_true] at h
 exact h.1
theorem Jt (s:Str) (l:List Int):okL (jM s l)∧(jM s l).length≤24:=by
 unfold jM
 by_cases h:lOk s l=true
 ·rw[if_pos h]
  exact Lo (pH h).sok fun x e=>J9 (rQ (pH h)) e
 ·rw[if_neg h];exact⟨mZ,by simp⟩
theorem oN (s:Str) (l:List Int) (hs:s.sz) (hl:l.length≤1048576):NW Tryz.prog 16 [.agg s.c,.sl (iv l)] (dV (stQ (jM s l)) (bE (jM s l))):=by
 obtain⟨hok,hlen⟩:=Jt s l
 refine fZ Tryz.func16 rfl rfl (by rw[Tryz.ntmps16];simp) fun bl=> ?_
 rw[Tryz.ntmps16,Tryz.results16]
 refine aE ?_
 simp[Str.c]
 intro g hg hbg
 refine cK 1 2 (.ptr s.c) bl (by intro z b hz;simp only[aA] at hz ⊢;grind) (by simp[frz,dropB,hbg,V.cl,Str.c]) ?_
 refine aC ?_
 simp[Str.c]
 refine aD (nD s l hs.js hs.ms hs.nm (by omega)) ?_
 simp
 refine⟨fun h=> ?_,fun h=> ?_⟩
 ·have hz:jM s l= [none]:=by unfold jM;rw[if_neg (by simp[h])]
  rw[hz]
  exact cP [.nils,.bool false] [] (by simp) (nX _) (by simp) (Sub.refl _)
 have hz:jM s l=yA s (Lp.opt (nC s) (nR s) (eQ (bU s l) (nC s) (nR s)) (nC s+nR s) (wO (pC (bU s l)))):=by unfold jM;rw[if_pos h]
 have hT:=Au s (pH h).sok.nm (bU s l) (nC s) (nR s) (rQ (pH h)) (Nat.le_refl _)
 have hF:=lT s l (pH h)
 rw[hz] at hok hlen ⊢
 obtain⟨o,ho⟩: ∃o,Lp.opt (nC s) (nR s) (eQ (bU s l) (nC s) (nR s)) (nC s+nR s) (wO (pC (bU s l)))=o:=⟨_,rfl⟩
 rw[ho] at hT hok hlen ⊢
 obtain⟨p,hp⟩: ∃p,bU s l=p:=⟨_,rfl⟩
 rw[hp] at hT hF
 refine aD hF ?_
 simp
 refine aD hT ?_
 rcases o with _ | _ | x
 ·simp[tG]
  exact cP [.nils,.bool false] [] (by simp) (nX _) (by simp) (Sub.refl _)
 ·simp[tG]
  exact cP [.nils,.bool false] [] (by simp) (nX _) (by simp) (Sub.refl _)
 ·simp[tG]
  refine dN (sO (yA s (some (some x))) hok (by omega)) fun v gs b' o f fr=> ?_
  obtain⟨w,rfl,ow,w1,w2⟩:=wD o
  simp
  exact cP [w,.bool (bE (yA s (some (some x))))] gs (by simp) o (fun x hx=>f x hx) (fun x y hy=>cL f fr hy)
theorem iQ (s:Str) (l:List Int) (hs:s.sz) (hl:l.length≤1048576):RO Tryz.prog 16 [.agg s.c,.sl (iv l)] (.tup [.sl (rv (stQ (jM s l))),.bool (bE (jM s l))]):=by
 have:=dK 3 (oN s l hs hl) (O6 _ _ 0)
 rwa [Im] at this

def cmN (v:Int) (L:Nat) (q:Rat):Prop:= ∃a:Int,q*v=a∧a.natAbs≤L
theorem cmN.add {v:Int} {L M:Nat} {p q:Rat} (hp:cmN v L p) (hq:cmN v M q):cmN v (L+M) (p+q):=by
 obtain⟨a,h1,h2⟩:=hp
 obtain⟨b,g1,g2⟩:=hq
 refine⟨a+b,by rw[Rat.intCast_add,←h1,←g1];grind,?_⟩
 have:=Int.natAbs_add_le a b
 omega
theorem cmN.int {v:Int} {L:Nat} {q:Rat} (hq:cmN v L q) (e:Int) {M:Nat} (he:e.natAbs≤M):cmN v (M*L) (q*(e:Rat)):=by
 obtain⟨a,h1,h2⟩:=hq
 refine⟨e*a,by rw[Rat.intCast_mul,←h1];grind,?_⟩
 rw[Int.natAbs_mul]
 exact Nat.mul_le_mul he h2
theorem cmN.mono {v:Int} {L M:Nat} {q:Rat} (hq:cmN v L q) (h:L≤M):cmN v M q:=by
 obtain⟨a,h1,h2⟩:=hq
 exact⟨a,h1,by omega⟩
theorem cmN.zero (v:Int) (L:Nat):cmN v L 0:=⟨0,by rw[Rat.zero_mul];rfl,by simp⟩
theorem cmN.sum {v:Int} {L:Nat} {f:Nat→Rat} : ∀n:Nat,(∀i,i<n→cmN v L (f i))→cmN v (n*L) (Lp.S n f)
 | 0, _ => cmN.zero v _
 | n + 1, h => by
   have h1:=cmN.sum n fun i hi=>h i (by omega)
   have h2:=h n (by omega)
   rw[Lp.S]
   have:=h1.add h2
   rwa [show n*L+L=(n+1)*L by rw[Nat.add_mul,Nat.one_mul]] at this
@[irreducible] def kD : Nat := 10 ^ 150
theorem Gv :100000000*kD<LB^24:=by unfold kD;decide+kernel
theorem K9 :fW*fW≤kD:=by unfold fW kD;decide+kernel
theorem iZ :fW≤kD:=by unfold fW kD;decide+kernel
theorem cmN.fits {v:Int} {q:Rat} {M:Nat} (hv:v≠0) (hl:v.natAbs≤kD) (h:cmN v (M*kD) q) (hM:M≤100000000):fits q:=by
 obtain⟨a,h1,h2⟩:=h
 have hc:=Gv
 have hm:M*kD≤100000000*kD:=Nat.mul_le_mul_right _ hM
 have h3:Lp.sm (100000000*kD) q:=⟨a,v,hv,h1,by omega,by omega⟩
 obtain⟨g1,g2⟩:=Lp.wQ h3
 exact⟨aH.2 (by omega),aH.2 (by omega)⟩
def dv (s:Str) (x:Nat→Rat) (t k:Nat):Rat:=Lp.S t fun c=>if(aZ s c).1=k then((aZ s c).2:Rat)*x c else 0
theorem Lq (s:Str) (x:Nat→Rat) (t k:Nat):dv s x (t+1) k=dv s x t k+if(aZ s t).1=k then((aZ s t).2:Rat)*x t else 0:=rfl
theorem Dr {v:Int} {L:Nat} {q:Rat} {e:Int} (h:cmN v L q) (he:e=1∨e= -1):cmN v L ((e:Rat)*q):=by
 have:=h.int e (M:=1) (by omega)
 rwa [Nat.one_mul,Rat.mul_comm] at this
theorem Nq {s:Str} {x:Nat→Rat} {v:Int} {L:Nat} (hx: ∀c,c<nC s→cmN v L (x c)) {t:Nat} (ht:t≤nC s) (k:Nat):cmN v (t*L) (dv s x t k):=cmN.sum t fun c hc=>by
 split
 ·exact Dr (hx c (by omega)) (mV s c (by omega)).2
 ·exact cmN.zero v L
theorem X6 {s:Str} (hs:SOk s) {x:Nat→Rat} {v:Int} (hv:v≠0) (hl:v.natAbs≤fW) (hx: ∀c,c<nC s→cmN v fW (x c)): ∀t,t≤nC s→ ∀k (hk:k<(fH s.ms (xl (nC s) x) t).length),(fH s.ms (xl (nC s) x) t)[k]=if(∃c,c<t∧(aZ s c).1=(k:Int)) then some (dv s x t k) else none
 | 0, _, k, hk => by
   rw[if_neg (fun⟨c,h,_⟩=>by omega)]
   simp[fH]
 | t + 1, ht, k, hk => by
   have ih:=X6 hs hv hl hx t (by omega)
   have hlt:=dP s.ms (xl (nC s) x) t
   have hkm:k<s.ms.length:=by rwa [dP] at hk
   obtain⟨⟨c0,c1⟩,c2⟩:=mV s t (by omega)
   have hxt:(xl (nC s) x).getD t none=some (x t):=by
    have:t<nC s:=by omega
    simp[xl,this]
   have hcA:(bA s.ms).getD t (0,0)=aZ s t:=rfl
   have hst:fH s.ms (xl (nC s) x) (t+1)=stI (fH s.ms (xl (nC s) x) t) (aZ s t) (some (x t)):=by rw[nV,hxt,hcA]
   have hvs:vsg (aZ s t).2 (some (x t))=some (((aZ s t).2:Rat)*x t):=by
    unfold vsg
    rcases c2 with e | e<;>rw[e]
    ·rw[if_neg (by omega)];rw[show((1:Int):Rat)=1 from rfl,Rat.one_mul]
    ·rw[if_pos (by omega)]
     show some (-(x t))=_
     rw[show((-1:Int):Rat)= -1 from rfl]
     congr 1;grind
   obtain⟨p,hp⟩: ∃p:Nat,(aZ s t).1=p:=⟨(aZ s t).1.toNat,by omega⟩
   have hpm:p<s.ms.length:=by omega
   have hdv:dv s x (t+1) k=dv s x t k+if(p:Int)=k then((aZ s t).2:Rat)*x t else 0:=by rw[Lq,hp]
   obtain⟨NW,hNW⟩: ∃z,(if((fH s.ms (xl (nC s) x) t).getD p none).isSome=true then op2 (· + ·) ((fH s.ms (xl (nC s) x) t).getD p none) (some (((aZ s t).2:Rat)*x t)) else some (((aZ s t).2:Rat)*x t))=z:=⟨_,rfl⟩
   have aJY:fH s.ms (xl (nC s) x) (t+1)=(fH s.ms (xl (nC s) x) t).set p NW:=by rw[hst,stI,hp,Int.toNat_natCast,hvs,hNW]
   simp only[aJY]
   rw[List.getElem_set,hdv]
   by_cases e:p=k
   ·subst e
    rw[if_pos rfl,if_pos rfl,if_pos ⟨t,by omega,hp⟩,←hNW]
    have ihp:=ih p (by omega)
    rw[lM _ _ _ (show p<(fH s.ms (xl (nC s) x) t).length by omega),ihp]
    by_cases hc: ∃c,c<t∧(aZ s c).1=(p:Int)
    ·rw[if_pos hc,if_pos (show(some (dv s x t p)).isSome=true from rfl)]
     have hf:fits (dv s x t p+((aZ s t).2:Rat)*x t):=by
      have h1:=Nq hx (t:=t) (by omega) p
      have h2:=Dr (hx t (by omega)) c2
      have hnc:=Ie hs
      refine cmN.fits (M:=17) hv (Nat.le_trans hl iZ) ((h1.add h2).mono ?_) (by decide)
      have:=Nat.mul_le_mul (show t≤16 by omega) iZ
      have:=iZ
      omega
     show fit _=_
     unfold fit
     rw[if_pos hf]
    ·rw[if_neg hc,if_neg (show ¬ (none:Option Rat).isSome=true by simp)]
     have:dv s x t p=0:=Lp.gI fun c hc2=>if_neg fun h=>hc ⟨c,hc2,h⟩
     rw[this,Rat.zero_add]
   ·rw[if_neg e,if_neg (show ¬ (p:Int)=(k:Int) by omega),Rat.add_zero,ih k (by omega)]
    have aJR:(∃c,c<t+1∧(aZ s c).1=(k:Int)) ↔ ∃c,c<t∧(aZ s c).1=(k:Int):=⟨fun⟨c,h1,h2⟩=>⟨c,by
      by_cases hct:c=t
      ·subst hct;rw[hp] at h2;exact absurd (by omega) e
      ·omega,h2⟩,fun⟨c,h1,h2⟩=>⟨c,by omega,h2⟩⟩
    simp only[aJR]
theorem Sl (s:Str) {k:Nat} (hk:k<s.ms.length): ∃c,c<nC s∧(aZ s c).1=(k:Int):=by
 have hne: ∃p,p∈sA (s.ms.getD k default) k:=by
  unfold sA
  by_cases h:(s.ms.getD k default).kind=2
  ·exact⟨((k:Int), -1),by rw[if_pos h,if_neg (show ¬ (s.ms.getD k default).kind=1 by omega)];exact List.mem_append_right _ (List.mem_singleton.2 rfl)⟩
  ·exact⟨((k:Int),1),by rw[if_neg h];exact List.mem_append_left _ (List.mem_singleton.2 rfl)⟩
 obtain⟨p,hp⟩:=hne
 have hp1:p.1=(k:Int):=by
  unfold sA at hp
  rcases List.mem_append.1 hp with h | h
  ·split at h
   ·cases h
   ·rw[List.mem_singleton] at h;rw[h]
  ·split at h
   ·cases h
   ·rw[List.mem_singleton] at h;rw[h]
 have hm:p∈bA s.ms:=List.mem_flatMap.2 ⟨k,by simpa using hk,hp⟩
 obtain⟨c,hc,e⟩:=List.mem_iff_getElem.1 hm
 refine⟨c,hc,?_⟩
 have:aZ s c=p:=by simp[aZ,hc,e]
 rw[this,hp1]
def dD (s:Str) (x:Nat→Rat) (k:Nat):Rat:=dv s x (nC s) k
theorem Ju {s:Str} (hs:SOk s) {x:Nat→Rat} {v:Int} (hv:v≠0) (hl:v.natAbs≤fW) (hx: ∀c,c<nC s→cmN v fW (x c)):yA s (some (some x))=(List.range s.ms.length).map fun k=>some (dD s x k):=by
 apply List.ext_getElem
 ·show(fH _ _ _).length=_
  rw[dP];simp
 ·intro k h1 h2
  have hk:k<s.ms.length:=by simpa using h2
  have:=X6 hs hv hl hx (nC s) (Nat.le_refl _) k (by rw[dP];exact hk)
  rw[if_pos (Sl s hk)] at this
  simp only[List.getElem_map,List.getElem_range]
  exact this
theorem Jz {p:Pg} {n m:Nat} (h:PgN p n m) {x:Nat→Rat} (ho:Lp.opt n m (eQ p n m) (n+m) (wO (pC p))=some (some x)): ∃v:Int,v≠0∧v.natAbs≤fW∧ ∀c,c<n→cmN v fW (x c):=by
 rcases Lp.answers (wO (pC p)) h.init with ⟨e,_⟩| ⟨e,_⟩| ⟨y,e,_,⟨v,h1,h2,h3⟩,h0⟩
 ·rw[ho] at e;cases e
 ·rw[ho] at e;cases e
 ·rw[ho] at e
  have e:=Option.some.inj (Option.some.inj e)
  subst e
  have hc:=M6 h.ml
  exact⟨v,h1,Nat.le_trans h2 hc,fun c hlt=>by obtain⟨a,g1,g2⟩:=h3 c hlt;exact⟨a,g1,Nat.le_trans g2 hc⟩⟩

structure PJ (bl : Int → Option Blk) (s : Str) (l : List Int) (gp gB gc : Int) (p : PS) : Prop where
 hp:p.b gp=some ⟨5,[[.int .i64 (nR s),.int .i64 (nC s),.lsl p.g 1 0 p.n,.lsl gB 1 0 (nR s),.lsl gc 1 0 (nC s)]]⟩
 hc:p.b gc=some ⟨1,iv (List.replicate (nC s) 0)⟩
 hB:p.b gB=some ⟨1,iv (right s l)⟩
 ha:p.b p.g=some ⟨1,iv (aTo s p.n)⟩
 pp:p.g≠gp
 pc:p.g≠gc
 pB:p.g≠gB
 f:bl p.g=none
 sub:Sub bl p.b
 neg:p.g<0→aTo s p.n= []
structure R4 where
 v:V
 gs:List Int
 gc:Int
 gp:Int
 b:Int→Option Blk

def aAR (s:Str) (j sg:Int):Nat→Int:=fun c=>if(aZ s c).1=j then sg*(aZ s c).2 else 0
def aLM (s:Str) (j sg:Int) (k:Nat):Nat→Int:=fun c=>if c<k then aAR s j sg c else 0
def aLI (s:Str) (l:List Int) (j sg:Int):Pg:= { bU s l with c:=lz (nC s) (aAR s j sg) }

def tkI (k:Int):Int:=if k=1 then 1 else if k=2 then -1 else 0
def aDF (s:Str):List Int:=List.replicate (2*s.js.length) 0
def rAt (s:Str) (i k:Nat):Int:=lat (lZ s) (i*s.ms.length+k)
def tbI (s:Str) (i:Nat):Nat→Int
 | 0 => 0
 | k + 1 => tbI s i k - rAt s i k * tkI (s.ms.getD k default).kind
def aKF (s:Str) (i:Nat) (p:Int×Int):Int:=if(s.ms.getD p.1.toNat default).kind=3 then 0 else p.2*rAt s i p.1.toNat
def tcL (s:Str) (i:Nat) (l:List (Int×Int)):Int:=l.foldl (fun a p=>a - aKF s i p) 0
def tB (s:Str) (i:Nat):Int:=tbI s i s.ms.length
def aK4 (s:Str):Pg:= { bU s (aDF s) with b:=lz (nR s) (tB s) }

theorem Ux (p:Pg) (i:Nat):sgB p i=1∨sgB p i= -1:=by unfold sgB;split;exact .inr rfl;exact .inl rfl
theorem E9 {p:Pg} {n m:Nat} {x:Nat→Rat} :Lp.gJ n m (eQ p n m) (n+m) x ↔ (∀c,c<n→0≤x c)∧ ∀i,i<m→(Lp.S n fun c=>(pA p n i c:Rat)*x c)=(pB p i:Rat):=by
 have key: ∀i,i<m→((Lp.S n fun c=>eQ p n m i c*x c)=(sgB p i:Rat)*Lp.S n fun c=>(pA p n i c:Rat)*x c)∧eQ p n m i (n+m)=(sgB p i:Rat)*(pB p i:Rat):=fun i hi=>by
  constructor
  ·rw[←Lp.eL]
   exact Lp.aR fun c hc=>by
    have:eQ p n m i c=((sgB p i*pA p n i c:Int):Rat):=by unfold eQ eZ;rw[if_pos hc]
    rw[this,Rat.intCast_mul,Rat.mul_assoc]
  ·have:eQ p n m i (n+m)=((sgB p i*pB p i:Int):Rat):=by unfold eQ eZ;rw[if_neg (by omega),if_pos rfl]
   rw[this,Rat.intCast_mul]
 have cancel: ∀i (a b:Rat),(sgB p i:Rat)*a=(sgB p i:Rat)*b ↔ a=b:=fun i a b=>by
  constructor
  ·intro h
   rcases Ux p i with e | e
   ·rw[e,show((1:Int):Rat)=1 from rfl,Rat.one_mul,Rat.one_mul] at h;exact h
   ·rw[e,show((-1:Int):Rat)= -1 from rfl] at h;grind
  ·intro h;rw[h]
 constructor
 ·rintro⟨h1,h2⟩
  refine⟨h1,fun i hi=> ?_⟩
  obtain⟨k1,k2⟩:=key i hi
  have:=h2 i hi
  rw[k1,k2] at this
  exact(cancel i _ _).1 this
 ·rintro⟨h1,h2⟩
  refine⟨h1,fun i hi=> ?_⟩
  obtain⟨k1,k2⟩:=key i hi
  show(Lp.S n fun c=>eQ p n m i c*x c)=eQ p n m i (n+m)
  rw[k1,k2,h2 i hi]
theorem D5 (s:Str) (l:List Int) {i c:Nat} (hi:i<nR s) (hc:c<nC s):pA (bU s l) (nC s) i c=ent s i c:=by
 have hlt:i*nC s+c<nR s*nC s:=by
  have:=Nat.mul_le_mul_right (nC s) (show i+1≤nR s by omega)
  rw[Nat.add_mul,Nat.one_mul] at this
  omega
 have d1:(i*nC s+c) / nC s=i:=by rw[Nat.mul_comm,Nat.mul_add_div (by omega),Nat.div_eq_of_lt hc,Nat.add_zero]
 have d2:(i*nC s+c) % nC s=c:=by rw[Nat.mul_comm,Nat.mul_add_mod,Nat.mod_eq_of_lt hc]
 show(aTo s (nR s*nC s)).getD (i*nC s+c) 0=_
 unfold aTo
 rw[List.getD_eq_getElem?_getD,List.getElem?_map,List.getElem?_range hlt]
 simp[d1,d2]
theorem Ri (s:Str) (x:Nat→Rat) (i:Nat):(Lp.S (nC s) fun c=>(ent s i c:Rat)*x c)=Lp.S s.ms.length fun k=>(rAt s i k:Rat)*dD s x k:=by
 have e1:(Lp.S s.ms.length fun k=>(rAt s i k:Rat)*dD s x k)=Lp.S s.ms.length fun k=>Lp.S (nC s) fun c=>if(aZ s c).1=(k:Int) then(rAt s i k:Rat)*(((aZ s c).2:Rat)*x c) else 0:=Lp.aR fun k hk=>by
  unfold dD dv
  rw[←Lp.eL]
  exact Lp.aR fun c hc=>by
   split
   ·rfl
   ·rw[Rat.mul_zero]
 rw[e1,Lp.mH]
 refine Lp.aR fun c hc=> ?_
 obtain⟨⟨c0,c1⟩,c2⟩:=mV s c hc
 obtain⟨p,hp⟩: ∃p:Nat,(aZ s c).1=p:=⟨(aZ s c).1.toNat,by omega⟩
 rw[Lp.cU (k:=p) (by omega) fun k hk hne=>if_neg (by omega),if_pos hp]
 show((aZ s c).2*lat (lZ s) (i*s.ms.length+(aZ s c).1.toNat):Int)*x c=_
 rw[hp,Int.toNat_natCast,Rat.intCast_mul]
 unfold rAt
 grind
theorem zR (s:Str) {t k:Nat} (ht:t<(aF s.js).length) (hk:k<s.ms.length):rAt s (2*t) k=eqX s (aF s.js)[t] (mat s k)∧rAt s (2*t+1) k=eqY s (aF s.js)[t] (mat s k):=by
 have key: ∀(l:List Int) (n:Nat) (h:n<l.length),(l.flatMap fun j=> [cV s j,cW s j])[2*n]? =some (cV s l[n])∧(l.flatMap fun j=> [cV s j,cW s j])[2*n+1]? =some (cW s l[n]):=by
  intro l
  induction l with
  | nil => intro n h; simp at h
  | cons a l ih =>
    intro n h
    cases n with
    | zero=>simp
    | succ n=>
      have:=ih n (by simpa using h)
      rw[show 2*(n+1)=2*n+1+1 by omega,show 2*n+1+1+1=(2*n+1)+1+1 by omega]
      simpa using this
 obtain⟨k1,k2⟩:=key (aF s.js) t ht
 obtain⟨h1,e1⟩:=List.getElem?_eq_some_iff.1 k1
 obtain⟨h2,e2⟩:=List.getElem?_eq_some_iff.1 k2
 have g1:=rA (dM s) (jB s) (2*t) k h1 hk
 have g2:=rA (dM s) (jB s) (2*t+1) k h2 hk
 unfold rAt
 rw[qF]
 constructor
 ·rw[g1]
  show lat ((aF s.js).flatMap fun j=> [cV s j,cW s j])[2*t] k=_
  rw[e1]
  unfold lat cV
  rw[uR s k hk,List.getD_eq_getElem?_getD,List.getElem?_map,List.getElem?_eq_getElem hk];rfl
 ·rw[g2]
  show lat ((aF s.js).flatMap fun j=> [cV s j,cW s j])[2*t+1] k=_
  rw[e2]
  unfold lat cW
  rw[uR s k hk,List.getD_eq_getElem?_getD,List.getElem?_map,List.getElem?_eq_getElem hk];rfl
structure Bal (s : Str) (l : List Int) (D : Nat → Rat) : Prop where
 x: ∀t (h:t<(aF s.js).length),(Lp.S s.ms.length fun k=>(eqX s (aF s.js)[t] (mat s k):Rat)*D k)+(lN l (2*(aF s.js)[t].toNat):Rat)=0
 y: ∀t (h:t<(aF s.js).length),(Lp.S s.ms.length fun k=>(eqY s (aF s.js)[t] (mat s k):Rat)*D k)+(lN l (2*(aF s.js)[t].toNat+1):Rat)=0
theorem J5 (s:Str) {t:Nat} (h:t<(aF s.js).length):0≤(aF s.js)[t]:=by
 obtain⟨i,e,_⟩:=zL s.js t h
 omega
theorem iF (s:Str) (l:List Int) {t:Nat} (h:t<(aF s.js).length):pB (bU s l) (2*t)= -lN l (2*(aF s.js)[t].toNat)∧pB (bU s l) (2*t+1)= -lN l (2*(aF s.js)[t].toNat+1):=by
 have hn:=J5 s h
 obtain⟨h1,h2⟩:=vM s l (aF s.js) t h
 have e1:(2*(aF s.js)[t]).toNat=2*(aF s.js)[t].toNat:=by omega
 have e2:(2*(aF s.js)[t]+1).toNat=2*(aF s.js)[t].toNat+1:=by omega
 rw[e1] at h1
 rw[e2] at h2
 exact⟨h1,h2⟩
theorem Pr {s:Str} {l:List Int} {x:Nat→Rat} (h: ∀i,i<nR s→(Lp.S (nC s) fun c=>(pA (bU s l) (nC s) i c:Rat)*x c)=(pB (bU s l) i:Rat)):Bal s l (dD s x):=by
 have hr: ∀i,i<nR s→(Lp.S s.ms.length fun k=>(rAt s i k:Rat)*dD s x k)=(pB (bU s l) i:Rat):=fun i hi=>by
  rw[←Ri,←h i hi]
  exact Lp.aR fun c hc=>by rw[D5 s l hi hc]
 refine⟨fun t ht=> ?_,fun t ht=> ?_⟩
 ·have:=hr (2*t) (by unfold nR;omega)
  rw[(iF s l ht).1,Rat.intCast_neg] at this
  have e:(Lp.S s.ms.length fun k=>(eqX s (aF s.js)[t] (mat s k):Rat)*dD s x k)=Lp.S s.ms.length fun k=>(rAt s (2*t) k:Rat)*dD s x k:=Lp.aR fun k hk=>by rw[(zR s ht hk).1]
  rw[e,this];grind
 ·have:=hr (2*t+1) (by unfold nR;omega)
  rw[(iF s l ht).2,Rat.intCast_neg] at this
  have e:(Lp.S s.ms.length fun k=>(eqY s (aF s.js)[t] (mat s k):Rat)*dD s x k)=Lp.S s.ms.length fun k=>(rAt s (2*t+1) k:Rat)*dD s x k:=Lp.aR fun k hk=>by rw[(zR s ht hk).2]
  rw[e,this];grind
theorem Bal.mix {s:Str} {l m b:List Int} {D G:Nat→Rat} {w:Int} (h1:Bal s l D) (h2:Bal s m G) (hb: ∀i,lN b i=lN l i+w*lN m i):Bal s b fun k=>D k+(w:Rat)*G k:=by
 have key: ∀(e:Nat→Int) (i:Nat),(Lp.S s.ms.length fun k=>(e k:Rat)*D k)+(lN l i:Rat)=0→(Lp.S s.ms.length fun k=>(e k:Rat)*G k)+(lN m i:Rat)=0→(Lp.S s.ms.length fun k=>(e k:Rat)*(D k+(w:Rat)*G k))+(lN b i:Rat)=0:=fun e i g1 g2=>by
  have e1:(Lp.S s.ms.length fun k=>(e k:Rat)*(D k+(w:Rat)*G k))=(Lp.S s.ms.length fun k=>(e k:Rat)*D k)+(w:Rat)*Lp.S s.ms.length fun k=>(e k:Rat)*G k:=by
   rw[←Lp.eL,←Lp.wW]
   exact Lp.aR fun k _=>by grind
  rw[e1,hb i,Rat.intCast_add,Rat.intCast_mul]
  grind
 exact⟨fun t ht=>key _ _ (h1.x t ht) (h2.x t ht),fun t ht=>key _ _ (h1.y t ht) (h2.y t ht)⟩

structure Dcm (s : Str) (D : Nat → Rat) (v : Int) (M : Nat) : Prop where
 v0:v≠0
 vl:v.natAbs≤kD
 cm: ∀k,k<s.ms.length→cmN v (M*kD) (D k)
 ml:M≤1000
def eC (s:Str) (D:Nat→Rat):List (Option Rat):=(List.range s.ms.length).map fun k=>some (D k)
@[simp] theorem Pd (s : Str) (D : Nat → Rat) : (eC s D).length = s.ms.length := by simp [eC]
theorem Ld (s:Str) (D:Nat→Rat) {k:Nat} (h:k<s.ms.length):(eC s D).getD k none=some (D k):=by simp[eC,h]
theorem Dcm.fits {s:Str} {D:Nat→Rat} {v:Int} {M:Nat} (h:Dcm s D v M) {k:Nat} (hk:k<s.ms.length):Vm.fits (D k):=(h.cm k hk).fits h.v0 h.vl (by have:=h.ml;omega)
theorem Dcm.ok {s:Str} {D:Nat→Rat} {v:Int} {M:Nat} (h:Dcm s D v M):okL (eC s D):=fun y hy=>by
 obtain⟨k,hk,rfl⟩:=List.mem_map.1 hy
 exact okS (h.fits (by simpa using hk))
theorem kF (s:Str) (D:Nat→Rat):bE (eC s D)=true:=by simp[bE,eC]
theorem jQ {xs:List (Option Rat)} (h:okL xs):aM (bW xs)=xs:=by
 unfold aM bW
 rw[List.map_map]
 conv=>rhs;rw[←List.map_id xs]
 exact List.map_congr_left fun x hx=>H5 (h x hx)
theorem V2 {e:Mb→Int} {s:Str} (hs:SOk s) {j:Int} {D:Nat→Rat} {v:Int} {M:Nat} (h:Dcm s D v M) (he: ∀m,m∈s.ms→(e m).natAbs≤100) (hz: ∀m,m∈s.ms→ ¬ (j=m.a∨j=m.b)→e m=0):
  ∀n,n≤s.ms.length→pTo e s (eC s D) j n=some (Lp.S n fun k=>(e (mat s k):Rat)*D k)
 | 0, _ => rfl
 | n + 1, hn => by
   have ih:=V2 hs h he hz n (by omega)
   have mS:mat s n∈s.ms:=by rw[uR s n (by omega)];exact List.getElem_mem _
   have hms:=hs.nm
   have hml:=h.ml
   have c1: ∀k,k<s.ms.length→cmN v (100*(M*kD)) (D k*(e (mat s k):Rat)):=fun k hk=>(h.cm k hk).int _ (he _ (by rw[uR s k hk];exact List.getElem_mem _))
   have hS:(Lp.S n fun k=>(e (mat s k):Rat)*D k)=Lp.S n fun k=>D k*(e (mat s k):Rat):=Lp.aR fun k _=>Rat.mul_comm _ _
   have f1:Vm.fits (D n*(e (mat s n):Rat)):=cmN.fits (M:=100*M) h.v0 h.vl (by have:=c1 n (by omega);rwa [←Nat.mul_assoc] at this) (by omega)
   have f2:Vm.fits ((Lp.S n fun k=>D k*(e (mat s k):Rat))+D n*(e (mat s n):Rat)):=by
    have h1:=cmN.sum n fun i hi=>c1 i (by omega)
    have h2:=h1.add (c1 n (by omega))
    refine cmN.fits (M:=9*(100*M)) h.v0 h.vl (h2.mono ?_) (by omega)
    have h3:n*(100*(M*kD))≤8*(100*(M*kD)):=Nat.mul_le_mul_right _ (by omega)
    have h4:9*(100*M)*kD=8*(100*(M*kD))+100*(M*kD):=by rw[Nat.mul_assoc,Nat.mul_assoc];omega
    omega
   unfold pTo
   rw[ih,Ld s D (by omega)]
   split
   ·rw[hS]
    have e1:op2 (· * ·) (some (D n)) (some ((e (mat s n):Int):Rat))=some (D n*(e (mat s n):Rat)):=nI f1
    rw[e1]
    have e2:op2 (· + ·) (some (Lp.S n fun k=>D k*(e (mat s k):Rat))) (some (D n*(e (mat s n):Rat)))=some ((Lp.S n fun k=>D k*(e (mat s k):Rat))+D n*(e (mat s n):Rat)):=nI f2
    rw[e2,←hS,Lp.S,Rat.mul_comm (D n)]
   ·rename_i hno
    rw[Lp.S,hz _ mS hno,show((0:Int):Rat)=0 from rfl,Rat.zero_mul,Rat.add_zero]
theorem yE {s:Str} (hs:SOk s) (j:Int) {m:Mb} (hm:m∈s.ms):(eqX s j m).natAbs≤100∧(eqY s j m).natAbs≤100:=by
 obtain⟨⟨a1,a2⟩,b1,b2⟩:=Gr hs hm
 unfold eqX eqY
 constructor
 ·split
  ·omega
  ·split<;>omega
 ·split
  ·omega
  ·split<;>omega
theorem Es :isZ (some 0)=true:=by decide+kernel
theorem W4 {s:Str} (hk:sOk s=true) {D:Nat→Rat} {v:Int} {M:Nat} (h:Dcm s D v M):eO s (bW (eC s D))=true:=by
 unfold eO
 rw[hk,tC h.ok,kF]
 simp
theorem Ef {s:Str} (hk:sOk s=true) {l:List Int} (hl:eM s.js l=true) {D:Nat→Rat} {v:Int} {M:Nat} (h:Dcm s D v M) (hb:Bal s l D):oQ s l (bW (eC s D))=true:=by
 have hs:=pP hk
 unfold oQ
 rw[W4 hk h,hl,jQ h.ok]
 simp only[Bool.true_and,Bool.and_true]
 rw[List.all_eq_true]
 intro j hj
 obtain⟨t,ht,rfl⟩:=List.mem_iff_getElem.1 hj
 have hn:=J5 s ht
 have ej:(((aF s.js)[t].toNat:Nat):Int)=(aF s.js)[t]:=by omega
 have zx: ∀m,m∈s.ms→ ¬ ((aF s.js)[t]=m.a∨(aF s.js)[t]=m.b)→eqX s (aF s.js)[t] m=0:=fun m _ h=>by unfold eqX;rw[if_neg (fun e=>h (.inl e)),if_neg (fun e=>h (.inr e))]
 have zy: ∀m,m∈s.ms→ ¬ ((aF s.js)[t]=m.a∨(aF s.js)[t]=m.b)→eqY s (aF s.js)[t] m=0:=fun m _ h=>by unfold eqY;rw[if_neg (fun e=>h (.inl e)),if_neg (fun e=>h (.inr e))]
 unfold xL fX fY pX pY
 rw[ej,V2 hs h (fun m hm=>(yE hs _ hm).1) zx _ (Nat.le_refl _),V2 hs h (fun m hm=>(yE hs _ hm).2) zy _ (Nat.le_refl _)]
 have f0:Vm.fits 0:=zH
 have e1:op2 (· + ·) (some (Lp.S s.ms.length fun k=>(eqX s (aF s.js)[t] (mat s k):Rat)*D k)) (some (lN l (2*(aF s.js)[t].toNat):Rat))=some 0:=by
  have:=hb.x t ht
  rw[←this]
  exact nI (by rw[this];exact f0)
 have e2:op2 (· + ·) (some (Lp.S s.ms.length fun k=>(eqY s (aF s.js)[t] (mat s k):Rat)*D k)) (some (lN l (2*(aF s.js)[t].toNat+1):Rat))=some 0:=by
  have:=hb.y t ht
  rw[←this]
  exact nI (by rw[this];exact f0)
 rw[e1,e2,Es];rfl
def Sgn (s:Str) (D:Nat→Rat):Prop:= ∀k (h:k<s.ms.length),(s.ms[k].kind=1→0≤D k)∧(s.ms[k].kind=2→D k≤0)
theorem Ls {s:Str} (hk:sOk s=true) {D:Nat→Rat} {v:Int} {M:Nat} (h:Dcm s D v M) (hd:Sgn s D):tM s (bW (eC s D))=true:=by
 refine H8 (W4 hk h) fun k h1 h2 hlt=> ?_
 have hk2:k<(eC s D).length:=by simpa using h1
 have e:rd (bW (eC s D))[k]=some (D k):=by
  have:(bW (eC s D))[k]=ro (eC s D)[k]:=U0 _ _ h2
  rw[this,H5 (h.ok _ (List.getElem_mem _))]
  simp[eC]
 obtain⟨g1,g2⟩:=hd k h1
 unfold qD
 rw[e]
 simp only[Bool.or_eq_false_iff,Bool.and_eq_false_iff]
 constructor
 ·by_cases hk1:s.ms[k].kind=1
  ·right
   have:=Rat.num_nonneg.2 (g1 hk1)
   refine decide_eq_false fun hh=> ?_
   have hh:(D k).num.sign<0:=hh
   rcases Int.lt_or_eq_of_le this with g | g
   ·rw[Int.sign_eq_one_of_pos g] at hh;omega
   ·rw[←g] at hh;exact absurd hh (by decide)
  ·exact .inl (decide_eq_false hk1)
 ·by_cases hk1:s.ms[k].kind=2
  ·right
   have g:=g2 hk1
   refine decide_eq_false fun hh=> ?_
   have hh:0<(D k).num.sign:=hh
   have h3:0<(D k).num:=Int.sign_pos_iff.1 hh
   have h4:0≤D k:=Rat.num_nonneg.1 (by omega)
   have h5:D k=0:=by grind
   rw[h5] at h3
   exact absurd h3 (by decide)
  ·exact .inl (decide_eq_false hk1)

theorem I3 {n:Nat} {C x:Nat→Rat} (h: ∀c,c<n→C c=0):Lp.dot n C x=0:=by
 unfold Lp.dot
 exact Lp.gI fun c hc=>by rw[h c hc,Rat.zero_mul]
theorem Hm {p:Pg} {n m:Nat} (h:PgN p n m) (hc:p.c=List.replicate n 0):
  (Lp.opt n m (eQ p n m) (n+m) (wO (pC p))=none∧C9 n m (eQ p n m)=false)∨ ∃x,Lp.opt n m (eQ p n m) (n+m) (wO (pC p))=some (some x)∧C9 n m (eQ p n m)=true:=by
 have hz: ∀c,c<n→wO (pC p) c=0:=fun c hlt=>by
  show((pC p c:Int):Rat)=0
  rw[show pC p c=0 by unfold pC;rw[hc,List.getD_eq_getElem?_getD,List.getElem?_replicate,if_pos hlt];rfl];rfl
 rcases Lp.answers (wO (pC p)) h.init with ⟨e,hn⟩| ⟨e,hu,x,hx⟩| ⟨x,e,hb,_,_⟩
 ·refine .inl ⟨e,?_⟩
  rw[Bool.eq_false_iff]
  intro hq
  obtain⟨x,hx⟩:=qI.1 hq
  exact hn x hx
 ·obtain⟨y,_,hy⟩:=hu x hx
  rw[I3 hz,I3 hz] at hy
  exact absurd hy (by decide)
 ·exact .inr ⟨x,e,qI.2 ⟨x,hb.1⟩⟩
end Go.Proofs.YticmgmemnpcbbaaGreat.Vm

namespace Go.Proofs.YticmgmemnpcbbaaGreat.Vm
open Go Go.Proofs
set_option linter.unusedSimpArgs false
set_option linter.unusedVariables false
theorem At (a b:List RT) (ha:jE a 1048576) (hb:jE b 1048576) (f:FuncId) (op:Rat→Rat→Rat) (hf: ∀x y,okQ x→okQ y→RO Tryz.prog f [fv x,fv y] (fv (op2 op x y))):RO Tryz.prog 181 [.sl (rv a),.sl (rv b),.fn f []] (.tup [.sl (fvs (if iB a b=true then List.zipWith (op2 op) (aM a) (aM b) else [])),.bool (iB a b)]):=by
 refine aK Tryz.func181 rfl rfl (by rw[Tryz.ntmps181];simp) fun bl=> ?_
 rw[Tryz.ntmps181,Tryz.results181]
 refine aC ?_
 simp
 refine aD (oX a ha) ?_
 simp
 refine aD (oX b hb) ?_
 simp
 refine aX [(2,.fn f []),(6,.nils),(7,.bool false),(8,.sl (fvs (if cX a=true then aM a else []))),(9,.bool (cX a)),(10,.sl (fvs (if cX b=true then aM b else []))),(11,.bool (cX b))] _ bl 36 (.bool (!iB a b)) ⟨rfl,by simp,Sub.refl _⟩ rfl ?_ ?_
 ·cases h1:cX a
  ·simp[iB,h1]
  cases h2:cX b
  ·simp[iB,h1,h2]
  simp[iB,h1,h2]
  rw[Bool.eq_iff_iff]
  simp
  omega
 cases hp:iB a b
 ·simp
  exact aQ [.nils,.bool false] 1 (by simp) (by simp[frz,V.cl,fvs]) (Sub.refl _)
 obtain⟨hlen,aJE,ka,kb⟩:=vK hp
 have va:cX a=true:=by unfold cX;simp[ka,aJE]
 have vb:cX b=true:=by unfold cX;simp[kb];omega
 rw[va,vb]
 simp
 refine⟨by omega,by unfold maxLen;omega,fun g hg0 hg=> ?_⟩
 obtain⟨zs,hzs⟩: ∃zs,List.zipWith (op2 op) (aM a) (aM b)=zs:=⟨_,rfl⟩
 have hzl:zs.length=a.length:=by rw[←hzs];simp;omega
 rw[hzs]
 refine aL (fun i:Nat=> [(2,.fn f []),(8,.sl (fvs (aM a))),(10,.sl (fvs (aM b))),(12,.lsl g 1 0 a.length),(41,.int .i64 a.length),(42,.int .i64 i)]) (fun i=>upd bl g (some ⟨1,part (fvs zs) [.nilp] i⟩)) (fun i=>i≤a.length) (fun i=>a.length - i) _ 0 (Nat.zero_le _) ⟨rfl,by simp,sub_eq (by simp[hzl])⟩ ?_
 intro i hi
 refine aC ?_
 simp
 refine⟨fun h=> ?_,fun h=> ?_⟩
 ·have h2:i<(aM a).length:=by simpa using h
  have h3:i<(aM b).length:=by simp;omega
  have hf1:=hf (aM a)[i] (aM b)[i] (qV a _ (List.getElem_mem h2)) (qV b _ (List.getElem_mem h3))
  have hzi:zs[i]'(by omega)=op2 op (aM a)[i] (aM b)[i]:=by simp only[←hzs,List.getElem_zipWith]
  rw[←hzi] at hf1
  refine bQ aO bl (by simp[hg]) [0,1,2,3,4,5,6,7,8,9,10,11,12] 1 (by kernel_rfl) ?_
  have h4:i<b.length:=by omega
  simp[h,h4,callV]
  refine aP hf1 ?_
  simp[h]
  have hi':i<(fvs zs).length:=by simp;omega
  refine Dz 13 ?_
  have hpl:i<(part (fvs zs) [.nilp] i).length:=by rw[mO];exact hi'
  have hpe:(part (fvs zs) [.nilp] i)[i]= [.nilp]:=by
   have:=dZ (fvs zs) [.nilp] i hi'
   rw[List.getElem?_eq_getElem hpl] at this;exact Option.some.inj this
  simp[h,hpl,hpe]
  refine⟨by intro z y hz;simp only[aA] at hz ⊢;grind,Dy ?_⟩
  simp (disch:=omega) [i64_in,aB]
  refine⟨i+1,by omega,by omega,rfl,by simp,sub_eq ?_⟩
  simp only[uY]
  rw[bZ _ _ _ hi' _ (by simp)]
 ·have hi2:i=a.length:=by omega
  subst hi2
  rw[fD _ _ _ (by simp[hzl])]
  exact aQ [.lsl g 1 0 a.length,.bool true] 2 (by simp) (Ja (cE (sz:=1) (n:=a.length) hg0 hg (els:=fvs zs) (by simp) (by simp[hzl]) (N8 zs))) (by simp[hg])
theorem qB (a b:List RT) (ha:jE a 1048576) (hb:jE b 1048576):NW Tryz.prog 108 [.sl (rv a),.sl (rv b)] (dV (stQ (gK a b)) (bE (gK a b))):=by
 have hp1:=At a b ha hb 82 (· + ·) (fun x y hx hy=>lR x y hx hy)
 refine fZ Tryz.func108 rfl rfl (by rw[Tryz.ntmps108];simp) fun bl=> ?_
 rw[Tryz.ntmps108,Tryz.results108]
 refine aC ?_
 simp
 refine aD hp1 ?_
 cases hp:iB a b
 ·have hz:gK a b= [none]:=by unfold gK;rw[hp];rfl
  rw[hz]
  simp
  exact cP [.nils,.bool false] [] (by simp) (nX _) (by simp) (Sub.refl _)
 ·have hz:gK a b=List.zipWith (op2 (· + ·)) (aM a) (aM b):=by unfold gK;rw[hp];rfl
  obtain⟨h1,h2⟩:=Cz a b
  rw[←hz]
  simp
  refine dN (sO (gK a b) h1 (by omega)) fun v gs b' o f fr=> ?_
  obtain⟨w,rfl,ow,w1,w2⟩:=wD o
  simp
  exact cP [w,.bool (bE (gK a b))] gs (by simp) o f (fun x y hy=>cL f fr hy)
theorem mK (a b:List RT) (ha:jE a 1048576) (hb:jE b 1048576):NW Tryz.prog 40 [.sl (rv a),.sl (rv b)] (dV (stQ (gK a b)) (bE (gK a b))):=by
 refine fZ Tryz.func40 rfl rfl (by rw[Tryz.ntmps40];simp) fun bl=> ?_
 rw[Tryz.ntmps40,Tryz.results40]
 refine aC ?_
 simp
 refine dN (qB a b ha hb) fun v gs b' o f fr=> ?_
 obtain⟨w,rfl,ow,w1,w2⟩:=wD o
 simp
 exact cP [w,.bool (bE (gK a b))] gs (by simp) o f (fun x y hy=>cL f fr hy)
theorem mF (a b:List RT) (ha:jE a 1048576) (hb:jE b 1048576):RO Tryz.prog 40 [.sl (rv a),.sl (rv b)] (.tup [.sl (rv (stQ (gK a b))),.bool (bE (gK a b))]):=by
 have:=dK 3 (mK a b ha hb) (O6 _ _ 0)
 rwa [Im] at this
theorem oM (r:RT) (q:List RT) (hr:r.le 1048576) (hq:jE q 1048576):NW Tryz.prog 107 [.agg r.c,.sl (rv q)] (dV (stQ (iP r q)) (bE (iP r q))):=by
 refine fZ Tryz.func107 rfl rfl (by rw[Tryz.ntmps107];simp) fun bl=> ?_
 rw[Tryz.ntmps107,Tryz.results107]
 refine aC ?_
 simp[RT.c]
 intro gr hgr hbr
 refine aD (W8 r (by have:=hr.1;omega) (by have:=hr.2;omega)) ?_
 simp
 refine dN (oV q hq) fun v gs b o f fr=> ?_
 obtain⟨w,rfl,ow,w1,w2⟩:=Cx o
 have hs:Sub bl b:=fun x y hy=>cL f fr (by rw[aA,if_neg (fun e=>by rw[e,hbr] at hy;cases hy)];exact hy)
 have hfr: ∀x,x∈gs→bl x=none:=fun x hx=>by have:=f x hx;simp[aA] at this;exact this.2
 simp
 refine aX [(6,fv (rd r)),(7,w),(8,.bool (cX q)),(4,.nils),(5,.bool false)] _ b 22 (.bool (!(cX q && decide r.ok))) ⟨rfl,by simp,Sub.refl _⟩ rfl ?_ ?_
 ·have hok:=aDR (r:=r)
  cases h1:cX q
  ·simp
  simp
  cases hx:rd r with
  | none => rw [hx] at hok; simp at hok; simp [fv, hok]
  | some x => rw [hx] at hok; simp at hok; simp [fv, hok]
 cases hp:(cX q && decide r.ok)
 ·have hz:iP r q= [none]:=by
   unfold iP;rw[if_neg];rintro⟨h1,h2⟩;simp[h1,h2] at hp
  rw[hz]
  simp
  exact cP [.nils,.bool false] [] (by simp) (nX _) (by simp) hs
 simp at hp
 obtain⟨aMF,kq⟩:=yI hp.1
 obtain⟨zs,hzs⟩: ∃zs,(aM q).map (op2 (· * ·) (rd r))=zs:=⟨_,rfl⟩
 have hz:iP r q=zs:=by unfold iP;rw[if_pos ⟨hp.2,hp.1⟩];exact hzs
 have hzl:zs.length=q.length:=by rw[←hzs];simp
 obtain⟨hzo,_⟩:=Ee r q
 rw[hz] at hzo
 rw[hz]
 rw[hp.1,if_pos rfl] at ow
 have hql:q.length≤1048576:=by omega
 have fin: ∀(b3:Int→Option Blk) (w:V) (gs:List Int) (K:V→(Int→Option Blk)→Prop),OwnD b3 (fl 1 (fvs zs)) w gs→(∀w' gs' b4,OwnD b4 (dV (stQ zs) (bE zs)) (.tup [w',.bool (bE zs)]) gs'→(∀x,x∈gs'→b3 x=none)→Sub b3 b4→w'.one=true→w'.cells= [w']→K (.tup [w',.bool (bE zs)]) b4)→bD Tryz.prog 73 [w] b3 K:=by
  intro b3 w gs K o hK
  have hz1:frz b3 1 w=some (.sl (fvs zs)):=by rw[o.frz (jF _ _ _),Ns]
  refine P3 1 (ys:= [.sl (fvs zs)]) (by simp[hz1]) (sO zs hzo (by omega)) (aED _ _) fun v gs' b4 o4 f4 fr4=> ?_
  obtain⟨w',rfl,ow',w1',w2'⟩:=wD o4
  exact hK w' gs' b4 o4 f4 (fun x y hy=>cL f4 fr4 hy) w1' w2'
 rcases oC.1 ow with ⟨h1,rfl,rfl⟩| ⟨g,rfl,rfl,hbg,cD⟩
 ·have hq0:q= []:=by simpa [aM] using h1
  subst hq0
  have hz0:zs= []:=List.eq_nil_of_length_eq_zero (by simpa using hzl)
  simp
  refine aL (fun _:Unit=> [(7,.nils),(24,.int .i64 0),(25,.int .i64 0)]) (fun _=>b) (fun _=>True) (fun _=>0) _ () trivial ⟨rfl,by simp,Sub.refl _⟩ ?_
  intro _ _
  refine aC ?_
  simp
  refine fin b .nils [] _ (by rw[hz0];exact oC.2 (.inl ⟨rfl,rfl,rfl⟩)) fun w' gs' b4 o4 f4 s4 c1 c2=> ?_
  simp[c1,c2]
  exact cP [w',.bool (bE zs)] gs' (by simp[c1,c2]) o4 (fun x hx=>cM hs (f4 x hx)) (fun x y hy=>s4 x y (hs x y hy))
 ·simp
  refine aL (fun i:Nat=> [(6,fv (rd r)),(7,.lsl g 1 0 q.length),(24,.int .i64 q.length),(25,.int .i64 i)]) (fun i=>upd b g (some ⟨1,lY (fvs zs) (fvs (aM q)) i⟩)) (fun i=>i≤q.length) (fun i=>q.length - i) _ 0 (Nat.zero_le _) ⟨rfl,by simp,sub_eq ?_⟩ ?_
  ·funext x
   simp only[aA]
   split
   ·rename_i hx;subst hx;simp[hbg]
   ·rfl
  intro i hi
  refine aC ?_
  simp
  refine⟨fun h=> ?_,fun h=> ?_⟩
  ·have hge:0≤g:=by
    rcases Int.lt_or_le g 0 with hlt | hge
    ·have:=cD hlt;have:q= []:=by simpa [aM] using this
     subst this;simp at h
    ·exact hge
   have h2:i<(aM q).length:=by simpa using h
   have hl2:(fvs zs).length=(fvs (aM q)).length:=by simp[hzl]
   have hov:=Ad (fvs zs) (fvs (aM q)) i hl2 (by simpa using h)
   have hol:=jP (fvs zs) (fvs (aM q)) i hl2
   rw[T3,D3] at hol
   rw[Ft] at hov
   have hzi:zs[i]'(by omega)=op2 (· * ·) (rd r) (aM q)[i]:=by simp only[←hzs,List.getElem_map]
   have hm:=vY (rd r) (aM q)[i] (Fm r) (qV q _ (List.getElem_mem h2))
   rw[←hzi] at hm
   have hil:i<(lY (fvs zs) (fvs (aM q)) i).length:=by omega
   simp[h,hil,hov]
   refine aD hm ?_
   simp[h,hil,hov]
   simp (disch:=omega) [i64_in,aB]
   refine⟨i+1,by omega,by omega,rfl,by simp,sub_eq ?_⟩
   simp only[uY]
   rw[M8 _ _ _ hl2 (by simp;omega) _ (by simp)]
  ·have hi2:i=q.length:=by omega
   subst hi2
   have hl2:(fvs zs).length=(fvs (aM q)).length:=by simp[hzl]
   rw[H6 _ _ _ hl2 (by simp)]
   have hgb:bl g=none:=hfr g (by simp)
   have s2:Sub bl (upd b g (some ⟨1,fvs zs⟩)):=N7 hgb hs
   refine fin _ _ [g] _ (oC.2 (.inr ⟨g,by rw[hzl],rfl,by simp,fun hn=>List.eq_nil_of_length_eq_zero (by have h5:=cD hn;simp[aM] at h5;rw[hzl,h5];rfl)⟩)) fun w' gs' b4 o4 f4 s4 c1 c2=> ?_
   simp[c1,c2]
   exact cP [w',.bool (bE zs)] gs' (by simp[c1,c2]) o4 (fun x hx=>cM s2 (f4 x hx)) (fun x y hy=>s4 x y (s2 x y hy))
theorem kR (r:RT) (q:List RT) (hr:r.le 1048576) (hq:jE q 1048576):NW Tryz.prog 39 [.agg r.c,.sl (rv q)] (dV (stQ (iP r q)) (bE (iP r q))):=by
 refine fZ Tryz.func39 rfl rfl (by rw[Tryz.ntmps39];simp) fun bl=> ?_
 rw[Tryz.ntmps39,Tryz.results39]
 refine aC ?_
 simp[RT.c]
 intro g hg0 hg
 refine dN (oM r q hr hq) fun v gs b' o f fr=> ?_
 obtain⟨w,rfl,ow,w1,w2⟩:=wD o
 simp
 exact cP [w,.bool (bE (iP r q))] gs (by simp) o (fun x hx=>by have:=f x hx;simp[aA] at this;exact this.2) (fun x y hy=>cL f fr (by rw[aA,if_neg (fun e=>by rw[e,hg] at hy;cases hy)];exact hy))
theorem kW (r:RT) (q:List RT) (hr:r.le 1048576) (hq:jE q 1048576):RO Tryz.prog 39 [.agg r.c,.sl (rv q)] (.tup [.sl (rv (stQ (iP r q))),.bool (bE (iP r q))]):=by
 have:=dK 3 (kR r q hr hq) (O6 _ _ 0)
 rwa [Im] at this
end Go.Proofs.YticmgmemnpcbbaaGreat.Vm

namespace Go.Proofs.YticmgmemnpcbbaaGreat.Vm
open Go Go.RowKit Go.Proofs
set_option linter.unusedSimpArgs false
set_option linter.unusedVariables false
theorem cmN.aEY {v:Int} {L:Nat} {q:Rat} (h:cmN v L q) (w:Int) {W:Nat} (hw:w.natAbs≤W):cmN (v*w) (L*W) q:=by
 obtain⟨a,h1,h2⟩:=h
 refine⟨a*w,by rw[Rat.intCast_mul,Rat.intCast_mul,←h1];grind,?_⟩
 rw[Int.natAbs_mul]
 exact Nat.mul_le_mul h2 hw
theorem cmN.aKV {v:Int} {L:Nat} {q:Rat} (h:cmN v L q) (w:Int) {W:Nat} (hw:w.natAbs≤W):cmN (w*v) (L*W) q:=by
 rw[Int.mul_comm];exact h.aEY w hw
structure qY (s : Str) (l : List Int) (x : Nat → Rat) (v : Int) : Prop where
 v0:v≠0
 vl:v.natAbs≤fW
 cm: ∀k,cmN v (16*fW) (dD s x k)
 nn: ∀c,c<nC s→0≤x c
 sol: ∀i,i<nR s→(Lp.S (nC s) fun c=>(pA (bU s l) (nC s) i c:Rat)*x c)=(pB (bU s l) i:Rat)
theorem uP (s:Str) {c:Nat} (h:c<nC s) {k:Nat} (hk:k<s.ms.length) (hc:(aZ s c).1=(k:Int)):(s.ms[k].kind=1→(aZ s c).2=1)∧(s.ms[k].kind=2→(aZ s c).2= -1):=by
 have mS:aZ s c∈bA s.ms:=by
  have h':c<(bA s.ms).length:=h
  have:aZ s c=(bA s.ms)[c]:=by simp[aZ,h']
  rw[this];exact List.getElem_mem _
 obtain⟨k',hk',hp⟩:=List.mem_flatMap.1 mS
 have hk1:k'<s.ms.length:=by simpa using hk'
 rw[lM _ _ _ hk1] at hp
 unfold sA at hp
 have e: ∀q:Int,aZ s c=((k':Int),q)→k'=k:=fun q h=>by rw[h] at hc;simp only at hc;omega
 rcases List.mem_append.1 hp with g | g
 ·split at g
  ·cases g
  ·rename_i h2
   rw[List.mem_singleton] at g
   have:=e _ g
   subst this
   rw[g]
   exact⟨fun _=>rfl,fun h=>absurd h h2⟩
 ·split at g
  ·cases g
  ·rename_i h1
   rw[List.mem_singleton] at g
   have:=e _ g
   subst this
   rw[g]
   exact⟨fun h=>absurd h h1,fun _=>rfl⟩
theorem qY.sgn {s:Str} {l:List Int} {x:Nat→Rat} {v:Int} (h:qY s l x v):Sgn s (dD s x):=fun k hk=>by
 constructor
 ·intro h1
  refine Lp.eN fun c hc=> ?_
  split
  ·rename_i e
   rw[(uP s hc hk e).1 h1,show((1:Int):Rat)=1 from rfl,Rat.one_mul]
   exact h.nn c hc
  ·exact Rat.le_refl
 ·intro h2
  have:0≤Lp.S (nC s) fun c=>(-1:Rat)*(if(aZ s c).1=(k:Int) then((aZ s c).2:Rat)*x c else 0):=Lp.eN fun c hc=>by
   split
   ·rename_i e
    rw[(uP s hc hk e).2 h2,show((-1:Int):Rat)= -1 from rfl]
    have:=h.nn c hc
    grind
   ·rw[Rat.mul_zero];exact Rat.le_refl
  rw[Lp.eL] at this
  show dv s x (nC s) k≤0
  unfold dv
  grind
theorem qY.bal {s:Str} {l:List Int} {x:Nat→Rat} {v:Int} (h:qY s l x v):Bal s l (dD s x):=Pr h.sol
theorem Ag :16*fW≤16*kD:=Nat.mul_le_mul_left _ iZ
theorem qY.dcm {s:Str} {l:List Int} {x:Nat→Rat} {v:Int} (h:qY s l x v):Dcm s (dD s x) v 16:=⟨h.v0,Nat.le_trans h.vl iZ,fun k _=>(h.cm k).mono Ag,by decide⟩
theorem sQ {s:Str} {l:List Int} (hl:lOk s l=true):(jM s l= [none]∧iO s l=false)∨ ∃x v,jM s l=eC s (dD s x)∧iO s l=true∧qY s l x v:=by
 have hL:=pH hl
 have hpg:=rQ hL
 have hd:jM s l=yA s (Lp.opt (nC s) (nR s) (eQ (bU s l) (nC s) (nR s)) (nC s+nR s) (wO (pC (bU s l)))):=by unfold jM;rw[if_pos hl]
 have hc:iO s l=C9 (nC s) (nR s) (eQ (bU s l) (nC s) (nR s)):=by unfold iO Fu;rw[hl];rfl
 rw[hd,hc]
 rcases Hm hpg rfl with ⟨e1,e2⟩| ⟨x,e1,e2⟩
 ·exact .inl ⟨by rw[e1];rfl,e2⟩
 ·obtain⟨v,h1,h2,h3⟩:=Jz hpg e1
  have hb:=(E9.1 (Lp.I6 e1).1)
  refine .inr ⟨x,v,by rw[e1];exact Ju hL.sok h1 h2 h3,e2,h1,h2,fun k=> ?_,hb.1,hb.2⟩
  have:=Nq h3 (Nat.le_refl _) k
  exact this.mono (Nat.mul_le_mul_right _ (Ie hL.sok))
theorem Dcm.mix {s:Str} {l m:List Int} {x y:Nat→Rat} {v w:Int} (h1:qY s l x v) (h2:qY s m y w):Dcm s (fun k=>dD s x k+((3:Int):Rat)*dD s y k) (v*w) 64:=by
 refine⟨Int.mul_ne_zero h1.v0 h2.v0,?_,fun k _=> ?_,by decide⟩
 ·rw[Int.natAbs_mul]
  exact Nat.le_trans (Nat.mul_le_mul h1.vl h2.vl) K9
 ·have g1:=(h1.cm k).aEY w h2.vl
  have g2:=((h2.cm k).aKV v h1.vl).int 3 (M:=3) (by decide)
  rw[Rat.mul_comm] at g2
  refine(g1.add g2).mono ?_
  have:=K9
  have e1:16*fW*fW=16*(fW*fW):=Nat.mul_assoc _ _ _
  omega
theorem Sgn.mix {s:Str} {D G:Nat→Rat} (h1:Sgn s D) (h2:Sgn s G):Sgn s fun k=>D k+((3:Int):Rat)*G k:=fun k hk=>by
 obtain⟨a1,a2⟩:=h1 k hk
 obtain⟨b1,b2⟩:=h2 k hk
 rw[show((3:Int):Rat)=3 from rfl]
 constructor
 ·intro h
  have:=a1 h
  have:=b1 h
  grind
 ·intro h
  have:=a2 h
  have:=b2 h
  grind

theorem Ep (l:List Int) (i:Nat):lat l i=lN l i:=rfl
theorem L7 {l:List Int} (h: ∀x,x∈l→ -8≤x∧x≤8) (i:Nat): -8≤lN l i∧lN l i≤8:=by
 rcases Nat.lt_or_ge i l.length with g | g
 ·rw[W7 g];exact h _ (List.getElem_mem g)
 ·have:lN l i=0:=by simp[lN,List.getD_eq_getElem?_getD,g]
  rw[this];omega
theorem kL {s:Str} {l:List Int} (h:lOk s l=true):eM s.js l=true:=by
 unfold lOk at h
 rw[Bool.and_eq_true] at h
 exact h.2
theorem X7 (l m:List Int) (i:Nat):mixC [l,m] [1,3] i 2=lN l i+3*lN m i:=by
 show(0+1*lat l i)+3*lat m i=_
 rw[Ep,Ep];omega
theorem Ut {s:Str} {l m:List Int} (hl:lOk s l=true) (hm:lOk s m=true) (bl: ∀x,x∈l→ -8≤x∧x≤8) (bm: ∀x,x∈m→ -8≤x∧x≤8):
  kB s [l,m] [1,3]=true∧lOk s (wE s [l,m] [1,3])=true∧ ∀i,lN (wE s [l,m] [1,3]) i=lN l i+3*lN m i:=by
 have fl:=kL hl
 have fm:=kL hm
 have hlen:=(jK fl).1
 have aLS:=(jK fm).1
 have hL:eM s.js (jV (2*s.js.length) [l,m] [1,3] 2)=true:=by
  unfold eM
  rw[Bool.and_eq_true]
  refine⟨by simp,List.all_eq_true.2 fun x hx=> ?_⟩
  obtain⟨i,hi,rfl⟩:=List.mem_map.1 hx
  rw[X7]
  have h1:=L7 bl i
  have h2:=L7 bm i
  unfold fJ
  rw[Bool.and_eq_true,decide_eq_true_eq,decide_eq_true_eq]
  omega
 have hok:kB s [l,m] [1,3]=true:=by
  unfold kB
  simp only[Bool.and_eq_true,decide_eq_true_eq]
  refine⟨⟨⟨⟨rfl,by simp⟩,Z9 hl⟩,fun c hc=> ?_⟩,hL⟩
  have hc2:c<2:=hc
  match c,hc2 with
  | 0, _ =>
    unfold cOk
    rw[Bool.and_eq_true,Bool.and_eq_true,decide_eq_true_eq,decide_eq_true_eq]
    exact⟨fl,by decide,by decide⟩
  | 1, _ =>
    unfold cOk
    rw[Bool.and_eq_true,Bool.and_eq_true,decide_eq_true_eq,decide_eq_true_eq]
    exact⟨fm,by decide,by decide⟩
 have hR:wE s [l,m] [1,3]=jV (2*s.js.length) [l,m] [1,3] 2:=by unfold wE;rw[if_pos hok];rfl
 refine⟨hok,?_,fun i=> ?_⟩
 ·rw[hR]
  unfold lOk
  rw[Z9 hl,hL];rfl
 ·rw[hR]
  by_cases hi:i<2*s.js.length
  ·unfold lN
   rw[List.getD_eq_getElem?_getD,List.getElem?_eq_getElem (by simpa using hi)]
   simp only[Option.getD_some,Ap]
   exact X7 l m i
  ·have e: ∀k:List Int,k.length≤i→lN k i=0:=fun k hk=>by simp[lN,List.getD_eq_getElem?_getD,hk]
   rw[e _ (by simp;omega),e l (by omega),e m (by omega)];rfl
theorem Fj {s:Str} {i:Nat} (h:i<nR s): ∃t,t<(aF s.js).length∧(i=2*t∨i=2*t+1):=by
 unfold nR at h
 exact⟨i / 2,by omega,by omega⟩
theorem Qv {s:Str} {l m b:List Int} (hb: ∀i,lN b i=lN l i+3*lN m i) {i:Nat} (h:i<nR s):pB (bU s b) i=pB (bU s l) i+3*pB (bU s m) i:=by
 obtain⟨t,ht,e | e⟩:=Fj h
 ·subst e
  rw[(iF s b ht).1,(iF s l ht).1,(iF s m ht).1,hb];omega
 ·subst e
  rw[(iF s b ht).2,(iF s l ht).2,(iF s m ht).2,hb];omega
theorem Kf {s:Str} {l m b:List Int} {x y:Nat→Rat} {v w:Int} (h1:qY s l x v) (h2:qY s m y w) (hk:lOk s b=true) (hb: ∀i,lN b i=lN l i+3*lN m i):iO s b=true:=by
 unfold iO Fu
 rw[hk,Bool.true_and]
 refine qI.2 ⟨fun c=>x c+3*y c,E9.2 ⟨fun c hc=> ?_,fun i hi=> ?_⟩⟩
 ·have:=h1.nn c hc
  have:=h2.nn c hc
  grind
 ·have e1:(Lp.S (nC s) fun c=>(pA (bU s b) (nC s) i c:Rat)*(x c+3*y c))=(Lp.S (nC s) fun c=>(pA (bU s l) (nC s) i c:Rat)*x c)+3*Lp.S (nC s) fun c=>(pA (bU s m) (nC s) i c:Rat)*y c:=by
   rw[←Lp.eL,←Lp.wW]
   exact Lp.aR fun c hc=>by
    rw[D5 s b hi hc,D5 s l hi hc,D5 s m hi hc];grind
  rw[e1,h1.sol i hi,h2.sol i hi,Qv hb hi,Rat.intCast_add,Rat.intCast_mul]
  rfl
theorem qX (s:Str) (D:Nat→Rat):stQ (eC s D)=bW (eC s D):=by unfold stQ;rw[if_pos (kF s D)]
theorem pV {s:Str} {D:Nat→Rat} {v:Int} {M:Nat} (h:Dcm s D v M) (hs:SOk s):cX (bW (eC s D))=true:=by
 have:=hs.nm
 unfold cX
 rw[tC h.ok,kF,Bool.and_true,decide_eq_true_eq]
 simp;omega
theorem ok3 :(ro (some ((3:Int):Rat))).ok:=by decide+kernel
theorem rd3 :rd (ro (some ((3:Int):Rat)))=some ((3:Int):Rat):=H5 (okS (fits_int (by decide)))
theorem qY.three {s:Str} {l:List Int} {x:Nat→Rat} {v:Int} (h:qY s l x v):Dcm s (fun k=>((3:Int):Rat)*dD s x k) v 48:=⟨h.v0,Nat.le_trans h.vl iZ,fun k _=>by
 have:=(h.cm k).int 3 (M:=3) (by decide)
 rw[Rat.mul_comm] at this
 exact this.mono (by have:=iZ;omega),by decide⟩
theorem Bg {s:Str} {l:List Int} {x:Nat→Rat} {v:Int} (h:qY s l x v) (hs:SOk s):iP (ro (some ((3:Int):Rat))) (bW (eC s (dD s x)))=eC s fun k=>((3:Int):Rat)*dD s x k:=by
 unfold iP
 rw[if_pos ⟨ok3,pV h.dcm hs⟩,jQ h.dcm.ok,rd3]
 unfold eC
 rw[List.map_map]
 refine List.map_congr_left fun k hk=> ?_
 exact nI (f:=(· * ·)) (h.three.fits (by simpa using hk))
theorem Hd {s:Str} {D G:Nat→Rat} {v w u:Int} {M N K:Nat} (h1:Dcm s D v M) (h2:Dcm s G w N) (h3:Dcm s (fun k=>D k+G k) u K) (hs:SOk s):gK (bW (eC s D)) (bW (eC s G))=eC s fun k=>D k+G k:=by
 unfold gK
 have hp:iB (bW (eC s D)) (bW (eC s G))=true:=by
  unfold iB
  rw[pV h1 hs,pV h2 hs];simp
 rw[if_pos hp,jQ h1.ok,jQ h2.ok]
 apply List.ext_getElem
 ·simp
 ·intro k g1 g2
  have hk:k<s.ms.length:=by simpa using g2
  rw[List.getElem_zipWith]
  simp only[eC,List.getElem_map,List.getElem_range]
  exact nI (f:=(· + ·)) (h3.fits hk)
theorem kT {s:Str} {D:Nat→Rat} {v:Int} {M:Nat} (h:Dcm s D v M) (hs:SOk s):jE (bW (eC s D)) 1048576:=Bp h.ok (by have:=hs.nm;simp;omega)

def dTS (s:SP) (b:Bool):D:= .t [.a (dS s),.c (.bool b)]
def aMY (k:Nat) (s:SP):SP:=⟨mkR k s.lo,mkR (Px k s.lo) s.hi,s.nl,s.nh⟩
theorem L0 (n:Int) (hn: -9223372036854775808≤n∧n≤9223372036854775807):NW Tryz.prog 26 [.int .i64 n] (.a (dR (ro (some (n:Rat))))):=by
 refine fZ Tryz.func26 rfl rfl (by rw[Tryz.ntmps26];simp) fun bl=> ?_
 rw[Tryz.ntmps26,Tryz.results26]
 refine aC ?_
 simp
 intro g2 hg2 hb2
 refine aD (eP n hn) ?_
 simp
 refine dN (L8 (some (n:Rat)) (fun p hp=>by cases hp;exact fits_int (by omega))) fun v gs b o f fr=> ?_
 obtain⟨vm,vd,ga,gb,rfl,rfl,hd,om,od⟩:=A4.1 o
 obtain⟨c1,c2⟩:=om.one
 obtain⟨d1,d2⟩:=od.one
 have e1: ∀x,x∈ga++gb→x≠g2∧bl x=none:=fun x hx=>by have:=f x hx;simp only[aA] at this;split at this<;>simp_all
 have n2:b g2=some ⟨3,[[.bool false,.nils,.nils]]⟩:=cL f fr (by simp)
 have hs:Sub bl b:=fun x y hy=>by
  have z2:x≠g2:=fun h=>by rw[h,hb2] at hy;cases hy
  exact cL f fr (by simp[aA,z2,hy])
 simp[n2,c1,d1]
 refine cP [.agg [.bool (ro (some (n:Rat))).neg,vm,vd]] (ga++gb) (by simp[c1,d1]) ?_ (fun x hx=>(e1 x hx).2) (hs.upd hb2 _)
 refine A4.2 ⟨vm,vd,ga,gb,rfl,rfl,hd,om.frame fun x hx=> ?_,od.frame fun x hx=> ?_⟩
 ·simp[aA,(e1 x (List.mem_append_left _ hx)).1]
 ·simp[aA,(e1 x (List.mem_append_right _ hx)).1]

theorem H2 (n:Int) (hn: -9223372036854775808≤n∧n≤9223372036854775807):RO Tryz.prog 26 [.int .i64 n] (.agg (ro (some (n:Rat))).c):=by
 have:=dK 2 (L0 n hn) (Kk _ 0)
 rwa [show(D.a (dR (ro (some (n:Rat))))).fz= .agg (ro (some (n:Rat))).c by simp[D.fz,dR,D.fzL,RT.c]] at this
theorem V5 {s:Str} {l:List Int} (hl:lOk s l=true):bE (jM s l)=iO s l:=by
 rcases sQ hl with ⟨e1,e2⟩| ⟨x,v,e1,e2,_⟩
 ·rw[e1,e2];rfl
 ·rw[e1,e2];exact kF _ _
theorem Js :(ro (some ((3:Int):Rat))).le 1048576:=⟨by decide+kernel,by decide+kernel⟩
theorem law_Cone_ro (bs:List Int) (hn:bs.length≤140737488351232) (hbs: ∀x,x∈bs→0≤x∧x<256):RO Tryz.prog 6 [.sl (bv bs)] (.bool true):=by
 refine aK Tryz.func6 rfl rfl (by rw[Tryz.ntmps6];simp) fun bl=> ?_
 rw[Tryz.ntmps6,Tryz.results6]
 refine aE ?_
 simp
 refine aE ?_
 simp
 refine⟨fun h=> ?_,fun h=> ?_⟩
 ·exact aS (by simp) rfl rfl
 refine aE ?_
 simp
 refine N4 bs (by omega) hbs fun s l b1 ql h3 hl8 hb1=> ?_
 have qs:sOk s=true:=by unfold lOk at ql;rw[Bool.and_eq_true] at ql;exact ql.1
 have hs:=pP qs
 have hsz:=aFO qs
 have hnj:=hs.nj
 have hnm:=hs.nm
 simp[Str.c]
 intro g3 hg3 hb3
 have S3:bl g3=none:=cM hb1 hb3
 refine cK 1 3 (.ptr s.c) bl (hb1.upd S3 _) (by simp[frz,dropB,S3,Str.c,V.cl]) ?_
 refine aE ?_
 simp[Str.c]
 refine G5 bs 40 s qs (by omega) (by omega) hbs (by omega) fun m b2 qm hm8 hb2=> ?_
 simp
 refine iH [(3,.ptr s.c),(4,.sl (iv l)),(5,.sl (iv m))] 99 bl ⟨rfl,by simp[Str.c],hb2⟩ ?_
 clear hb1 hb2
 have hll:=(jK (kL ql)).1
 have hml:=(jK (kL qm)).1
 have hD1:=iQ s l hsz (by omega)
 have hD2:=iQ s m hsz (by omega)
 rw[V5 ql] at hD1
 rw[V5 qm] at hD2
 have hC1:=gZ s l hsz (by omega)
 have hC2:=gZ s m hsz (by omega)
 obtain⟨hmo,hmk,hmb⟩:=Ut ql qm hl8 hm8
 have hM:=sI s [l,m] [1,3] hsz (by simp) (fun w hw=>by
  simp at hw
  rcases hw with rfl | rfl<;>omega) (by simp)
 rw[hmo] at hM
 obtain⟨b,hbd⟩: ∃b,wE s [l,m] [1,3]=b:=⟨_,rfl⟩
 rw[hbd] at hM hmk hmb
 have hbl:=(jK (kL hmk)).1
 refine aE ?_
 simp[Str.c]
 refine aD hD1 ?_
 simp
 refine aE ?_
 simp[Str.c]
 refine aD hD2 ?_
 simp
 refine aE ?_
 simp[Str.c]
 intro ga hga hba gb hgb hab hbb
 refine nJ 1 bl [.agg s.c,.sl (ivv [l,m]),.sl (iv [1,3])] (by intro z y hz;simp only[aA] at hz ⊢;grind) ?_ hM ?_
 ·have ea:(List.map (fun i=>List.take 1 (List.drop i [V.sl (iv l),V.sl (iv m)])) (List.range 2))=ivv [l,m]:=rfl
  have eb:(List.map (fun i=>List.take 1 (List.drop i [V.int .i64 1,V.int .i64 3])) (List.range 2))=iv [1,3]:=rfl
  have f1:=cE (bl:=upd (upd bl ga (some ⟨1,ivv [l,m]⟩)) gb (some ⟨1,iv [1,3]⟩)) (bl0:=bl) (g:=ga) (sz:=1) (n:=2) (els:=ivv [l,m]) hga hba (by simp[Ne.symm hab]) rfl (by simp[ivv,V.cl])
  have f2:=cE (bl:=upd (upd bl ga (some ⟨1,ivv [l,m]⟩)) gb (some ⟨1,iv [1,3]⟩)) (bl0:=bl) (g:=gb) (sz:=1) (n:=2) (els:=iv [1,3]) hgb hbb (by simp) rfl (kC _)
  rw[ea,eb]
  simp[f1,f2]
  simp[frz,V.cl,Str.c]
 simp
 refine iH [(3,.ptr s.c),(4,.sl (iv l)),(5,.sl (iv m)),(6,.sl (rv (stQ (jM s l)))),(7,.bool (iO s l)),(8,.sl (rv (stQ (jM s m)))),(9,.bool (iO s m)),(10,.sl (iv b)),(11,.bool true)] 99 bl ⟨rfl,by simp[Str.c],Sub.refl _⟩ ?_
 refine aE ?_
 simp
 refine aX [(3,.ptr s.c),(4,.sl (iv l)),(5,.sl (iv m)),(6,.sl (rv (stQ (jM s l)))),(7,.bool (iO s l)),(8,.sl (rv (stQ (jM s m)))),(9,.bool (iO s m)),(10,.sl (iv b)),(11,.bool true)] _ bl 53 (.bool (!(iO s l && iO s m))) ⟨rfl,by simp[Str.c],Sub.refl _⟩ rfl ?_ ?_
 ·cases c1:iO s l<;>cases c2:iO s m<;>simp
 by_cases hboth:(iO s l && iO s m)=true
 rotate_left
 ·rw[show(!(iO s l && iO s m))=true by rw[Bool.not_eq_true] at hboth;rw[hboth];rfl]
  simp
  refine aX [(3,.ptr s.c),(4,.sl (iv l)),(5,.sl (iv m)),(6,.sl (rv (stQ (jM s l)))),(7,.bool (iO s l)),(8,.sl (rv (stQ (jM s m)))),(9,.bool (iO s m)),(10,.sl (iv b)),(11,.bool true)] _ bl 2 (.bool true) ⟨rfl,by simp[Str.c],Sub.refl _⟩ rfl ?_ ?_
  ·simp[Str.c]
   refine aD hC1 ?_
   simp[Str.c]
   refine aD hC2 ?_
   simp
  simp
  exact aS (by simp) rfl rfl
 rw[hboth]
 rw[Bool.and_eq_true] at hboth
 obtain⟨c1,c2⟩:=hboth
 rcases sQ ql with ⟨_,e2⟩| ⟨x,v,ex,_,dx⟩
 ·rw[c1] at e2;cases e2
 rcases sQ qm with ⟨_,e2⟩| ⟨y,w,ey,_,dy⟩
 ·rw[c2] at e2;cases e2
 rw[ex,ey,qX,qX,c1,c2]
 have hR:=H2 3 (by decide)
 have hS:=kW (ro (some ((3:Int):Rat))) (bW (eC s (dD s y))) (Js) (kT dy.dcm hs)
 rw[Bg dy hs,qX,kF] at hS
 have hdm:=Dcm.mix dx dy
 have hA:=mF (bW (eC s (dD s x))) (bW (eC s fun k=>((3:Int):Rat)*dD s y k)) (kT dx.dcm hs) (kT dy.three hs)
 rw[Hd dx.dcm dy.three hdm hs,qX,kF] at hA
 have hB:=Ef qs (kL hmk) hdm (Bal.mix dx.bal dy.bal hmb)
 have hG:=Ls qs hdm (Sgn.mix dx.sgn dy.sgn)
 have hE:=lV s b (bW (eC s fun k=>dD s x k+((3:Int):Rat)*dD s y k)) hsz.js hsz.ms hsz.nm (by omega) (kT hdm hs)
 rw[hB,hG] at hE
 have hC:=gZ s b hsz (by omega)
 rw[Kf dx dy hmk hmb] at hC
 generalize bW (eC s fun k=>dD s x k+((3:Int):Rat)*dD s y k)=R at *
 generalize (bW (eC s fun k=>((3:Int):Rat)*dD s y k))=T at *
 generalize bW (eC s (dD s x))=P at *
 generalize bW (eC s (dD s y))=Q at *
 simp
 refine aE ?_
 simp
 refine aD hR ?_
 simp
 refine aD hS ?_
 simp
 refine aE ?_
 simp
 refine aD hA ?_
 simp
 refine cI ?_
 refine aX [(3,.ptr s.c),(10,.sl (iv b)),(11,.bool true),(13,.bool true),(14,.sl (rv R)),(15,.bool true)] _ bl 2 (.bool true) ⟨rfl,by simp[Str.c],Sub.refl _⟩ rfl ?_ ?_
 ·simp[Str.c]
  refine aD hE ?_
  simp[Str.c]
  refine aD hC ?_
  simp
 simp
 refine aC ?_
 simp
 exact aS (by simp) rfl rfl
end Go.Proofs.YticmgmemnpcbbaaGreat.Vm

namespace Go.Proofs.YticmgmemnpcbbaaGreat.lawCone
open Go Go.RowKit Go.ChangeShapes Go.WideShapes Vm
theorem body (xs:List V) (h:pE Tryz.prog Tryz.f6.params.toList xs):RO Tryz.prog 6 xs (.bool true):=by
 rw[Tryz.params6] at h
 obtain⟨c0,ys,rfl,h0,h⟩:=Bx h
 obtain rfl:=Er h
 obtain⟨b0,rfl,y0,z0⟩:=Jc h0
 rw[Bn Tryz.underlying22]
 exact law_Cone_ro b0 y0 z0
set_option maxRecDepth 100000 in
theorem lifted (os:Os) (started:os.Started) (H:Type) (enc:TypeId×Value→H):
  ReturnsInHanded {} Tryz.checked os 6 .any (Rows.fnConeSpec.pre6 enc Tryz.prog Tryz.f6 Rows.fnConeRow.domain false) (Rows.fnConeSpec.post enc Tryz.prog Tryz.f6 false true false false):=by
 refine returnsInHanded_of_change_sized (C:=Tryz.checked) own started (by kernel_rfl) Tryz.func6
  (ChangeSpec.witness6 (enc:=enc) (C:=Tryz.checked) false ⟨#[], #[.slice none 0 0],[]⟩ 8 (by kernel_rfl) (by kernel_rfl) (by kernel_rfl) (by kernel_rfl)) ?_
 intro W base args ds gs before Eh hW aMZ hsz _
 refine law_calls (tb:=4) rfl rfl Tryz.underlying4 laidOut (by kernel_rfl) (fun ds hds=> ?_) body W base args ds gs before Eh hW hsz
 rw[Tryz.params6] at hds
 first
  | (match ds, hds with | [a], _ => rfl)
  | (match ds, hds with | [a, b], _ => rfl)
  | (match ds, hds with | [a, b, c], _ => rfl)
  | (match ds, hds with | [a, b, c, d], _ => rfl)
  | (match ds, hds with | [a, b, c, d, e], _ => rfl)
  | (match ds, hds with | [a, b, c, d, e, f], _ => rfl)
theorem lY :Rows.fnConeRow.holds Tryz.pinned (OpenSpec.ofChange Rows.fnConeSpec):=
 OpenClaim.holds_of_wide 6 Tryz.f6 rfl rfl rfl rfl rfl rfl rfl ⟨rfl,rfl,rfl,rfl,rfl⟩ rfl rfl rfl rfl rfl (by kernel_rfl) Tryz.func6 (facts (by kernel_rfl))
  (of_decide_eq_true (by kernel_rfl)) (by unfold Func.isWrapper;first | (rw[if_pos (by decide+kernel)];kernel_rfl)| (rw[if_neg (by decide+kernel)];exact⟨rfl,rfl⟩))
  (fun os started H enc _=>lifted os started H enc)
theorem proved :Rows.FnConeSaid:=lY
#print axioms proved
end Go.Proofs.YticmgmemnpcbbaaGreat.lawCone
