/- FnReactions: for every code the law of the ground reactions returns true; no condition. -/


import Derived.Test.YticmgmemnpcbbaaGreatQCFnReactions7

namespace Go.Proofs.YticmgmemnpcbbaaGreat.Vm
open Go Go.RowKit Go.Proofs
set_option linter.unusedSimpArgs false
set_option linter.unusedVariables false
def okA (n:Nat):Nat→Bool:=fun c=>decide (c<n)
def oA (n m:Nat):Nat→Int:=fun c=>if n≤c∧c<n+m then -1 else 0
theorem Dh (n m:Nat):wO (oA n m)=Lp.cL n m:=by
 funext c
 unfold wO oA Lp.cL
 split<;>rfl
def tbA (p:Pg) (n m i:Nat) (fr:Nat→Bool):TN:=⟨i,n+m,eZ p n m,1,fun q=>n+q,fr⟩
theorem Ib (N:Nat):List.replicate N [V.bool false]=lv N fun _=>false:=by
 unfold lv
 rw[List.map_const',List.length_range]
theorem H8 (N:Nat):List.replicate N [V.int .i64 0]=iv (lz N fun _=>0):=by
 simp[iv,lz,List.map_const']
theorem Dc {N k:Nat} (f:Nat→Int) (v:Int) (h:k<N):(iv (lz N f)).set k [.int .i64 v]=iv (lz N fun c=>if c=k then v else f c):=by
 apply List.ext_getElem
 ·simp
 ·intro j h1 h2
  rw[List.getElem_set,kW,kW,uA,uA]
  by_cases e:k=j
  ·rw[if_pos e,if_pos e.symm]
  ·rw[if_neg e,if_neg (Ne.symm e)]
theorem wD {N:Nat} {f g:Nat→Int} (h: ∀c,c<N→f c=g c):lz N f=lz N g:=List.map_congr_left fun c hc=>by rw[h c (by simpa using hc)]
theorem mE {N:Nat} {f g:Nat→Bool} (h: ∀c,c<N→f c=g c):lv N f=lv N g:=List.map_congr_left fun c hc=>by rw[h c (by simpa using hc)]
theorem TT.first {b:Int→Option Blk} {g:TG} {p:Pg} {n m:Nat} {fr:Nat→Bool} (h:PgN p n m) (ht:TT b g (tbA p n m m fr)):TT b g (aY n m (eQ p n m) (List.range m) (Lp.lP n (eQ p n m)) fr):=by
 have hr:(List.range m).length=m:=by simp
 have hd:=dz0 h
 have hb:lb m (fun q=>(Lp.lP n (eQ p n m)).bs (atR (List.range m) q))=lb m fun q=>n+q:=List.map_congr_left fun q hq=>by
  have hq':q<m:=by simpa using hq
  simp only[nD hq'];rfl
 refine⟨?_,?_,?_,ht.fre,ht.pT,?_,?_,ht.pF,ht.nd⟩
 ·have:=ht.dH.congr (Z':=fun q c=>Lp.zt m (eQ p n m) (Lp.lP n (eQ p n m)) (atR (List.range m) q) c) fun q c hq _=>by
   simp only[tbA] at hq ⊢
   rw[nD hq,zt0 h]
  simp only[aY]
  rw[hr];exact this
 ·have e:=ht.hd
  simp only[tbA] at e
  simp only[aY,hd,hr]
  exact e
 ·simp only[aY];rw[hr,hb];exact ht.ba
 ·simp only[aY];rw[hr];exact ht.pR
 ·simp only[aY];rw[hr];exact ht.pB
structure aFE where
 i:Nat
 g:TG
 b:Int→Option Blk
theorem E6 {bl:Int→Option Blk} {K:V→(Int→Option Blk)→Prop} (p:Pg) (n m:Nat) (h:PgN p n m)
  (hN: ∀b' t,Lp.lV n m (n+m+1) 1000 (eQ p n m) t→Lp.rc m (Lp.cL n m) t (n+m)≠0→Sub bl b'→K (.tup [.nilp,.bool false]) b')
  (hS: ∀b' g t,Lp.lV n m (n+m+1) 1000 (eQ p n m) t→Lp.rc m (Lp.cL n m) t (n+m)=0→TT b' g (aY n m (eQ p n m) (Lp.bE n (Lp.kicks n t m) m) (Lp.kicks n t m) (okA n))→(∀x,x∈g.all→bl x=none)→Sub bl b'→K (.tup [.loc g.T 6 0 0,.bool true]) b'):
  bN Tryz.prog 126 [.ptr p.v] bl K:=by
 have hml:=h.ml
 have hnl:=h.nl
 have wnm:IntKind.i64.wrap ((n:Int)+(m:Int))=((n+m:Nat):Int):=by rw[i64_in (by omega) (by omega)];simp
 have hint: ∀z:Int,z.natAbs≤1000→RO Tryz.prog 160 [.int .i64 z] (.agg (biC z)):=fun z hz=>pN z (by omega)
 refine bD Tryz.func126 rfl rfl (by rw[Tryz.ntmps126];simp) ?_
 rw[Tryz.ntmps126,Tryz.results126]
 refine aC ?_
 simp
 refine bI aN (by kernel_rfl) ?_
 simp[Pg.v,h.rows,h.aZ]
 rw[wnm]
 obtain⟨N,hN0⟩: ∃N,n+m=N:=⟨_,rfl⟩
 rw[hN0]
 refine aC ?_
 simp
 refine bS aN bl (Sub.refl _) [0,1,2] 4 (by kernel_rfl) ?_
 simp
 refine aG (hint 1 (by decide)) ?_
 simp
 refine Dz 3 ?_
 simp
 refine⟨by omega,by unfold maxLen;omega,fun gF hgF hbF=> ?_⟩
 have sF:Sub bl (upd bl gF (some ⟨1,List.replicate N [.bool false]⟩)):=by simp[hbF]
 refine⟨sF,Dz 4 ?_⟩
 simp
 refine⟨sF,Dz 5 ?_⟩
 simp
 intro gT hgT hTF hbT
 refine⟨by simp[hbF,hbT,hTF],Dz 6 ?_⟩
 simp
 refine⟨by simp[hbF,hbT,hTF],Dy ?_⟩
 simp
 obtain⟨b0,hb0⟩: ∃b0,b0=upd (upd bl gF (some ⟨1,List.replicate N [.bool false]⟩)) gT (some ⟨6,[[.nils,.bool false,.sl (iv (lim 1)),.nils,.int .i64 N,.lsl gF 1 0 N]]⟩):=⟨_,rfl⟩
 have b0T:b0 gT=some ⟨6,[[.nils,.bool false,.sl (iv (lim 1)),.nils,.int .i64 N,.lsl gF 1 0 N]]⟩:=by rw[hb0];simp[dP]
 have b0F:b0 gF=some ⟨1,lv N fun _=>false⟩:=by rw[hb0];simp[Ne.symm hTF,Ib]
 have s0:Sub bl b0:=by rw[hb0];simp[hbF,hbT,hTF]
 refine gG [(0,.ptr p.v),(4,.int .i64 N),(5,.loc gT 6 0 0),(34,.int .i64 m),(35,.int .i64 0)] 205 b0 ⟨rfl,by simp[Pg.v,h.rows,h.aZ],by rw[hb0];exact sub_eq (by simp[dP])⟩ ?_
 clear hb0
 refine qW (g:=gT) (s:=6) 0 0 1 b0T rfl rfl fun gR hgR hRT=> ?_
 have hgR:b0 gR=none:=hgR
 have hRF:gR≠gF:=fun e=>by rw[e,b0F] at hgR;cases hgR
 have b0R:bl gR=none:=by
  cases hv:bl gR with
  | none => rfl
  | some y => have := s0 gR y hv; rw [hgR] at this; cases this
 refine qW (g:=gT) (s:=6) (els:= [[.lsl gR 1 0 0,.bool false,.sl (iv (lim 1)),.nils,.int .i64 N,.lsl gF 1 0 N]]) 0 3 1 (by simp[Ne.symm hRT]) rfl rfl fun gB hgB hBT=> ?_
 simp[hBT] at hgB
 obtain⟨hBR,hgB⟩:=hgB
 have hBF:gB≠gF:=fun e=>by rw[e,b0F] at hgB;cases hgB
 have b0B:bl gB=none:=by
  cases hv:bl gB with
  | none => rfl
  | some y => have := s0 gB y hv; rw [hgB] at this; cases this
 obtain⟨b1,hb1⟩: ∃b1,b1=upd (upd (upd (upd b0 gT (some ⟨6,[[.lsl gR 1 0 0,.bool false,.sl (iv (lim 1)),.nils,.int .i64 N,.lsl gF 1 0 N]]⟩)) gR (some ⟨1,[]⟩)) gT (some ⟨6,[[.lsl gR 1 0 0,.bool false,.sl (iv (lim 1)),.lsl gB 1 0 0,.int .i64 N,.lsl gF 1 0 N]]⟩)) gB (some ⟨1,[]⟩):=⟨_,rfl⟩
 have t1:TT b1 ⟨gT,gR,gB,gF,[]⟩ (tbA p n m 0 (fun _=>false)):=by
  refine TT.start rfl ?_ ?_ ?_ ?_ hgT hgF ?_
  ·rw[hb1];simp[hRT,Ne.symm hBR]
  ·rw[hb1];simp
  ·rw[hb1];simp[Ne.symm hBT,Ne.symm hRT,tbA,hN0]
  ·rw[hb1];simp[Ne.symm hBF,Ne.symm hRF,Ne.symm hTF,tbA,hN0,b0F]
  ·simp;grind
 refine gG [(0,.ptr p.v),(4,.int .i64 N),(5,.loc gT 6 0 0),(34,.int .i64 m),(35,.int .i64 0)] 205 b1 ⟨rfl,by simp,by rw[hb1];exact sub_eq (by simp)⟩ ?_
 have s1:Sub bl b1:=by
  intro x y hx
  have:=s0 x y hx
  have x1:x≠gT:=fun e=>by rw[e,hbT] at hx;cases hx
  have x2:x≠gR:=fun e=>by rw[e,b0R] at hx;cases hx
  have x3:x≠gB:=fun e=>by rw[e,b0B] at hx;cases hx
  rw[hb1]
  simp[x1,x2,x3,this]
 clear hb1
 refine aP (fun q:aFE=> [(0,.ptr p.v),(4,.int .i64 N),(5,.loc gT 6 0 0),(34,.int .i64 m),(35,.int .i64 q.i)]) (fun q=>q.b) (fun q=>q.i≤m∧TT q.b q.g (tbA p n m q.i (fun _=>false))∧q.g.T=gT∧q.g.F=gF∧(∀x,x∈q.g.all→bl x=none)∧Sub bl q.b) (fun q=>m - q.i) _ ⟨0,⟨gT,gR,gB,gF,[]⟩,b1⟩ ⟨Nat.zero_le _,t1,rfl,rfl,by simp[TG.all,hbT,b0R,b0B,hbF],s1⟩ ⟨rfl,by simp,Sub.refl _⟩ ?_
 clear s1 t1 hgB hgR s0 b0T b0F
 clear b0R b0B hBT hBF hBR hRT hRF
 rintro⟨i,⟨gT',gR,gB,gF',ids⟩,b⟩ ⟨him,hTb,e1,e2,hal,hsb⟩
 simp only at e1 e2 him hTb hsb
 subst e1 e2
 have bT:b gT'=_:=hTb.hd
 have bB:b gB=_:=hTb.ba
 have bG:b gR=_:=hTb.dH.top
 have bF:b gF'=_:=hTb.fre
 have hil:=hTb.dH.len
 simp only[tbA] at bT bB bG bF hil
 rw[hN0] at bT bF bG
 have wi:IntKind.i64.wrap ((i:Int)+1)=(i:Int)+1:=i64_in (by omega) (by omega)
 obtain⟨N1,hN1⟩: ∃x,N+1=x:=⟨_,rfl⟩
 rw[hN1] at bG
 have wN:IntKind.i64.wrap ((N:Int)+1)=(N1:Int):=by rw[i64_in (by omega) (by omega)];omega
 refine aE ?_
 simp
 refine aE ?_
 simp
 refine⟨fun hi=> ?_,fun hi=> ?_⟩
 ·refine cE (cC ?_)
  refine aE ?_
  simp
  refine aE ?_
  simp[wN]
  refine⟨by omega,by unfold maxLen;omega,fun gr hgr hbr=> ?_⟩
  refine aC4 (g:=gr) (s:=2) (els:=List.replicate N1 [.bool false,.nils]) ?_ ?_
  ·simp
  rw[Mc]
  refine aE ?_
  simp
  have rT: ¬ gr=gT':=fun e=>by rw[e,bT] at hbr;cases hbr
  have rR: ¬ gr=gR:=fun e=>by rw[e,bG] at hbr;cases hbr
  have rB: ¬ gr=gB:=fun e=>by rw[e,bB] at hbr;cases hbr
  have rF: ¬ gr=gF':=fun e=>by rw[e,bF] at hbr;cases hbr
  have ri:gr∉ids:=fun hm2=>by
   obtain⟨q,hq⟩:=List.mem_iff_getElem?.1 hm2
   rw[hTb.dH.row q gr hq] at hbr;cases hbr
  have rbl:bl gr=none:=by
   cases hv:bl gr with
   | none => rfl
   | some y => have := hsb gr y hv; rw [hbr] at this; cases this
  refine lW (fun _:Unit=> [(0,.ptr p.v),(4,.int .i64 N),(5,.loc gT' 6 0 0),(34,.int .i64 m),(35,.int .i64 i),(6,.int .i64 i),(7,.lsl gr 2 0 N1),(8,.int .i64 (sgB p i))]) (fun _=>upd b gr (some ⟨2,zv N1 fun _=>0⟩)) (fun _=>True) 205 ?_ ?_
  ·refine aC ?_
   simp[Pg.v,h.b,hi]
   refine⟨fun cM=> ?_,fun cM=> ?_⟩
   ·simp[aF]
    exact⟨rfl,by simp[Pg.v,h.b,sgB,cM],sub_eq (by simp)⟩
   ·simp[aF]
    exact⟨rfl,by simp[Pg.v,h.b,sgB,cM],sub_eq (by simp)⟩
  rintro⟨⟩ -
  obtain⟨sg,hsg⟩: ∃x,sgB p i=x:=⟨_,rfl⟩
  have sg1:sg.natAbs=1:=by rw[←hsg];unfold sgB;split<;>rfl
  rw[hsg]
  have hpA: ∀c,(sg*pA p n i c).natAbs≤1000:=fun c=>by rw[Int.natAbs_mul,sg1,Nat.one_mul];exact kQ h.am _
  have hpB:(sg*pB p i).natAbs≤1000:=by rw[Int.natAbs_mul,sg1,Nat.one_mul];exact kQ h.bm _
  refine lW (fun _:Unit=> [(0,.ptr p.v),(4,.int .i64 N),(5,.loc gT' 6 0 0),(34,.int .i64 m),(35,.int .i64 i),(6,.int .i64 i),(7,.lsl gr 2 0 N1),(8,.int .i64 sg)]) (fun _=>upd b gr (some ⟨2,zv N1 fun c=>if c<n then sg*pA p n i c else 0⟩)) (fun _=>True) 205 ?_ ?_
  ·refine aC ?_
   simp
   refine aD (Su p n m i h hi) ?_
   simp
   refine aP (fun j:Nat=> [(0,.ptr p.v),(4,.int .i64 N),(5,.loc gT' 6 0 0),(34,.int .i64 m),(35,.int .i64 i),(6,.int .i64 i),(7,.lsl gr 2 0 N1),(8,.int .i64 sg),(51,.sl (iv (lz n (pA p n i)))),(52,.int .i64 n),(53,.int .i64 j)]) (fun j=>upd b gr (some ⟨2,zv N1 fun c=>if c<j then sg*pA p n i c else 0⟩)) (fun j=>j≤n) (fun j=>n - j) _ 0 (Nat.zero_le _) ⟨rfl,by simp,sub_eq (by simp)⟩ ?_
   intro j hj
   have wj:IntKind.i64.wrap ((j:Int)+1)=(j:Int)+1:=i64_in (by omega) (by omega)
   have wa: ∀c,IntKind.i64.wrap (sg*pA p n i c)=sg*pA p n i c:=fun c=>i64_in (by have:=hpA c;omega) (by have:=hpA c;omega)
   refine aC ?_
   simp
   refine⟨fun hjn=> ?_,fun hjn=> ?_⟩
   ·simp[hjn,wa]
    refine aD (hint _ (hpA j)) ?_
    simp[wj,aB,show j<N1 by omega,Ga]
    refine⟨j+1,by omega,by omega,rfl,by simp,?_⟩
    refine sub_eq ?_
    funext x
    simp only[aA]
    split
    ·congr 2
     exact qX fun c hc=>by
      by_cases e:c=j
      ·rw[if_pos e,if_pos (by omega),e]
      ·rw[if_neg e];grind
    ·rfl
   ·rw[show j=n by omega]
    simp[aF]
    exact⟨rfl,by simp,Sub.refl _⟩
  rintro⟨⟩ -
  refine aE ?_
  have wni:IntKind.i64.wrap ((n:Int)+(i:Int))=((n+i:Nat):Int):=by rw[i64_in (by omega) (by omega)];simp
  obtain⟨ni,hni⟩: ∃x,n+i=x:=⟨_,rfl⟩
  rw[hni] at wni
  refine cD aN [0,1,2,3,4,5,6,7,8] 1 9 (by kernel_rfl) ?_
  simp[Pg.v,h.aZ,wni]
  refine aG (hint 1 (by decide)) ?_
  simp[show ni<N1 by omega,show(ni:Int)<N1 by omega]
  refine bO (i:=9) (by kernel_rfl) rfl rfl rfl ?_
  simp[show ni<N1 by omega,Ga]
  refine Dy ?_
  simp
  refine aE ?_
  have wB:IntKind.i64.wrap (sg*pB p i)=sg*pB p i:=i64_in (by omega) (by omega)
  have hNN:N<N1:=by omega
  have Qi:(N:Int)<N1:=by omega
  simp[Pg.v,h.b,hi,wB]
  refine aD (hint _ hpB) ?_
  simp[hNN,Qi,Ga]
  obtain⟨b2,hb2⟩: ∃b2,b2=upd b gr (some ⟨2,zv N1 (eZ p n m i)⟩):=⟨_,rfl⟩
  refine gG [(0,.ptr p.v),(4,.int .i64 N),(5,.loc gT' 6 0 0),(34,.int .i64 m),(35,.int .i64 i),(6,.int .i64 i),(7,.lsl gr 2 0 N1)] 205 b2 ⟨rfl,by simp[Pg.v,h.b,h.aZ],?_⟩ ?_
  ·rw[hb2]
   refine sub_eq ?_
   funext x
   simp only[aA]
   split
   ·congr 2
    exact qX fun c hc=>by
     unfold eZ
     rw[hN0,hni,hsg]
     grind
   ·rfl
  have b2r:b2 gr=some ⟨2,zv N1 (eZ p n m i)⟩:=by rw[hb2];simp
  have b2x: ∀x,x≠gr→b2 x=b x:=fun x hx=>by rw[hb2,aL _ _ _ _ hx]
  have b2T:=b2x gT' (Ne.symm rT)
  have b2R:=b2x gR (Ne.symm rR)
  have b2B:=b2x gB (Ne.symm rB)
  have b2F:=b2x gF' (Ne.symm rF)
  have b2i: ∀x,x∈ids→b2 x=b x:=fun x hx=>b2x x fun e=>ri (e▸hx)
  rw[bT] at b2T
  rw[bG] at b2R
  rw[bB] at b2B
  rw[bF] at b2F
  clear hb2
  have nds:=hTb.nd
  simp only[List.nodup_cons,List.mem_cons,not_or] at nds
  obtain⟨⟨nTR,nTB,nTF,nTi⟩,⟨nRB,nRF,nRi⟩,⟨nBF,nBi⟩,nFi,Md⟩:=nds
  have Gl: ∀x,b2 x=none→x≠gT'∧x≠gR∧x≠gB∧x≠gF'∧x≠gr∧x∉ids:=fun x hx=>by
   refine⟨fun e=> ?_,fun e=> ?_,fun e=> ?_,fun e=> ?_,fun e=> ?_,fun e=> ?_⟩
   ·rw[e,b2T] at hx;cases hx
   ·rw[e,b2R] at hx;cases hx
   ·rw[e,b2B] at hx;cases hx
   ·rw[e,b2F] at hx;cases hx
   ·rw[e,b2r] at hx;cases hx
   ·rw[b2i x e] at hx
    obtain⟨q,hq⟩:=List.mem_iff_getElem?.1 e
    rw[hTb.dH.row q x hq] at hx;cases hx
  refine aE ?_
  simp[b2T,b2R,appV,elsV,hil]
  intro g4 hg4 hb4
  obtain⟨n4T,n4R,n4B,n4F,n4r,n4i⟩:=Gl g4 hb4
  have tk:(ids.map fun g=> [V.lsl g 2 0 N1]).take i=ids.map fun g=> [V.lsl g 2 0 N1]:=List.take_of_length_le (by simp[hil])
  simp[Ne.symm n4T,Ne.symm n4R,n4T,n4R,Int.not_lt.2 hg4,b2R,hil,tk]
  refine⟨by omega,fun gN hgN hbN=> ?_⟩
  have nN:gN≠gT'∧gN≠gB∧gN≠gF'∧gN≠gr∧gN∉ids∧gN≠g4:=by
   by_cases e:gN=gR
   ·subst e
    exact⟨Ne.symm nTR,nRB,nRF,Ne.symm rR,nRi,Ne.symm n4R⟩
   ·obtain⟨q1,q2⟩:=hbN e
    obtain⟨w1,w2,w3,w4,w5,w6⟩:=Gl gN q2
    exact⟨w1,w3,w4,w5,w6,q1⟩
  obtain⟨nNT,nNB,nNF,nNr,nNi,nN4⟩:=nN
  simp[Ne.symm nNT,nNT,Ne.symm n4T,nTR,b2T]
  obtain⟨b3,hb3⟩: ∃b3,b3=upd (upd (rem b2 gR) gN (some ⟨1,(ids++ [gr]).map fun g=> [.lsl g 2 0 N1]⟩)) gT' (some ⟨6,[[.lsl gN 1 0 (i+1),.bool false,.sl (iv (lim 1)),.lsl gB 1 0 i,.int .i64 N,.lsl gF' 1 0 N]]⟩):=⟨_,rfl⟩
  refine gG [(0,.ptr p.v),(4,.int .i64 N),(5,.loc gT' 6 0 0),(34,.int .i64 m),(35,.int .i64 i),(6,.int .i64 i)] 205 b3 ⟨rfl,by simp[Pg.v,h.b,h.aZ],?_⟩ ?_
  ·rw[hb3]
   intro z y hz
   simp only[aA,aJ] at hz ⊢
   grind
  have b3N:b3 gN=some ⟨1,(ids++ [gr]).map fun g=> [.lsl g 2 0 N1]⟩:=by rw[hb3];simp[nNT]
  have b3T:b3 gT'=some ⟨6,[[.lsl gN 1 0 (i+1),.bool false,.sl (iv (lim 1)),.lsl gB 1 0 i,.int .i64 N,.lsl gF' 1 0 N]]⟩:=by rw[hb3];simp
  have b3x: ∀x,x≠gT'→x≠gN→x≠gR→b3 x=b2 x:=fun x x1 x2 x3=>by rw[hb3,aL _ _ _ _ x1,aL _ _ _ _ x2,aJ,if_neg x3]
  have b3B:=b3x gB (Ne.symm nTB) (Ne.symm nNB) (Ne.symm nRB)
  rw[b2B] at b3B
  clear hb3
  refine rV aN (rem b3 gB) (wP b3 gB) [0,1,2,3,4,5,6,7,8,9,10] 5 15 (by kernel_rfl) ?_
  simp[nTB,b3T,Pg.v,h.aZ,wni]
  refine Dq 11 false ?_
  simp
  intro g5 hg5 hb5
  have n5:g5≠gT'∧g5≠gN∧g5≠gB:=⟨fun e=>(by rw[e,b3T] at hb5;cases hb5),fun e=>(by rw[e,b3N] at hb5;cases hb5),fun e=>(by rw[e,b3B] at hb5;cases hb5)⟩
  obtain⟨n5T,n5N,n5B⟩:=n5
  have r5:rem b3 gB g5=none:=by rw[aJ,if_neg n5B];exact hb5
  have aE0: ∀X,Sub (rem b3 gB) (upd b3 g5 X):=fun X z y hz=>by
   rw[aJ] at hz
   rw[aA]
   grind
  refine⟨aE0 _,Dq 12 false ?_⟩
  have tkB:(iv (lb i fun q=>n+q)).take i=iv (lb i fun q=>n+q):=List.take_of_length_le (by simp)
  simp[n5B,Ne.symm n5B,appV,elsV,Int.not_lt.2 hg5,b3B,tkB]
  have hlb:iv (lb i fun q=>n+q)++ [[.int .i64 ni]]=iv (lb (i+1) fun q=>n+q):=by rw[Lh,mT,hni];rfl
  rw[hlb]
  refine⟨by omega,fun gM hgM hbM=> ?_⟩
  have nM:gM≠gT'∧gM≠gN∧gM≠gF'∧gM≠gr∧gM∉ids∧gM≠g5:=by
   by_cases e:gM=gB
   ·subst e
    exact⟨Ne.symm nTB,Ne.symm nNB,nBF,Ne.symm rB,nBi,Ne.symm n5B⟩
   ·obtain⟨q1,q2⟩:=hbM e
    have q3:gM≠gT':=fun e2=>by rw[e2,b3T] at q2;cases q2
    have q4:gM≠gN:=fun e2=>by rw[e2,b3N] at q2;cases q2
    by_cases e3:gM=gR
    ·subst e3
     exact⟨q3,q4,nRF,Ne.symm rR,nRi,q1⟩
    ·rw[b3x gM q3 q4 e3] at q2
     obtain⟨w1,w2,w3,w4,w5,w6⟩:=Gl gM q2
     exact⟨q3,q4,w4,w5,w6,q1⟩
  obtain⟨nMT,nMN,nMF,nMr,nMi,nM5⟩:=nM
  have wW: ∀X Y,Sub (rem b3 gB) (upd (rem (upd b3 g5 X) gB) gM Y):=fun X Y z y hz=>by
   rw[aJ] at hz
   rw[aA,aJ,aA]
   grind
  have aBQ: ∀X Y Z,Sub (upd (upd (rem b3 gB) gM Y) gT' Z) (upd (upd (rem (upd b3 g5 X) gB) gM Y) gT' Z):=fun X Y Z z y hz=>by
   simp only[aA,aJ] at hz ⊢
   grind
  refine⟨wW _ _,Dq 13 false ?_⟩
  simp
  refine⟨wW _ _,Dq 14 false ?_⟩
  simp
  refine⟨wW _ _,Dq 15 true ?_⟩
  simp[Ne.symm nMT,nTB,n5T,Ne.symm n5T,b3T]
  refine Dd ?_
  simp
  refine aC ?_
  simp[wi,aB]
  obtain⟨b4,Jf⟩: ∃b4,b4=upd (upd (rem b3 gB) gM (some ⟨1,iv (lb (i+1) fun q=>n+q)⟩)) gT' (some ⟨6,[[.lsl gN 1 0 (i+1),.bool false,.sl (iv (lim 1)),.lsl gM 1 0 (i+1),.int .i64 N,.lsl gF' 1 0 N]]⟩):=⟨_,rfl⟩
  have b4T:b4 gT'=some ⟨6,[[.lsl gN 1 0 (i+1),.bool false,.sl (iv (lim 1)),.lsl gM 1 0 (i+1),.int .i64 N,.lsl gF' 1 0 N]]⟩:=by rw[Jf];simp
  have b4M:b4 gM=some ⟨1,iv (lb (i+1) fun q=>n+q)⟩:=by rw[Jf];simp[nMT]
  have b4x: ∀x,x≠gT'→x≠gM→x≠gB→b4 x=b3 x:=fun x x1 x2 x3=>by rw[Jf,aL _ _ _ _ x1,aL _ _ _ _ x2,aJ,if_neg x3]
  have b4o: ∀x,x≠gT'→x≠gM→x≠gB→x≠gN→x≠gR→x≠gr→b4 x=b x:=fun x x1 x2 x3 x4 x5 x6=>by rw[b4x x x1 x2 x3,b3x x x1 x4 x5,b2x x x6]
  have fr: ∀x,b x=none→bl x=none:=fun x hx=>by
   cases hv:bl x with
   | none => rfl
   | some y => have := hsb x y hv; rw [hx] at this; cases this
  have blR:bl gR=none:=hal gR (by simp[TG.all])
  have blB:bl gB=none:=hal gB (by simp[TG.all])
  have blN:bl gN=none:=by
   by_cases e:gN=gR
   ·rw[e];exact blR
   ·have:=(hbN e).2
    rw[b2x gN nNr] at this;exact fr gN this
  have blM:bl gM=none:=by
   by_cases e:gM=gB
   ·rw[e];exact blB
   ·by_cases e3:gM=gR
    ·rw[e3];exact blR
    ·have:=(hbM e).2
     rw[b3x gM nMT nMN e3,b2x gM nMr] at this;exact fr gM this
  have H4:=hTb.snoc (b':=b4) gN gM gr (by simp only[tbA];rw[hN0,hN1,b4x gN nNT (Ne.symm nMN) nNB,b3N]) (by simp only[tbA];exact b4M) (by simp only[tbA];rw[hN0,b4T];rfl)
   (by simp only;exact b4o gF' (Ne.symm nTF) (Ne.symm nMF) (Ne.symm nBF) (Ne.symm nNF) (Ne.symm nRF) (Ne.symm rF))
   (fun x hx=>by simp only at hx;exact b4o x (fun e=>nTi (e▸hx)) (fun e=>nMi (e▸hx)) (fun e=>nBi (e▸hx)) (fun e=>nNi (e▸hx)) (fun e=>nRi (e▸hx)) (fun e=>ri (e▸hx)))
   (by simp only[tbA];rw[hN0,hN1,b4x gr rT (Ne.symm nMr) rB,b3x gr rT (Ne.symm nNr) rR,b2r]) hgr hgN hgM (by
     simp only[List.nodup_cons,List.mem_cons,not_or,List.mem_append,List.mem_singleton,List.nodup_append,List.not_mem_nil,or_false]
     refine⟨⟨Ne.symm nNT,Ne.symm nMT,nTF,nTi,Ne.symm rT⟩,⟨Ne.symm nMN,nNF,nNi,nNr⟩,⟨nMF,nMi,nMr⟩,⟨nFi,Ne.symm rF⟩,Md,by simp,fun a ha c hc=> ?_⟩
     rw[hc];exact fun e=>ri (e▸ha))
  refine⟨⟨i+1,⟨gT',gN,gM,gF',ids++ [gr]⟩,b4⟩,⟨by simp only;omega,H4,rfl,rfl,fun x hx=> ?_,fun x y hx=> ?_⟩,by simp only;omega,rfl,by simp[h.aZ,h.b],by rw[Jf];exact aBQ _ _ _⟩
  ·simp only[TG.all,List.mem_cons,List.mem_append,List.not_mem_nil,or_false] at hx
   rcases hx with rfl | rfl | rfl | rfl | hx | rfl
   ·exact hbT
   ·exact blN
   ·exact blM
   ·exact hbF
   ·exact hal x (by simp[TG.all,hx])
   ·exact rbl
  ·have nx: ∀z,bl z=none→x≠z:=fun z hz e=>by rw[e,hz] at hx;cases hx
   simp only
   rw[b4o x (nx _ hbT) (nx _ blM) (nx _ blB) (nx _ blN) (nx _ blR) (nx _ rbl)]
   exact hsb x y hx
 ·have hie:i=m:=by omega
  subst hie
  clear hi him
  refine⟨by omega,by unfold maxLen;omega,fun gO hgO hbO=> ?_⟩
  have oT: ¬ gO=gT':=fun e=>by rw[e,bT] at hbO;cases hbO
  have oR: ¬ gO=gR:=fun e=>by rw[e,bG] at hbO;cases hbO
  have oB: ¬ gO=gB:=fun e=>by rw[e,bB] at hbO;cases hbO
  have oF: ¬ gO=gF':=fun e=>by rw[e,bF] at hbO;cases hbO
  have oi:gO∉ids:=fun hm2=>by
   obtain⟨q,hq⟩:=List.mem_iff_getElem?.1 hm2
   rw[hTb.dH.row q gO hq] at hbO;cases hbO
  have nds:=hTb.nd
  simp only[List.nodup_cons,List.mem_cons,not_or] at nds
  obtain⟨⟨nTR,nTB,nTF,nTi⟩,⟨nRB,nRF,nRi⟩,⟨nBF,nBi⟩,nFi,Md⟩:=nds
  refine aP (fun k:Nat=> [(0,.ptr p.v),(4,.int .i64 N),(5,.loc gT' 6 0 0),(11,.lsl gO 1 0 N),(117,.int .i64 N),(118,.int .i64 k)]) (fun k=>upd (upd b gF' (some ⟨1,lv N fun c=>decide (c<k∧c<n)⟩)) gO (some ⟨1,iv (lz N fun c=>if c<k then oA n i c else 0)⟩)) (fun k=>k≤N) (fun k=>N - k) _ 0 (Nat.zero_le _) ⟨rfl,by simp[Pg.v,h.b,h.aZ],?_⟩ ?_
  ·refine sub_eq ?_
   funext x
   simp only[aA]
   rw[H8]
   split
   ·simp
   ·split
    ·rename_i e;rw[e,bF];simp
    ·rfl
  intro k hk
  have wk:IntKind.i64.wrap ((k:Int)+1)=(k:Int)+1:=i64_in (by omega) (by omega)
  refine aE ?_
  simp
  refine aE ?_
  simp
  refine⟨fun hkn=> ?_,fun hkn=> ?_⟩
  ·refine cE (cC ?_)
   refine aE ?_
   simp
   refine cE ?_
   refine cD aN [0,1,2,3,4,5,6,7,8,9,10,11] 1 12 (by kernel_rfl) ?_
   have nOT:=Ne.symm oT
   simp[Pg.v,h.aZ,bT,nOT,nTF,hkn]
   refine bO (i:=12) (by kernel_rfl) rfl rfl rfl ?_
   simp[Ne.symm oF,hkn,M5, -Bool.decide_and]
   refine Dy ?_
   simp
   refine aC ?_
   simp[Pg.v,h.aZ,oF,hkn,wk,aB,Dc]
   refine⟨fun hnk=> ?_,fun hnk=> ?_⟩
   ·refine aC ?_
    simp[wk,aB]
    refine⟨k+1,by omega,by omega,rfl,by simp[h.aZ],sub_eq ?_⟩
    have e1:(lv N fun c=>decide (c<k+1)&& decide (c<n))=lv N fun c=>if c=k then decide (k<n) else decide (c<k)&& decide (c<n):=mE fun c _=>by
     by_cases e:c=k
     ·subst e;simp
     ·rw[if_neg e,show decide (c<k+1)=decide (c<k) from by simp;omega]
    have e2:(lz N fun c=>if c<k+1 then oA n i c else 0)=lz N fun c=>if c=k then -1 else if c<k then oA n i c else 0:=wD fun c hc=>by
     by_cases e:c=k
     ·subst e;rw[if_pos (by omega),if_pos rfl];unfold oA;rw[if_pos ⟨hnk,by omega⟩]
     ·rw[if_neg e];grind
    funext x
    simp only[aA]
    rw[e1,e2]
    grind
   ·refine aC ?_
    simp[wk,aB]
    refine⟨k+1,by omega,by omega,rfl,by simp[h.aZ],sub_eq ?_⟩
    have e1:(lv N fun c=>decide (c<k+1)&& decide (c<n))=lv N fun c=>if c=k then decide (k<n) else decide (c<k)&& decide (c<n):=mE fun c _=>by
     by_cases e:c=k
     ·subst e;simp
     ·rw[if_neg e,show decide (c<k+1)=decide (c<k) from by simp;omega]
    have e2:(lz N fun c=>if c<k+1 then oA n i c else 0)=lz N fun c=>if c<k then oA n i c else 0:=wD fun c hc=>by
     by_cases e:c=k
     ·subst e;rw[if_pos (by omega),if_neg (by omega)];unfold oA;rw[if_neg (by omega)]
     ·grind
    funext x
    simp only[aA]
    rw[e1,e2]
    grind
  ·have hke:k=N:=by omega
   subst hke
   clear hkn hk
   obtain⟨bM,hbM⟩: ∃bM,bM=upd (upd b gF' (some ⟨1,lv k fun c=>decide (c<k)&& decide (c<n)⟩)) gO (some ⟨1,iv (lz k fun c=>if c<k then oA n i c else 0)⟩):=⟨_,rfl⟩
   rw[←hbM]
   have bMF:bM gF'=some ⟨1,lv k (okA n)⟩:=by
    rw[hbM]
    simp[Ne.symm oF]
    exact mE fun c hc=>by unfold okA;simp[hc]
   have bMO:bM gO=some ⟨1,iv (lz k (oA n i))⟩:=by
    rw[hbM]
    simp
    rw[wD fun c hc=>by rw[if_pos hc]]
   have bMx: ∀x,x≠gF'→x≠gO→bM x=b x:=fun x x1 x2=>by rw[hbM,aL _ _ _ _ x2,aL _ _ _ _ x1]
   clear hbM
   have hTM:=(hTb.aEP (b':=bM) (okA n) (by simp only[tbA];rw[hN0];exact bMF) (fun x y hx hx2 hy=>by
    rw[bMx x hx2 fun e=> ?_];exact hy
    have:=hal x hx
    rw[e] at hy;rw[hbO] at hy;cases hy)).first h
   obtain⟨e,h1,h2,h3,h4⟩:=Lp.vR (F:=fO (n+i) (okA n)) (N':=n+i) h.init (fun c hc=>hc.1) (Nat.le_refl _) (fun c hc=>⟨by omega,by omega,by unfold okA;simpa using hc⟩)
   rw[←Dh] at h1 h2 h3
   have hnx:Lp.nx (n+i) (n+i) (List.range i) (Lp.okW i (wO (oA n i)) (fO (n+i) (okA n))) (Lp.orb (Lp.nx (n+i) (n+i) (List.range i) (Lp.okW i (wO (oA n i)) (fO (n+i) (okA n)))) (Lp.lP n (eQ p n i)) e)=none:=by
    unfold Lp.nx at h1 ⊢
    rw[h1]
   have hoA: ∀c,(oA n i c).natAbs≤1000:=fun c=>by unfold oA;split<;>decide
   have G8:=fun K'=>sU (bl:=bM) (K:=K') n i (eQ p n i) (List.range i) ⟨gT',gR,gB,gF',ids⟩ (Lp.lP n (eQ p n i)) (okA n) (oA n i) gO e hml hnl (O2 i) hoA (.inl fun q hq=>by simpa using hq) hnx h2 h3 hTM (by rw[hN0];exact bMO) hgO (by simp[TG.all,oT,oR,oB,oF,oi])
   rw[Dh] at h1
   simp only[Dh] at G8
   obtain⟨t,ht⟩: ∃t,Lp.orb (Lp.nx (n+i) (n+i) (List.range i) (Lp.okW i (Lp.cL n i) (fO (n+i) (okA n)))) (Lp.lP n (eQ p n i)) e=t:=⟨_,rfl⟩
   rw[ht] at h1 h4
   simp only[ht] at G8
   simp only[hN0] at G8
   rw[hN0] at h1
   refine G8 _ (fun b' _ hT2 hx2=> ?_) (fun b' k' hk'=>absurd hk' (by rw[h1];simp))
   clear G8
   generalize frK i (oA n i) t (okA n) k=fr at hT2
   simp
   have Qi:k<N1:=by omega
   have aDK:(k:Int)<N1:=by omega
   have cT:b' gT'=_:=hT2.hd
   have cB:b' gB=_:=hT2.ba
   have cG:b' gR=_:=hT2.dH.top
   have cF:b' gF'=_:=hT2.fre
   have hrl:(List.range i).length=i:=by simp
   simp only[aY,hrl,hN0,hN1] at cT cB cG cF
   have cB2:lb i (fun q=>t.bs (atR (List.range i) q))=lb i t.bs:=List.map_congr_left fun q hq=>by
    have hq':q<i:=by simpa using hq
    simp only[nD hq']
   rw[cB2] at cB
   simp[cT]
   have cS:Sub bl b':=fun x y hx=>by
    have h9:=hsb x y hx
    have x1:x∉TG.all ⟨gT',gR,gB,gF',ids⟩:=fun hm2=>by have:=hal x hm2;rw[this] at hx;cases hx
    have x2:x≠gF':=fun e=>x1 (by rw[e];simp[TG.all])
    have x3:x≠gO:=fun e=>by rw[e,hbO] at h9;cases h9
    exact hx2 x y (by rw[bMx x x2 x3];exact h9) x1
   refine aP (fun j:Nat=> [(0,.ptr p.v),(4,.int .i64 k),(5,.loc gT' 6 0 0),(149,.lsl gB 1 0 i),(150,.int .i64 i),(151,.int .i64 j)]) (fun _=>b') (fun j=>j≤i∧ ∀q,q<j→ ¬ (n≤t.bs q∧0<t.X q (n+i))) (fun j=>i - j) _ 0 ⟨Nat.zero_le _,fun q hq=>by omega⟩ ⟨rfl,by simp[Pg.v,h.b,h.aZ],Sub.refl _⟩ ?_
   rintro j ⟨hj,dI⟩
   have wj:IntKind.i64.wrap ((j:Int)+1)=(j:Int)+1:=i64_in (by omega) (by omega)
   refine aE ?_
   simp
   refine aE ?_
   simp
   refine⟨fun hji=> ?_,fun hji=> ?_⟩
   ·refine cE (cC ?_)
    refine aE ?_
    simp[cB,hji]
    obtain⟨gi,hgi,Bs,Tc,tO⟩:=hT2.dH.at j (by simp only[aY,hrl];exact hji)
    simp only[aY] at tO
    rw[hN0,hN1,nD hji] at tO
    obtain⟨zx,hzx⟩: ∃zx,Lp.zt i (eQ p n i) t j k=zx:=⟨_,rfl⟩
    refine aE ?_
    simp
    refine aV [(0,.ptr p.v),(4,.int .i64 k),(5,.loc gT' 6 0 0),(149,.lsl gB 1 0 i),(150,.int .i64 i),(151,.int .i64 j),(13,.int .i64 j),(14,.int .i64 (t.bs j))] _ b' 175 (.bool (decide (n≤t.bs j∧0<zx))) ⟨rfl,by simp[Pg.v,h.b,h.aZ],Sub.refl _⟩ rfl ?_ ?_
    ·simp[Pg.v,h.aZ]
     by_cases hnb:n≤t.bs j
     ·have hgj: ∀h,ids[j]'h=gi:=fun h=>by rw[List.getElem?_eq_getElem h] at hgi;exact Option.some.inj hgi
      simp[hnb,Nat.not_lt.2 hnb,cT,cG,hji,hgj,tO,Qi,aDK,hil]
      refine aD (iS _) ?_
      rw[hzx]
      have hsp:0<zx.sign ↔ 0<zx:=by
       rcases Int.lt_trichotomy zx 0 with q | q | q
       ·rw[Int.sign_eq_neg_one_of_neg q];omega
       ·rw[q];decide
       ·rw[Int.sign_eq_one_of_pos q];omega
      simp[hsp]
     ·simp[hnb]
    have hzs:=Lp.nU h4.inv.z hji (show n+i<n+i+1 by omega)
    rw[hN0,hzx] at hzs
    have hzero:Lp.rc i (Lp.cL n i) t (n+i)=0→t.bs j<n∨t.X j (n+i)=0:=fun h0=>by
     rcases Nat.lt_or_ge (t.bs j) n with g | g
     ·exact .inl g
     ·exact .inr (h4.zero h0 j hji (by omega))
    refine aC ?_
    simp
    refine⟨fun c1 c2=> ?_,fun hno=> ?_⟩
    ·rw[aW]
     refine⟨[.nilp,.bool false],by simp,hN b' t h4 (fun h0=> ?_) cS⟩
     have:=hzs.1.1 c2
     rw[←hN0] at this
     rcases hzero h0 with g | g
     ·omega
     ·rw[g] at this;exact absurd this (by decide)
    ·refine aC ?_
     simp[wj,aB]
     refine⟨j+1,⟨by omega,fun q hq c1 c2=> ?_⟩,by omega,rfl,by simp[h.aZ,h.b],Sub.refl _⟩
     by_cases e:q=j
     ·subst e
      rw[hN0] at c2
      have g1:=hno c1
      have g2:=hzs.1.2 c2
      omega
     ·exact dI q (by omega) ⟨c1,c2⟩
   ·have hje:j=i:=by omega
    subst hje
    have hp0:Lp.rc j (Lp.cL n j) t (n+j)=0:=by
     rw[Lp.sP rfl]
     refine Lp.eN fun q hq=> ?_
     split
     ·rename_i hb
      have h8:=h4.inv.nn q hq
      have h9: ¬ 0<t.X q (n+j):=fun g=>dI q hq ⟨hb.1,g⟩
      grind
     ·rfl
    simp[cT]
    refine aP (fun c:Nat=> [(0,.ptr p.v),(4,.int .i64 k),(5,.loc gT' 6 0 0),(181,.int .i64 k),(182,.int .i64 c)]) (fun c=>upd b' gF' (some ⟨1,lv k fun x=>if x<c then okA n x else fr x⟩)) (fun c=>c≤k) (fun c=>k - c) _ 0 (Nat.zero_le _) ⟨rfl,by simp[Pg.v,h.b,h.aZ],?_⟩ ?_
    ·refine sub_eq ?_
     funext x
     simp only[aA]
     split
     ·rename_i e;rw[e,cF];simp
     ·rfl
    intro c hc
    have wc:IntKind.i64.wrap ((c:Int)+1)=(c:Int)+1:=i64_in (by omega) (by omega)
    refine aE ?_
    simp
    refine aE ?_
    simp
    refine⟨fun hck=> ?_,fun hck=> ?_⟩
    ·refine cE (cC ?_)
     refine aE ?_
     simp
     refine cD aN [0,1,2,3,4,5,6,7,8,9,10,11] 1 12 (by kernel_rfl) ?_
     simp[Pg.v,h.aZ,cT,nTF,hck]
     refine bO (i:=12) (by kernel_rfl) rfl rfl rfl ?_
     simp[hck,M5]
     refine Dy ?_
     simp
     refine aC ?_
     simp[wc,aB]
     refine⟨c+1,by omega,by omega,rfl,by simp[h.aZ],sub_eq ?_⟩
     funext x
     simp only[aA]
     split
     ·congr 2
      exact mE fun y hy=>by
       by_cases e:y=c
       ·subst e;simp[okA]
       ·rw[if_neg e];grind
     ·rfl
    ·have hce:c=k:=by omega
     subst hce
     obtain⟨bL,hbL⟩: ∃bL,bL=upd b' gF' (some ⟨1,lv c fun x=>if x<c then okA n x else fr x⟩):=⟨_,rfl⟩
     rw[←hbL]
     have bLF:bL gF'=some ⟨1,lv c (okA n)⟩:=by rw[hbL,bP,mE fun x hx=>by rw[if_pos hx]]
     have bLx: ∀x,x≠gF'→bL x=b' x:=fun x x1=>by rw[hbL,aL _ _ _ _ x1]
     clear hbL
     have hTL:=hT2.aEP (b':=bL) (okA n) (by simp only[aY];rw[hN0];exact bLF) (fun x y hx hx2 hy=>by rw[bLx x hx2];exact hy)
     simp[Pg.v,h.aZ]
     refine Cq n j (eQ p n j) ⟨gT',gR,gB,gF',ids⟩ t (okA n) hml hnl (h4.uP hp0) hTL fun b5 g5 e1 e2 hT5 aKY hb5=> ?_
     simp
     rw[aW]
     have n5: ∀x y,bl x=some y→x∉TG.all ⟨gT',gR,gB,gF',ids⟩:=fun x y hx hm2=>by have:=hal x hm2;rw[this] at hx;cases hx
     refine⟨[.loc g5.T 6 0 0,.bool true],by simp[e1],hS b5 g5 t h4 hp0 hT5 (fun x hx=> ?_) fun x y hx=> ?_⟩
     ·rcases aKY x hx with g1 | g1
      ·exact hal x g1
      ·cases hv:bl x with
       | none => rfl
       | some y =>
         have g2:=n5 x y hv
         rw[bLx x fun e=>g2 (by rw[e];simp[TG.all]),cS x y hv] at g1
         cases g1
     ·have g2:=n5 x y hx
      exact hb5 x y (by rw[bLx x fun e=>g2 (by rw[e];simp[TG.all])];exact cS x y hx) g2

section
variable {P : Program}
theorem Mem.see {w0:World} {M F:Nat→Prop} {bl:Int→Option Blk} {w:World} (hm:Mem w0 M F bl w) {g:Int} {b b':Blk} (hb:bl g=some b) (hB:bU F w g b'):Mem w0 M F (upd bl g (some b')) w:=by
 refine⟨hm.os,hm.tape,hm.output,hm.size,hm.frame,hm.gK,hm.fr,?_,fun x c hx h0=> ?_,fun x c hx=> ?_⟩
 ·obtain⟨n,hn⟩:=hm.fin
  refine⟨n,fun x hx=> ?_⟩
  have:=hn x hx
  by_cases hxg:x=g
  ·subst hxg;rw[hb] at this;cases this
  ·rw[aL _ _ _ _ hxg];exact this
 ·by_cases hxg:x=g
  ·subst hxg;exact hm.own x _ hb h0
  ·rw[aL _ _ _ _ hxg] at hx
   exact hm.own x c hx h0
 ·by_cases hxg:x=g
  ·subst hxg
   rw[bP] at hx
   cases hx;exact hB
  ·rw[aL _ _ _ _ hxg] at hx
   exact hm.blk x c hx
def uns (cs:List V):List (List V):=cs.map fun x=> [x]
theorem F6 {F:Nat→Prop} {w:World} {g:Int} {cs:List V} (h0:0≤g):bU F w g ⟨1,uns cs⟩ ↔ bU F w g ⟨cs.length,[cs]⟩:=by
 unfold bU uns
 rw[if_neg (by omega),if_neg (by omega)]
 constructor
 ·rintro⟨h1,c,t,h2,h3,h4⟩
  refine⟨h1,c,t,h2,by simpa using h3,fun k e he=> ?_⟩
  have hk:k=0:=by
   have:=(List.getElem?_eq_some_iff.1 he).1
   simpa using this
  subst hk
  cases he
  refine⟨rfl,fun j x hx=> ?_⟩
  obtain⟨-,h5⟩:=h4 j [x] (by simp[hx])
  obtain⟨h6,v,h7,h8⟩:=h5 0 x rfl
  exact⟨h6,v,by simpa using h7,h8⟩
 ·rintro⟨h1,c,t,h2,h3,h4⟩
  refine⟨h1,c,t,h2,by simpa using h3,fun k e he=> ?_⟩
  simp only[List.getElem?_map] at he
  cases hk:cs[k]? with
  | none => rw [hk] at he; cases he
  | some y =>
    rw[hk] at he;cases he
    refine⟨rfl,fun j x hx=> ?_⟩
    have hj:j=0:=by
     have:=(List.getElem?_eq_some_iff.1 hx).1
     simpa using this
    subst hj
    cases hx
    obtain⟨-,h5⟩:=h4 0 cs rfl
    obtain⟨h6,v,h7,h8⟩:=h5 k y hk
    exact⟨h6,v,by simpa using h7,h8⟩
def TS (P:Program) (o:Oper) (K:St→Prop) (σ:St):Prop:= ∀(w0:World) (M F:Nat→Prop) (a:Act) (w:World) (Q:Exit→Act→World→Prop),Sim w0 M F σ a w→o.wp P a w (Nx w0 M F K) Q
theorem Ea {ops:Array Oper} {Q:Exit→Act→World→Prop} {F0:Nat→Prop} {w0:World} {M:Nat→Prop} {K:St→Prop} {r:List Oper} (hQ: ∀σ F a w,(∀b,F0 b→F b)→Sim w0 M F σ a w→K σ→wpList P ops Q r a w) (l:List Oper):
  ∀(σ:St) (F:Nat→Prop) (a:Act) (w:World),(∀b,F0 b→F b)→Ops P (ops.toList.map (·.dst)) l K σ→Sim w0 M F σ a w→wpList P ops Q (l++r) a w:=by
 induction l with
 | nil => intro σ F a w hF h hs; exact hQ σ F a w hF hs h
 | cons o rest ih =>
   intro σ F a w hF h hs
   have next:T P o (Ops P (ops.toList.map (·.dst)) rest K) σ→o.wp P a w (wpList P ops Q (rest++r)) Q:=fun hT=>
    Oper.wp_mono (fun a' w' hn=>by
     obtain⟨σ',F',hF',hs',hK⟩:=hn
     exact ih σ' F' a' w' (fun b hb=>hF' b (hF b hb)) hK hs') (zS hT hs)
   unfold Ops at h
   rw[List.cons_append]
   unfold wpList
   split at h
   ·rename_i hg
    rw[if_pos (by simp[Region.wanted,hg])]
    exact .inl (next h)
   ·rename_i j b hg
    split at h
    ·rename_i d hd
     rcases fG h with ⟨q,hq,h1,h2⟩| ⟨hq,h1⟩
     rotate_left
     ·rw[if_neg (by simp[Region.wanted,hg,lC hd hs hq])]
      exact ih _ F _ w hF h1 (hs.put kE)
     have hy:=vI hd hs hq
     by_cases hqb:q=b
     ·rw[if_pos (by simp[Region.wanted,hg,hy,hqb])]
      have h1':=h1 hqb
      subst hqb
      rw[kD hq] at h1'
      exact .inl (next h1')
     ·rw[if_neg (by simp[Region.wanted,hg,hy,hqb])]
      have S4:q= !b:=by cases q<;>cases b<;>simp_all
      have h2':=h2 S4
      rw[←S4,kD hq] at h2'
      exact ih _ F _ w hF h2' (hs.put kE)
    ·exact h.elim
theorem X1 {id:Nat} {ops:Array Oper} {K:Ex→St→Prop} {σ:St} (o:Oper) (ho:ops.toList.getLast? =some o) (hg:o.guard=none) (h:OpsF P (ops.toList.map (·.dst)) ops.toList.dropLast (TS P o (K .normal)) σ):AW P (.region id ops false) K σ:=by
 intro w0 M F a w hs
 refine wp_region_list ?_
 have e:ops.toList=ops.toList.dropLast++ [o]:=by
  obtain⟨hne,hl⟩:=List.getLast?_eq_some_iff.1 ho
  rw[hl];simp
 have hgo:=Ea (P:=P) (ops:=ops) (Q:=A0 w0 M F K) (F0:=F) (w0:=w0) (M:=M) (r:= [o]) (K:=TS P o (K .normal)) (fun σ' F' a' w' hF' hs' hK=>by
  unfold wpList
  rw[if_pos (by simp[Region.wanted,hg])]
  refine .inl (Oper.wp_mono (fun a2 w2 hn=> ?_) (hK w0 M F' a' w' _ hs'))
  obtain⟨σ2,F2,h1,h2,h3⟩:=hn
  exact⟨.normal,σ2,F2,rfl,fun b hb=>h1 b (hF' b hb),h2,h3⟩) ops.toList.dropLast σ F a w (fun _ h=>h) (A3 h) hs
 rw[←e] at hgo
 exact hgo
theorem zG : ∀(cs l:List V) (o:Nat),o+cs.length≤l.length→splice l o cs=l.take o++(cs++l.drop (o+cs.length))
 | [], l, o, h => by simp [splice]
 | c :: cs, l, o, h => by
   rw[splice,zG cs (l.set o c) (o+1) (by simp at h ⊢;omega)]
   simp only[List.length_cons] at h
   rw[List.take_succ_eq_append_getElem (by simp;omega),List.getElem_set_self,List.take_set_of_le (Nat.le_refl _),List.drop_set_of_lt (by omega)]
   simp[Nat.add_assoc,Nat.add_comm 1]
theorem X9 {α β:Type} [DecidableEq α] (f:α→β) (a:α) (b c:β):upd (upd f a b) a c=upd f a c:=by
 funext x
 simp only[aA]
 split<;>rfl
theorem Mem.Hl {w0:World} {M F:Nat→Prop} {bl:Int→Option Blk} {w:World} (hm:Mem w0 M F bl w) {g:Int} {cs ys:List V} (h0:0≤g) (hb:bl g=some ⟨1,uns cs⟩) (hle:ys.length≤cs.length) (fP: ∀x,x∈ys→x.one=true)
  {vs:List Value} (hvl:vs.length=ys.length) (hvr: ∀(i:Nat) (x:V),ys[i]? =some x→ ∃v,vs[i]? =some v∧Rep F w x v) (hvo: ∀v,v∈vs→v.oneCell'=true):
  ∃w',(storeCells ⟨g.toNat,0,none⟩ vs).run P w= .ok () w'∧Mem w0 M F (upd bl g (some ⟨1,uns (ys++cs.drop ys.length)⟩)) w'∧(∀k,F k→w'.heap[k]? =w.heap[k]?)∧dE w w':=by
 have m1:=hm.see hb ((F6 h0).1 (hm.blk g _ hb))
 obtain⟨w',h1,h2,h3,h4⟩:=m1.store (P:=P) (g:=g) (b:=⟨cs.length,[cs]⟩) (k:=0) (j:=0) (e:=cs) (cs:=ys) (bP _ _ _) rfl (by simpa using hle) fP hvl hvr hvo
 have hsp:splice cs 0 ys=ys++cs.drop ys.length:=by rw[zG ys cs 0 (by omega)];simp
 have hl:(ys++cs.drop ys.length).length=cs.length:=by simp;omega
 rw[X9] at h2
 simp only[List.set_cons_zero,hsp] at h2
 have m2:=h2.see (bP _ _ _) ((F6 (cs:=ys++cs.drop ys.length) h0).2 (by rw[hl];exact h2.blk g _ (bP _ _ _)))
 rw[X9] at m2
 exact⟨w',by simpa using h1,m2,h3,h4⟩
theorem Kx {d:Option Nat} {ty:TypeId} {pos:String} {af:Array Edge} {gd:Option (Nat×Bool)} {K:St→Prop} {σ:St} {x y:Operand} {t tx e:TypeId} {g:Int} {n:Nat} {cs ys:List V} (hx:σ.ev x= .lsl g 1 0 n) (hy:σ.ev y= .sl (uns ys))
  (h0:0≤g) (hb:σ.bl g=some ⟨1,uns cs⟩) (hcn:cs.length=n) (hle:ys.length≤n) (hys:((uns ys).all fun c=>c.length==1 && c.all V.one)=true) (he:slE P t=some e) (hz:csz P e=some 1)
  (hK:K (({ σ with bl:=upd σ.bl g (some ⟨1,uns (ys++cs.drop ys.length)⟩) } :St).put d (.int .i64 ys.length))):
  TS P ⟨d,.call { callee:= .builtin .copy,args:= #[x,y],argTypes:= #[t,tx] },ty,pos,af,gd⟩ K σ:=by
 intro w0 M F a w Q hs
 have hxr:=hs.ev x
 rw[hx] at hxr
 have hyr:=hs.ev y
 rw[hy] at hyr
 rcases zQ hxr with ⟨cM, -⟩| ⟨hg,cap,hlc,gV,hav, -⟩
 ·omega
 have hL:=kP hs.mem hyr (sz:=1) (Nat.le_refl _) (ys:=uns ys) (by simp only[elsV];rw[if_pos hys])
 obtain⟨xa,xc,news,hxv,hnl,hnc,hno,hnr⟩:=hL
 have hul:(uns ys).length=ys.length:=by simp[uns]
 rw[hul] at hxv hnl
 have hf:(Builtin.firstCells 1 ys.length (.slice xa ys.length xc)).run P w= .ok news.toArray w:=by
  rcases hnc with h | ⟨bb,off,rfl,jF⟩
  ·have hy0:ys= []:=by cases ys with
    | nil => rfl
    | cons => simp [uns] at h
   subst hy0
   have hn0:news= []:=List.eq_nil_of_length_eq_zero (by simpa using hnl)
   subst hn0
   cases xa<;>simp[Builtin.firstCells,loadCells,loadCellsFrom]
  ·exact run_firstCells_some w 1 ys.length ⟨bb,off,none⟩ ys.length xc news hnl (fun j u hu=>by rw[cY];exact jF j u hu)
 have fP: ∀z,z∈ys→z.one=true:=fun z hz=>by
  have:=List.all_eq_true.1 hys [z] (by simp[uns,hz])
  simpa using this
 obtain⟨w',h1,h2,h3,h4⟩:=hs.mem.Hl (P:=P) (vs:=news) h0 hb (by omega) fP (by simpa using hnl) (fun i z hz=>by
  obtain⟨-,h6⟩:=hnr i [z] (by simp[uns,hz])
  obtain⟨-,u,h7,h8⟩:=h6 0 z rfl
  exact⟨u,by simpa using h7,h8⟩) hno
 have hs':Sim w0 M F ({ σ with bl:=upd σ.bl g (some ⟨1,uns (ys++cs.drop ys.length)⟩) } :St) a w':=⟨h2,hs.size,fun t ht=>(hs.sl t ht).mono (fun _ h=>h) h3 h4,hs.defers⟩
 refine aT (v:=goInt ys.length) (w':=w') ?_ ⟨_,F,fun _ h=>h,hs'.put (.int _ _),hK⟩
 have aIU:Nat.min ys.length n=ys.length:=Nat.min_eq_left hle
 simp only[execOp,resolve,Sem.run_bind,Sem.run_pure,Result.andThen_ok,invoke,builtin,List.map_toArray,List.map_cons,List.map_nil,Builtin.copy_,List.getElem?_toArray,List.getElem?_cons_zero,List.getElem?_cons_succ,run_underlying (bH he),hav,hxv,Builtin.lenOf,aIU,run_sizeOf hz,hf]
 rw[Nat.zero_mul,h1];rfl
theorem Bn {e:TypeId} {u:V} (h:zeroC P e=some [u]): ∃i z v,P.info? e=some i∧i.zero=some z∧z.cells= #[v]∧ofCell v=u∧u.one=true:=by
 obtain⟨i,z,h1,h2,h3,h4,h5⟩:=hH h
 have hl:z.cells.toList.length=1:=by
  have:=congrArg List.length h3
  simpa using this.symm
 obtain⟨v,hv⟩:=List.length_eq_one_iff.1 hl
 rw[hv] at h3
 refine⟨i,z,v,h1,h2,?_,?_,by simpa using h4⟩
 ·rw[←Array.toArray_toList (xs:=z.cells),hv]
 ·simpa using h3.symm
theorem Ee {d:Option Nat} {ty:TypeId} {pos:String} {af:Array Edge} {gd:Option (Nat×Bool)} {K:St→Prop} {σ:St} {x:Operand} {t e:TypeId} {g:Int} {n:Nat} {cs:List V} {u:V} (hx:σ.ev x= .lsl g 1 0 n)
  (h0:0≤g) (hb:σ.bl g=some ⟨1,uns cs⟩) (hcn:cs.length=n) (he:slE P t=some e) (hz:zeroC P e=some [u])
  (hK:K (({ σ with bl:=upd σ.bl g (some ⟨1,uns (List.replicate n u)⟩) } :St).put d (.tup []))):
  TS P ⟨d,.call { callee:= .builtin .clear,args:= #[x],argTypes:= #[t] },ty,pos,af,gd⟩ K σ:=by
 intro w0 M F a w Q hs
 obtain⟨i,z,v,hi,hzz,hzc,hvu,hu1⟩:=Bn hz
 have hxr:=hs.ev x
 rw[hx] at hxr
 rcases zQ hxr with ⟨cM, -⟩| ⟨hg,cap,hlc,gV,hav, -⟩
 ·omega
 have hru:Rep F w u v:=by rw[←hvu];exact lJ F w v
 obtain⟨w',h1,h2,h3,h4⟩:=hs.mem.Hl (P:=P) (ys:=List.replicate n u) (vs:=List.replicate n v) h0 hb (by simp;omega) (fun z hz=>by rw[(List.mem_replicate.1 hz).2];exact hu1) (by simp) (fun i y hy=>by
  have hin:i<n:=by have:=(List.getElem?_eq_some_iff.1 hy).1;simpa using this
  rw[List.getElem?_replicate,if_pos hin] at hy
  cases hy
  exact⟨v,by rw[List.getElem?_replicate,if_pos hin],hru⟩) (fun y hy=>by rw[(List.mem_replicate.1 hy).2];exact hru.one hu1)
 have hd:List.replicate n u++cs.drop (List.replicate n u).length=List.replicate n u:=by simp[hcn]
 rw[hd] at h2
 have hs':Sim w0 M F ({ σ with bl:=upd σ.bl g (some ⟨1,uns (List.replicate n u)⟩) } :St) a w':=⟨h2,hs.size,fun t ht=>(hs.sl t ht).mono (fun _ h=>h) h3 h4,hs.defers⟩
 refine aT (v:= .tuple #[]) (w':=w') ?_ ⟨_,F,fun _ h=>h,hs'.put (.tup _ _ rfl (by simp)),hK⟩
 have hzl:(Builtin.zeroCells z.cells n).toList=List.replicate n v:=by
  rw[hzc]
  apply List.ext_getElem
  ·simp[Builtin.zeroCells]
  ·intro j h1 h2
   simp[Builtin.zeroCells,Nat.mod_one]
 have hzv:(zeroValue e).run P w= .ok z w:=by simp[zeroValue,typeInfo,hi,hzz]
 cases n with
 | zero =>
   have hw:w'=w:=by simpa [storeCells] using h1.symm
   subst hw
   simp only[execOp,resolve,Sem.run_bind,Sem.run_pure,Result.andThen_ok,invoke,builtin,List.map_toArray,List.map_cons,List.map_nil,Builtin.clear_,List.getElem?_toArray,List.getElem?_cons_zero,run_underlying (bH he),hav]
 | succ n =>
   simp only[execOp,resolve,Sem.run_bind,Sem.run_pure,Result.andThen_ok,invoke,builtin,List.map_toArray,List.map_cons,List.map_nil,Builtin.clear_,List.getElem?_toArray,List.getElem?_cons_zero,run_underlying (bH he),hav,hzv,hzl]
   rw[Nat.zero_mul,h1];rfl
end

structure Stg (n m : Nat) (E : Nat → Nat → Rat) (C : Nat → Rat) (rows : List Nat) (q : Nat) (fr : Nat → Bool) (t : Lp.Tab) : Prop where
 mid:Lp.Mid n m 1000 E rows (fO (n+m) fr) t
 sel:Lp.Sel n m (n+m) E C q (fO (n+m) fr)
theorem Hd {m N:Nat} {O:Nat→Int} {t:Lp.Tab} {fr:Nat→Bool} (hf:Lp.fstP (Lp.okW m (wO O) (fO N fr) t) N=none):fO N (frK m O t fr N)=Lp.Fn m (wO O) (fO N fr) t:=by
 funext c
 refine propext ?_
 unfold fO Lp.Fn frK
 constructor
 ·rintro⟨h1,h2⟩
  rw[if_pos h1,Bool.and_eq_true] at h2
  obtain⟨h3,h4⟩:=h2
  have h5: ¬ Lp.rc m (wO O) t c<0:=by simpa using h4
  have h6:=Lp.dW.1 hf c h1
  unfold Lp.okW fO at h6
  refine⟨⟨h1,h3⟩,?_⟩
  have h7: ¬ 0<Lp.rc m (wO O) t c:=fun g=>h6 ⟨⟨h1,h3⟩,g⟩
  grind
 ·rintro⟨⟨h1,h2⟩,h3⟩
  refine⟨h1,?_⟩
  rw[if_pos h1,h2,h3]
  have: ¬ ((0:Rat)<0):=by decide
  simp[this]
theorem J8 {bl:Int→Option Blk} {K:V→(Int→Option Blk)→Prop} (n m:Nat) (E:Nat→Nat→Rat) (rows:List Nat) (g:TG) (t:Lp.Tab) (fr:Nat→Bool) (C:Nat→Rat) (q:Nat) (O:Nat→Int) (gO:Int)
  (hm:m≤17) (hn:n+m≤100) (hr:Rows m rows) (hS:Stg n m E C rows q fr t) (hw:wO O=Lp.wl C q) (hO: ∀c,(O c).natAbs≤1000) (hO0: ∀c,n≤c→O c=0)
  (hTT:TT bl g (aY n m E rows t fr)) (hgO:bl gO=some ⟨1,iv (lz (n+m) O)⟩) (hg0:0≤gO) (hgn:gO∉g.all)
  (hT: ∀b' t' fr',Stg n m E C rows (q+1) fr' t'→TT b' g (aY n m E rows t' fr')→(∀x y,bl x=some y→x∉g.all→b' x=some y)→K (.bool true) b')
  (hF: ∀b',q=0→Lp.Unb n m E (n+m) C→(∃x,Lp.gP n m E (n+m) x)→(∀x y,bl x=some y→x∉g.all→b' x=some y)→K (.bool false) b'):
  bN Tryz.prog 205 [.loc g.T 6 0 0,.lsl gO 1 0 (n+m)] bl K:=by
 obtain⟨e,h1,h2,h3⟩:=hS.mid.ends (wO O)
 have he:=h3 e (Nat.le_refl _)
 refine sU n m E rows g t fr O gO e hm hn hr hO (.inr hO0) h1 h2 (fun e' he'=>(h3 e' he').inv) hTT hgO hg0 hgn (fun b' hf hT2 hx=> ?_) fun b' k hf hl hT2 hx=> ?_
 ·have hR:=Lp.Ac (N':=n+m) he.inv he.low he.bas (Nat.le_add_right n m) hf
  refine hT b' _ _ ⟨?_,?_⟩ hT2 hx
  ·rw[Hd hf];exact he.next
  ·rw[Hd hf]
   refine hS.sel.next (t:=Lp.orb (Lp.nx (n+m) (n+m) rows (Lp.okW m (wO O) (fO (n+m) fr))) t e) ?_
   rw[←hw];exact hR
 ·obtain⟨k1,k2,k3⟩:=Lp.dM.1 hf
  have hkn:k<n:=he.lt k k2.1
  obtain⟨t',ht'⟩: ∃t',Lp.orb (Lp.nx (n+m) (n+m) rows (Lp.okW m (wO O) (fO (n+m) fr))) t e=t':=⟨_,rfl⟩
  rw[ht'] at he k2 hl
  have pH:=k2.2
  rw[hw] at pH
  cases q with
  | zero => exact hF b' rfl (Lp.sV he.inv he.low hkn hl pH) ⟨_, he.Fc.1⟩ hx
  | succ q => exact absurd hl (Lp.tA he.inv C hkn pH)
def fxs (n:Nat) (x:Nat→Rat):List (List V):=(List.range n).map fun c=> [fv (some (x c))]
@[simp] theorem Td (n : Nat) (x : Nat → Rat) : (fxs n x).length = n := by simp [fxs]
@[simp] theorem D7 (n : Nat) (x : Nat → Rat) (i : Nat) (h : i < (fxs n x).length) : (fxs n x)[i] = [fv (some (x i))] := by simp [fxs]
theorem sN {n:Nat} {x y:Nat→Rat} (h: ∀c,c<n→x c=y c):fxs n x=fxs n y:=List.map_congr_left fun c hc=>by rw[h c (by simpa using hc)]
theorem Lo {n i:Nat} (x:Nat→Rat) (v:Rat) (hi:i<n):(fxs n x).set i [fv (some v)]=fxs n fun c=>if c=i then v else x c:=by
 apply List.ext_getElem
 ·simp
 ·intro j h1 h2
  rw[List.getElem_set,D7,D7]
  by_cases e:i=j
  ·rw[if_pos e,if_pos e.symm]
  ·rw[if_neg e,if_neg (Ne.symm e)]
def Q3 (n:Nat) (C:Nat→Rat):Option (Option (Nat→Rat))→V
 | none => .tup [.int .i64 2, .sl [], .nilp]
 | some none => .tup [.int .i64 3, .sl [], .nilp]
 | some (some x) => .tup [.int .i64 0, .sl (fxs n x), fv (some (Lp.dot n C x))]

structure aAB where
 q:Nat
 t:Lp.Tab
 fr:Nat→Bool
 ob:List Int
 b:Int→Option Blk
def rD (q:Nat):Nat→Int:=fun c=>if c=q then -1 else 0
theorem Lj (C:Nat→Rat) (q:Nat):wO (rD q)=Lp.wl C (q+1):=by
 funext c
 unfold wO rD Lp.wl
 simp only
 split<;>rfl
def fxp (n k:Nat):List (List V):=(List.range n).map fun c=>if c<k then [fv (some 0)] else [.nilp]
@[simp] theorem Tn (n k : Nat) : (fxp n k).length = n := by simp [fxp]
theorem Eb (n:Nat):List.replicate n [V.nilp]=fxp n 0:=by
 unfold fxp
 apply List.ext_getElem
 ·simp
 ·intro i h1 h2;simp
@[simp] theorem aB1 (n k i : Nat) (h : i < (fxp n k).length) : (fxp n k)[i] = if i < k then [fv (some 0)] else [.nilp] := by simp [fxp]
theorem Lt {n k:Nat} (h:k<n):(fxp n k).set k [fv (some 0)]=fxp n (k+1):=by
 apply List.ext_getElem
 ·simp
 ·intro j h1 h2
  rw[List.getElem_set]
  simp only[fxp,List.getElem_map,List.getElem_range]
  by_cases e:k=j
  ·rw[if_pos e,if_pos (by omega)]
  ·rw[if_neg e]
   by_cases e2:j<k
   ·rw[if_pos e2,if_pos (by omega)]
   ·rw[if_neg e2,if_neg (by omega)]
theorem Mm (n:Nat):fxp n n=fxs n fun _=>0:=List.map_congr_left fun c hc=>by rw[if_pos (by simpa using hc)]
theorem Pf (n:Nat) (x:Nat→Rat):(fxs n x).all (fun e=>e.all V.cl)=true:=by simp[fxs,V.cl,fv]
noncomputable def xUp (N : Nat) (rows : List Nat) (t : Lp.Tab) (i : Nat) : Nat → Rat := fun c => Lp.S i fun p => if t.bs (atR rows p) = c then t.X (atR rows p) N else 0
theorem Cn {m N:Nat} {E:Nat→Nat→Rat} {rows:List Nat} {t:Lp.Tab} (h:Lp.TI m E t) (hr:Rows m rows) {i:Nat} (hi:i<rows.length) (c:Nat):(if c=t.bs (atR rows i) then t.X (atR rows i) N else xUp N rows t i c)=xUp N rows t (i+1) c:=by
 show _=xUp N rows t i c+(if t.bs (atR rows i)=c then t.X (atR rows i) N else 0)
 by_cases e:c=t.bs (atR rows i)
 ·rw[if_pos e,if_pos e.symm]
  have:xUp N rows t i c=0:=Lp.eN fun p hp=>by
   refine if_neg fun e2=> ?_
   have h1:=h.inj (hr.lt (cW (show p<rows.length by omega))) (hr.lt (cW hi)) (e2.trans e)
   have:=hr.inj (show p<rows.length by omega) hi h1
   omega
  rw[this];grind
 ·rw[if_neg e,if_neg (Ne.symm e)];grind
theorem Jn {n m N:Nat} {rows:List Nat} {t:Lp.Tab} (hr:Rows m rows) (hd: ∀i,i<m→i∉rows→n≤t.bs i) {c:Nat} (hc:c<n):xUp N rows t rows.length c=Lp.xb m N t c:=by
 unfold xUp Lp.xb
 exact hr.sum (fun i=>if t.bs i=c then t.X i N else 0) fun i hi hn=>if_neg (by have:=hd i hi hn;omega)
theorem S8 {q:Rat} (h:Lp.sm (10^72) q):few 100000 q:=by
 obtain⟨h1,h2⟩:=Lp.wS h
 have h3:(10:Nat)^72<LB^24:=by decide+kernel
 exact iI (k:=24) ⟨aH.2 (Nat.lt_of_le_of_lt h1 h3),aH.2 (Nat.lt_of_le_of_lt h2 h3)⟩ (by decide)
theorem Cp (p:Pg) (n m:Nat) (h:PgN p n m):RO Tryz.prog 145 [.ptr p.v] (Q3 n (wO (pC p)) (Lp.opt n m (eQ p n m) (n+m) (wO (pC p)))):=by
 have hml:=h.ml
 have hnl:=h.nl
 refine aK Tryz.func145 rfl rfl (by rw[Tryz.ntmps145];simp) fun bl=> ?_
 rw[Tryz.ntmps145,Tryz.results145]
 refine aE ?_
 simp
 refine aE ?_
 simp
 refine E6 p n m h (fun b' t h4 hp hb=> ?_) (fun b' g t h4 hp hTT hfr hb=> ?_)
 ·rw[Lp.G1 (h4.no hp)]
  simp[Q3]
  refine aC ?_
  simp
  exact aQ [.int .i64 2,.nils,.nilp] 1 (by simp) (by simp[frz,V.cl]) hb
 have hK:=(Lp.kS (h4.uP hp) (show n≤n+m+1 by omega) m (Nat.le_refl _))
 obtain⟨t0,ht0⟩: ∃t0,Lp.kicks n t m=t0:=⟨_,rfl⟩
 rw[ht0] at hTT hK
 have Sl:=hK.inv
 have tC:=Ax n m t0
 have G2: ∀i,i∈Lp.bE n t0 m→t0.bs i<n:=fun i hi=>(Lp.rG.1 hi).2
 obtain⟨rows,aCM⟩: ∃rows,Lp.bE n t0 m=rows:=⟨_,rfl⟩
 rw[aCM] at hTT Sl tC G2
 have hS0:Stg n m (eQ p n m) (wO (pC p)) rows 0 (okA n) t0:=⟨⟨Sl,G2,fun i hi=>⟨by have:=G2 i hi;omega,by unfold okA;simpa using G2 i hi⟩,fun c hc=>by simpa [okA] using hc.2⟩,Lp.Sel.start fun c hc=>⟨by omega,by simpa [okA] using hc⟩⟩
 clear hK Sl G2
 obtain⟨gT,gR,gB,gF,ids⟩:=g
 have bT:b' gT=_:=hTT.hd
 have bB:b' gB=_:=hTT.ba
 have bG:b' gR=_:=hTT.dH.top
 have bF:b' gF=_:=hTT.fre
 simp only[aY] at bT bB bG bF
 obtain⟨N,hN⟩: ∃N,n+m=N:=⟨_,rfl⟩
 rw[hN] at bT
 have aJV:=hTT.pT
 simp
 refine aE ?_
 simp
 refine aE ?_
 simp[bT]
 refine⟨by omega,by unfold maxLen;omega,fun gO hgO hbO=> ?_⟩
 refine cE ?_
 refine X1 _ rfl rfl ?_
 simp[Pg.v]
 have hcl:p.c.length=n:=h.cl
 have hiv: ∀l:List Int,iv l=uns (l.map (V.int .i64)):=fun l=>by simp[iv,uns]
 refine Kx (g:=gO) (n:=N) (e:=3) (cs:=List.replicate N (.int .i64 0)) (ys:=p.c.map (V.int .i64)) (by simp) (by simp[hiv]) hgO (by simp[uns]) (by simp) (by simp[hcl];omega) (by simp[uns]) (by simp) (by simp) ?_
 have ecp:uns (p.c.map (V.int .i64)++(List.replicate N (V.int .i64 0)).drop (p.c.map (V.int .i64)).length)=iv (lz N (pC p)):=by
  rw[hiv]
  congr 1
  apply List.ext_getElem
  ·simp[hcl];omega
  ·intro j h1 h2
   rw[List.getElem_map,uA]
   unfold pC
   by_cases e:j<n
   ·rw[List.getElem_append_left (by simp[hcl];exact e)]
    simp[List.getD_eq_getElem?_getD,hcl,e]
   ·rw[List.getElem_append_right (by simp[hcl];omega)]
    simp[List.getD_eq_getElem?_getD,hcl,e]
 rw[ecp]
 obtain⟨bC,hbC⟩: ∃bC,bC=upd b' gO (some ⟨1,iv (lz N (pC p))⟩):=⟨_,rfl⟩
 simp
 refine gG [(0,.ptr p.v),(5,.loc gT 6 0 0),(7,.lsl gO 1 0 N)] 124 bC ⟨rfl,by simp[Pg.v],by rw[hbC];exact sub_eq (by simp)⟩ ?_
 have n6: ∀x,x∈TG.all ⟨gT,gR,gB,gF,ids⟩→ ∃y,b' x=some y:=fun x hx=>by
  simp only[TG.all,List.mem_cons] at hx
  rcases hx with rfl | rfl | rfl | rfl | hx
  ·exact⟨_,bT⟩
  ·exact⟨_,bG⟩
  ·exact⟨_,bB⟩
  ·exact⟨_,bF⟩
  ·obtain⟨q,hq⟩:=List.mem_iff_getElem?.1 hx
   exact⟨_,hTT.dH.row q x hq⟩
 have hgn:gO∉TG.all ⟨gT,gR,gB,gF,ids⟩:=fun hm2=>by
  obtain⟨y,hy⟩:=n6 gO hm2
  rw[hbO] at hy;cases hy
 have bCO:bC gO=some ⟨1,iv (lz N (pC p))⟩:=by rw[hbC];simp
 have hTC:TT bC ⟨gT,gR,gB,gF,ids⟩ (aY n m (eQ p n m) rows t0 (okA n)):=hTT.fU fun x y hx hy=>by rw[hbC,aL _ _ _ _ (fun e=>hgn (by rw[←e];exact hx))];exact hy
 have sC:Sub bl bC:=fun x y hx=>by
  have:=hb x y hx
  rw[hbC,aL _ _ _ _ (fun e=>by rw[e,hbO] at this;cases this)];exact this
 have blO:bl gO=none:=by
  cases hv:bl gO with
  | none => rfl
  | some y => have := hb gO y hv; rw [hbO] at this; cases this
 clear hbC bT bB bG bF hTT n6 hbO hb
 refine cE ?_
 refine aC ?_
 simp
 have hst:=fun K'=>J8 (bl:=bC) (K:=K') n m (eQ p n m) rows ⟨gT,gR,gB,gF,ids⟩ t0 (okA n) (wO (pC p)) 0 (pC p) gO hml hnl tC hS0 rfl (fun c=>kQ h.cm c) (fun c hc=>by unfold pC;rw[List.getD_eq_getElem?_getD,List.getElem?_eq_none (by omega)];rfl) hTC (by rw[hN];exact bCO) hgO hgn
 rw[hN] at hst
 refine hst _ (fun b1 t1 fr1 hS1 hT1 hx1=> ?_) (fun b1 _ hU hF hx1=> ?_)
 rotate_left
 ·obtain⟨x,hx⟩:=hF
  have eo:=Lp.J7 hU hx
  rw[←hN] at eo
  rw[eo]
  simp[Q3]
  exact aQ [.int .i64 3,.nils,.nilp] 1 (by simp) (by simp[frz,V.cl]) fun x y hx=>hx1 x y (sC x y hx) fun hm2=>by have:=hfr x hm2;rw[this] at hx;cases hx
 simp
 have aAM: ∀x y,bl x=some y→b1 x=some y:=fun x y hx=>hx1 x y (sC x y hx) fun hm2=>by have:=hfr x hm2;rw[this] at hx;cases hx
 have b1O:b1 gO=some ⟨1,iv (lz N (pC p))⟩:=hx1 gO _ bCO hgn
 clear hst hx1 hTC bCO sC aJV hS0 h4 hp
 refine cE ?_
 refine aC ?_
 simp[Pg.v,h.aZ]
 refine aP (fun s:aAB=> [(0,.ptr p.v),(5,.loc gT 6 0 0),(7,.lsl gO 1 0 N),(41,.int .i64 n),(42,.int .i64 s.q)]) (fun s=>s.b) (fun s=>s.q≤n∧Stg n m (eQ p n m) (wO (pC p)) rows (s.q+1) s.fr s.t∧TT s.b ⟨gT,gR,gB,gF,ids⟩ (aY n m (eQ p n m) rows s.t s.fr)∧(s.b gO=some ⟨1,iv s.ob⟩∧s.ob.length=N)∧ ∀x y,bl x=some y→s.b x=some y) (fun s=>n - s.q) _ ⟨0,t1,fr1,lz N (pC p),b1⟩ ⟨Nat.zero_le _,hS1,hT1,⟨b1O,by simp⟩,aAM⟩ ⟨rfl,by simp[Pg.v,h.aZ],Sub.refl _⟩ ?_
 clear hS1 hT1 b1O aAM
 rintro⟨q,t,fr,ob,b⟩ ⟨hq,hS,hT,⟨hbO,hol⟩,hbl⟩
 simp only at hq hS hT hbO hol hbl
 have wq:IntKind.i64.wrap ((q:Int)+1)=(q:Int)+1:=i64_in (by omega) (by omega)
 refine aE ?_
 simp
 refine aE ?_
 simp
 refine⟨fun hqn=> ?_,fun hqn=> ?_⟩
 ·refine cE (cC ?_)
  refine aE ?_
  simp
  refine cE ?_
  refine X1 _ rfl rfl ?_
  simp
  refine Ee (g:=gO) (n:=N) (e:=3) (u:= .int .i64 0) (cs:=ob.map (V.int .i64)) (by simp) hgO (by simp[hbO,hiv]) (by simp[hol]) (by simp) (by simp) ?_
  have e0:uns (List.replicate N (V.int .i64 0))=iv (lz N fun _=>0):=by rw[←H8];simp[uns]
  rw[e0]
  simp
  refine aC ?_
  have hqN:q<N:=by omega
  simp[hqN,Dc]
  have hle:(lz N fun c=>if c=q then(-1:Int) else 0)=lz N (rD q):=rfl
  rw[hle]
  obtain⟨b2,hb2⟩: ∃b2,b2=upd b gO (some ⟨1,iv (lz N (rD q))⟩):=⟨_,rfl⟩
  rw[←hb2]
  have b2O:b2 gO=some ⟨1,iv (lz N (rD q))⟩:=by rw[hb2];simp
  have hT2:TT b2 ⟨gT,gR,gB,gF,ids⟩ (aY n m (eQ p n m) rows t fr):=hT.fU fun x y hx hy=>by rw[hb2,aL _ _ _ _ (fun e=>hgn (by rw[←e];exact hx))];exact hy
  have b2l: ∀x y,bl x=some y→b2 x=some y:=fun x y hx=>by
   rw[hb2,aL _ _ _ _ (fun e=>by rw[e,blO] at hx;cases hx)];exact hbl x y hx
  clear hb2
  have hst:=fun K'=>J8 (bl:=b2) (K:=K') n m (eQ p n m) rows ⟨gT,gR,gB,gF,ids⟩ t fr (wO (pC p)) (q+1) (rD q) gO hml hnl tC hS (Lj _ q) (fun c=>by unfold rD;split<;>decide) (fun c hc=>by unfold rD;rw[if_neg (by omega)]) hT2 (by rw[hN];exact b2O) hgO hgn
  rw[hN] at hst
  refine hst _ (fun b3 t3 fr3 hS3 hT3 hx3=> ?_) (fun b3 e=>by omega)
  simp
  refine aC ?_
  simp[wq,aB]
  refine⟨⟨q+1,t3,fr3,lz N (rD q),b3⟩,⟨by simp only;omega,hS3,hT3,⟨hx3 gO _ b2O hgn,by simp⟩,fun x y hx=>hx3 x y (b2l x y hx) fun hm2=>by have:=hfr x hm2;rw[this] at hx;cases hx⟩,by simp only;omega,rfl,by simp[h.aZ],Sub.refl _⟩
 ·have hqe:q=n:=by omega
  subst hqe
  have hB:Lp.rH q m (eQ p q m) N (wO (pC p)) (Lp.xb m N t):=by rw[←hN];exact hS.sel.done hS.mid.Fc.1 hS.mid.Fc.2
  have eo:=Lp.wM hB
  rw[←hN] at eo
  rw[eo]
  have hD:Lp.Den (Lp.lid 1000 m) q (Lp.xb m N t):=Lp.Du hS.mid.inv.z (by omega)
  simp only[Q3]
  have e1:fxs q (fun c=>if c<q then Lp.xb m (q+m) t c else 0)=fxs q (Lp.xb m N t):=sN fun c hc=>by rw[if_pos hc,hN]
  have e2:Lp.dot q (wO (pC p)) (fun c=>if c<q then Lp.xb m (q+m) t c else 0)=Lp.dot q (wO (pC p)) (Lp.xb m N t):=Lp.yH fun c hc=>by rw[if_pos hc,hN]
  rw[e1,e2]
  clear hB eo e1 e2
  obtain⟨xs,hxs⟩: ∃xs,Lp.xb m N t=xs:=⟨_,rfl⟩
  have bT:b gT=_:=hT.hd
  have bB:b gB=_:=hT.ba
  have bG:b gR=_:=hT.dH.top
  have hil:=hT.dH.len
  simp only[aY] at bT bB bG hil
  rw[hN] at bT
  have hrl:=tC.len
  refine aC ?_
  simp[Pg.v,h.aZ]
  refine⟨by omega,by unfold maxLen;omega,fun gx hgx hbx=> ?_⟩
  have xT: ¬ gx=gT:=fun e=>by rw[e,bT] at hbx;cases hbx
  have xR: ¬ gx=gR:=fun e=>by rw[e,bG] at hbx;cases hbx
  have xB: ¬ gx=gB:=fun e=>by rw[e,bB] at hbx;cases hbx
  have xi:gx∉ids:=fun hm2=>by
   obtain⟨j,hj⟩:=List.mem_iff_getElem?.1 hm2
   rw[hT.dH.row j gx hj] at hbx;cases hbx
  have Hh: ∀X,Sub bl (upd b gx X):=fun X x y hx=>by
   have:=hbl x y hx
   rw[aL _ _ _ _ (fun e=>by rw[e,hbx] at this;cases this)];exact this
  refine aP (fun k:Nat=> [(0,.ptr p.v),(5,.loc gT 6 0 0),(9,.lsl gx 1 0 q),(59,.int .i64 q),(60,.int .i64 k)]) (fun k=>upd b gx (some ⟨1,fxp q k⟩)) (fun k=>k≤q) (fun k=>q - k) _ 0 (Nat.zero_le _) ⟨rfl,by simp[Pg.v,h.aZ],sub_eq (by rw[Eb])⟩ ?_
  intro k hk
  have wk:IntKind.i64.wrap ((k:Int)+1)=(k:Int)+1:=i64_in (by omega) (by omega)
  refine aC ?_
  simp
  refine⟨fun hkq=> ?_,fun hkq=> ?_⟩
  ·refine aD (eO 0 (by decide)) ?_
   simp[hkq]
   simp[wk,aB,show((0:Int):Rat)=0 from rfl,Lt hkq]
   refine⟨k+1,by omega,by omega,rfl,by simp[h.aZ],sub_eq rfl⟩
  have hkq:k=q:=by omega
  subst hkq
  rw[Mm]
  simp[xT,Ne.symm xT,bT]
  refine aP (fun i:Nat=> [(0,.ptr p.v),(5,.loc gT 6 0 0),(9,.lsl gx 1 0 k),(71,.lsl gB 1 0 rows.length),(72,.int .i64 rows.length),(73,.int .i64 i)]) (fun i=>upd b gx (some ⟨1,fxs k (xUp N rows t i)⟩)) (fun i=>i≤rows.length) (fun i=>rows.length - i) _ 0 (Nat.zero_le _) ⟨rfl,by simp[Pg.v,h.aZ],sub_eq rfl⟩ ?_
  intro i hi
  have wi:IntKind.i64.wrap ((i:Int)+1)=(i:Int)+1:=i64_in (by omega) (by omega)
  refine aE ?_
  simp
  refine aE ?_
  simp
  refine⟨fun hir=> ?_,fun hir=> ?_⟩
  ·refine cE (cC ?_)
   refine aE ?_
   simp[Ne.symm xB,bB,hir]
   obtain⟨gi,hgi,Bs,Tc,tO⟩:=hT.dH.at i (by simp only[aY];exact hir)
   simp only[aY] at tO
   have hgj: ∀h,ids[i]'h=gi:=fun h=>by rw[List.getElem?_eq_getElem h] at hgi;exact Option.some.inj hgi
   have xgi: ¬ gi=gx:=fun e=>xi (e▸Bs)
   have hbk:t.bs (atR rows i)<k:=hS.mid.low _ (cW hir)
   have aFK:(t.bs (atR rows i):Int)<k:=by omega
   have aJC:(N:Int)<(k:Int)+m+1:=by omega
   have hdz:=Lp.pK hS.mid.inv.z
   have aKM:=Lp.Ot hS.mid.inv.z
   have aI6:=Lp.Nr hS.mid.inv.z (tC.lt (cW hir)) (show N<k+m+1 by omega)
   have hzc:=Lp.eW hS.mid.inv.z (tC.lt (cW hir)) (show N<k+m+1 by omega)
   obtain⟨zx,hzx⟩: ∃zx,Lp.zt m (eQ p k m) t (atR rows i) N=zx:=⟨_,rfl⟩
   obtain⟨dx,hdx⟩: ∃dx,Lp.dz m (eQ p k m) t=dx:=⟨_,rfl⟩
   rw[hdx] at hdz aKM hzc
   simp only[hdx] at bT
   rw[hzx] at aI6 hzc
   have qV:=Lp.mW hml
   obtain⟨td,htd⟩: ∃td,(10:Nat)^66=td:=⟨_,rfl⟩
   have h24:td<LB^24:=by rw[←htd];decide+kernel
   rw[htd] at qV
   have hln:(lim zx.natAbs).length≤300000:=Nat.le_trans (aH.2 (Nat.lt_of_le_of_lt (show zx.natAbs≤td by omega) h24)) (by decide)
   have hld:(lim dx.natAbs).length≤300000:=Nat.le_trans (aH.2 (Nat.lt_of_le_of_lt (show dx.natAbs≤td by omega) h24)) (by decide)
   have A1:=nF zx dx.natAbs (by omega) hln hld
   have hmk:mkRat zx dx.natAbs=t.X (atR rows i) N:=by
    have e1:((dx.natAbs:Nat):Rat)=(dx:Rat):=by
     rw[←Rat.intCast_natCast,Int.natAbs_of_nonneg (by omega)]
    have e2:(0:Rat)<(dx:Rat):=Rat.intCast_pos.2 hdz
    rw[Rat.mkRat_eq_div,e1,hzc]
    grind
   rw[hmk] at A1
   clear htd h24 qV
   refine cD aN [0,1,2,3,4,5,6,7,8,9,10,11,12,13,14,15,16,17,18,19,20,21] 1 22 (by kernel_rfl) ?_
   simp[Ne.symm xT,Ne.symm xR,bT,bG,hir,hgj,tO,xgi,hil,show N<k+m+1 by omega,aJC,hbk,aFK,hzx]
   refine aG A1 ?_
   simp[hbk,aFK]
   refine bO (i:=22) (by kernel_rfl) rfl rfl rfl ?_
   have hfv:V.ptr (rq (t.X (atR rows i) N)).c=fv (some (t.X (atR rows i) N)):=rfl
   rw[hfv]
   simp[hbk,Lo]
   refine Dy ?_
   simp
   refine aC ?_
   simp[wi,aB]
   refine⟨i+1,by omega,by omega,rfl,by simp[h.aZ],sub_eq ?_⟩
   funext x
   simp only[aA]
   split
   ·congr 2
    exact sN fun c _=>Cn hS.mid.inv.z.ti tC hir c
   ·rfl
  have hie:i=rows.length:=by omega
  subst hie
  have exs:fxs k (xUp N rows t rows.length)=fxs k xs:=sN fun c hc=>by
   have:=Jn (N:=N) tC (fun j hj hn=>(hS.mid.inv.dead j hj hn).1) hc
   rw[this,hxs]
  rw[exs]
  refine aD (eO 0 (by decide)) ?_
  simp[show((0:Int):Rat)=0 from rfl]
  rw[hxs] at hD
  have hCi: ∀c,c<k→(pC p c).natAbs≤1000:=fun c _=>kQ h.cm c
  have Nu:=hD.sum (W:=1000) hCi (by decide)
  have h72:(k+1)*(1000*Lp.lid 1000 m)≤10^72:=Nat.le_trans (Nat.mul_le_mul (show k+1≤101 by omega) (Nat.mul_le_mul_left _ (Lp.mW hml))) (by decide+kernel)
  have h66:Lp.lid 1000 m≤10^72:=Nat.le_trans (Lp.mW hml) (by decide+kernel)
  have hfS: ∀j,j≤k→few 100000 (Lp.S j fun c=>(pC p c:Rat)*xs c):=fun j hj=>S8 (Lp.nL (Nu j hj) h72)
  have hfx: ∀c,c<k→few 100000 (xs c):=fun c hc=>S8 (Lp.nL (hD.sm hc) h66)
  have hfC: ∀c,few 100000 (pC p c:Rat):=fun c=>iI (k:=24) (fits_int (by have:=kQ h.cm c;unfold pC;omega)) (by decide)
  have hfm: ∀c,c<k→few 100000 (xs c*(pC p c:Rat)):=fun c hc=>S8 (Lp.nL (Lp.Qj (Lp.nL (hD.sm hc) (Lp.mW hml)) (Lp.Ss (hCi c hc) (by decide))) (by decide+kernel))
  clear Nu h72 h66
  refine aP (fun j:Nat=> [(0,.ptr p.v),(9,.lsl gx 1 0 k),(102,.lsl gx 1 0 k),(103,.int .i64 k),(104,.int .i64 j),(13,fv (some (Lp.S j fun c=>(pC p c:Rat)*xs c)))]) (fun _=>upd b gx (some ⟨1,fxs k xs⟩)) (fun j=>j≤k) (fun j=>k - j) _ 0 (Nat.zero_le _) ⟨rfl,by simp[Lp.S],Sub.refl _⟩ ?_
  intro j hj
  have wj:IntKind.i64.wrap ((j:Int)+1)=(j:Int)+1:=i64_in (by omega) (by omega)
  refine aE ?_
  simp
  refine aE ?_
  simp
  refine⟨fun hjk=> ?_,fun hjk=> ?_⟩
  ·refine cE (cC ?_)
   refine aC ?_
   simp[hjk,Pg.v,h.c]
   refine aD (eO (pC p j) (by have:=hCi j hjk;omega)) ?_
   simp
   refine aD (r:=fv (some (xs j*(pC p j:Rat)))) (yP _ _ (hfx j hjk) (hfC j)) ?_
   simp
   have aFU:(Lp.S j fun c=>(pC p c:Rat)*xs c)+xs j*(pC p j:Rat)=Lp.S (j+1) fun c=>(pC p c:Rat)*xs c:=by rw[Lp.S];grind
   have hpl:=K5 _ _ (hfS j (by omega)) (hfm j hjk)
   rw[aFU] at hpl
   refine aD (r:=fv (some (Lp.S (j+1) fun c=>(pC p c:Rat)*xs c))) hpl ?_
   simp
   refine aC ?_
   simp[wj,aB]
   refine⟨j+1,by omega,by omega,rfl,by simp[Pg.v,h.c],Sub.refl _⟩
  ·have hje:j=k:=by omega
   subst hje
   rw[hxs]
   have hf1:frz (dropB (upd b gx (some ⟨1,fxs j xs⟩)) bl) 1 (.lsl gx 1 0 j)=some (.sl (fxs j xs)):=dU hgx (by
    cases hv:bl gx with
    | none => rfl
    | some y => have := hbl gx y hv; rw [hbx] at this; cases this) (bP _ _ _) (by simp) (Pf _ _)
   refine aQ [.int .i64 0,.lsl gx 1 0 j,fv (some (Lp.dot j (wO (pC p)) xs))] 2 (by simp;rfl) ?_ (Hh _)
   simp only[retV]
   rw[U1]
   simp only[List.mapM_cons,List.mapM_nil,hf1,sL]
   simp[frz]

noncomputable def aMT (n : Nat) (C : Nat → Rat) : Option (Option (Nat → Rat)) → V
 | none => .agg [.int .i64 2, .sl [], .bool false, .sl [], .sl []]
 | some none => .agg [.int .i64 3, .sl [], .bool false, .sl [], .sl []]
 | some (some x) => .agg (.int .i64 0 :: .sl (rqs n x) :: (rq (Lp.dot n C x)).c)
structure aLH where
 j:Nat
 gX:Int
 b:Int→Option Blk

theorem Fq (s:Str):(aI s.js).length≤s.js.length:=by
 unfold aI cI
 rw[List.length_map]
 exact Nat.le_trans (List.length_filter_le _ _) (by simp)
theorem aDB {s:Str} (h:SOk s):nR s≤12:=by have:=Fq s;have:=h.nj;unfold nR;omega
theorem Cu {s:Str} (h:SOk s):nC s≤16:=by
 have:=kA s.ms s.ms.length;have:=h.nm
 unfold nC aZ;omega
theorem Q0 {l:List Int} {n:Nat} (h: ∀i,i<l.length→ -100≤lat l i∧lat l i≤100):(lat l n).natAbs≤100:=by
 by_cases hn:n<l.length
 ·have:=h n hn;omega
 ·have:lat l n=0:=by simp[lat,hn]
  rw[this];decide
theorem Ha {s:Str} {l:List Int} (h:LOk s l): ∀x,x∈right s l→x.natAbs≤100:=by
 intro x hx
 unfold right at hx
 obtain⟨j, -,hx⟩:=List.mem_flatMap.1 hx
 have h1:=Q0 (n:=(2*j).toNat) h.f
 have h2:=Q0 (n:=(2*j+1).toNat) h.f
 rcases List.mem_cons.1 hx with rfl | hx
 ·omega
 ·have:=List.mem_singleton.1 hx;subst this;omega
theorem Rt {s:Str} (h:SOk s) (i c:Nat) (hc:c<nC s):(ent s i c).natAbs≤100:=by
 obtain⟨-,h2⟩:=lU s c hc
 have h3:=L3 h (i*s.ms.length+(bQ s c).1.toNat)
 unfold ent
 rw[Int.natAbs_mul]
 rcases h2 with e | e<;>rw[e]<;>simp<;>omega
theorem Pu {s:Str} (h:SOk s): ∀x,x∈aTo s (nR s*nC s)→x.natAbs≤100:=by
 intro x hx
 unfold aTo at hx
 obtain⟨t,ht,rfl⟩:=List.mem_map.1 hx
 have ht':t<nR s*nC s:=by simpa using ht
 refine Rt h _ _ (Nat.mod_lt _ ?_)
 rcases Nat.eq_zero_or_pos (nC s) with e | e
 ·rw[e] at ht';omega
 ·exact e
theorem qO {s:Str} {l:List Int} (h:LOk s l):PgN (cH s l) (nC s) (nR s):=by
 have h1:=aDB h.sok
 have h2:=Cu h.sok
 refine⟨rfl,rfl,by simp[cH],eY s l,by simp[cH],fun x hx=> ?_,fun x hx=> ?_,fun x hx=> ?_,by omega,by omega⟩
 ·have:=Pu h.sok x hx;omega
 ·have:=Ha h x hx;omega
 ·have:x=0:=by
   simp only[cH] at hx
   exact(List.mem_replicate.1 hx).2
  rw[this];decide

theorem lK (s:Str) (l:List Int) (hL:LOk s l):RO Tryz.prog 72 [.ptr s.c,.sl (iv l),.int .i64 0,.int .i64 0] (.agg (cH s l).v):=by
 have:=eK 2 (tQ s l hL) (Lg _)
 rwa [Pb] at this
noncomputable def Ji (s : Str) (l : List Int) : Bool := D0 (nC s) (nR s) (eQ (cH s l) (nC s) (nR s))
noncomputable def xI (s : Str) (l : List Int) : Bool := lOk s l && Ji s l
theorem O3 (s:Str) (l:List Int) (hL:LOk s l):RO Tryz.prog 75 [.ptr s.c,.sl (iv l)] (.bool (Ji s l)):=by
 have hpg:=qO hL
 obtain⟨p,hp⟩: ∃p,cH s l=p:=⟨_,rfl⟩
 have hF:=lK s l hL
 have hq:Ji s l=D0 (nC s) (nR s) (eQ p (nC s) (nR s)):=by rw[←hp];rfl
 rw[hp] at hpg hF
 rw[hq]
 refine aK Tryz.func75 rfl rfl (by rw[Tryz.ntmps75];simp) fun bl=> ?_
 rw[Tryz.ntmps75,Tryz.results75]
 refine aE ?_
 simp
 refine aE ?_
 simp
 refine aD hF ?_
 simp[Pg.v]
 intro g hg hbg
 refine dJ 1 5 (.ptr p.v) bl (by intro z b hz;simp only[aA] at hz ⊢;grind) (by simp[frz,dropB,hbg,V.cl,Pg.v]) ?_
 refine aC ?_
 simp
 refine E6 p (nC s) (nR s) hpg (fun b' t h4 h0 hb=> ?_) (fun b' g' t h4 h0 _ _ hb=> ?_)
 ·have hno:D0 (nC s) (nR s) (eQ p (nC s) (nR s))=false:=by
   rw[Bool.eq_false_iff];exact fun e=>h0 ((lV.has h4).2 e)
  simp
  exact aQ [.bool false] 0 (by simp) (by simp[frz,hno]) hb
 ·have Bd:=(lV.has h4).1 h0
  simp
  exact aQ [.bool true] 0 (by simp) (by simp[frz,Bd]) hb
theorem rK (s:Str) (l:List Int) (hs:s.sz) (hl:l.length≤1048576):RO Tryz.prog 18 [.agg s.c,.sl (iv l)] (.bool (xI s l)):=by
 refine aK Tryz.func18 rfl rfl (by rw[Tryz.ntmps18];simp) fun bl=> ?_
 rw[Tryz.ntmps18,Tryz.results18]
 refine aE ?_
 simp[Str.c]
 intro g hg hbg
 refine dJ 1 2 (.ptr s.c) bl (by intro z b hz;simp only[aA] at hz ⊢;grind) (by simp[frz,dropB,hbg,V.cl,Str.c]) ?_
 refine cE ?_
 refine aV [(1,.sl (iv l)),(2,.ptr s.c)] _ bl 4 (.bool (xI s l)) ⟨rfl,by simp[Str.c],Sub.refl _⟩ rfl ?_ ?_
 ·simp[Str.c]
  refine aD (eS s l hs.js hs.ms hs.nm (by omega)) ?_
  simp
  refine⟨fun h=> ?_,fun h=> ?_⟩
  ·simp[xI,h]
   refine aD (O3 s l (jE h)) ?_
   simp
  ·simp[xI,h]
 simp
 refine aC ?_
 simp
 exact aR (by simp) rfl rfl

def xl (n:Nat) (x:Nat→Rat):List (Option Rat):=(List.range n).map fun c=>some (x c)
@[simp] theorem Yr (n : Nat) (x : Nat → Rat) : (xl n x).length = n := by simp [xl]
theorem Sp (n:Nat) (x:Nat→Rat):fxs n x=fvs (xl n x):=by simp[fvs,xl,fxs]
theorem Jl {n k:Nat} (x:Nat→Rat) (h:k≤n):(fxs n x).take k=fvs (xl k x):=by
 rw[←Sp]
 unfold fxs
 rw[←List.map_take,List.take_range,Nat.min_eq_left h]
theorem I1 {p:Pg} {n m:Nat} (h:PgN p n m) {x:Nat→Rat} (ho:Lp.opt n m (eQ p n m) (n+m) (wO (pC p))=some (some x)) (c:Nat):fits (x c):=by
 rcases Lp.answers (wO (pC p)) h.init with ⟨e,_⟩| ⟨e,_⟩| ⟨y,e,_,hd,h0⟩
 ·rw[ho] at e;cases e
 ·rw[ho] at e;cases e
 ·rw[ho] at e
  have e:=Option.some.inj (Option.some.inj e)
  subst e
  by_cases hc:c<n
  ·exact Bk (Lp.nL (hd.sm hc) (K3 h.ml))
  ·rw[h0 c (by omega)];exact fits_int (n:=0) (by decide)
theorem Nh {n:Nat} {x:Nat→Rat} (h: ∀c,fits (x c)):okL (xl n x):=fun y hy=>by
 obtain⟨c,_,rfl⟩:=List.mem_map.1 hy
 exact okS (h c)
def tF (s:Str) (n:Nat):Option (Option (Nat→Rat))→V
 | some (some x) => .tup [.sl (fvs (fF s.ms (xl (nC s) x) (nC s))), .sl ((fxs n x).drop (nC s)), .bool true]
 | _ => .tup [.sl [], .sl [], .bool false]
theorem Z2 (s:Str) (hm:s.ms.length≤8) (p:Pg) (n m:Nat) (h:PgN p n m) (hn:nC s≤n):RO Tryz.prog 71 [.ptr s.c,.agg p.v] (tF s n (Lp.opt n m (eQ p n m) (n+m) (wO (pC p)))):=by
 have hS:=Cp p n m h
 obtain⟨o,ho⟩: ∃o,Lp.opt n m (eQ p n m) (n+m) (wO (pC p))=o:=⟨_,rfl⟩
 have wY:=fun x (e:o=some (some x))=>I1 h (ho.trans e)
 rw[ho] at hS ⊢
 have hlen:(aZ s.ms).length=nC s:=rfl
 refine aK Tryz.func71 rfl rfl (by rw[Tryz.ntmps71];simp) fun bl=> ?_
 rw[Tryz.ntmps71,Tryz.results71]
 refine aE ?_
 simp[Pg.v]
 intro g hg hbg
 refine dJ 1 3 (.ptr p.v) bl (by intro z b hz;simp only[aA] at hz ⊢;grind) (by simp[frz,dropB,hbg,V.cl,Pg.v]) ?_
 refine aE ?_
 simp[Pg.v]
 refine aD hS ?_
 rcases o with _ | _ | x
 ·simp[Q3]
  refine aC ?_
  simp
  exact aQ [.nils,.nils,.bool false] 1 (by simp) (by simp[frz,V.cl,tF]) (Sub.refl _)
 ·simp[Q3]
  refine aC ?_
  simp
  exact aQ [.nils,.nils,.bool false] 1 (by simp) (by simp[frz,V.cl,tF]) (Sub.refl _)
 ·have hF:=Jr s (xl (nC s) x) hm (Nh (wY x rfl)) (by simp[nC])
  rw[hlen] at hF
  simp[Q3]
  refine cE ?_
  refine aC ?_
  simp
  refine aC ?_
  simp
  refine aD (oQ s hm) ?_
  simp[hlen]
  have hcl: ∀y,y∈fxs n x→1=y.length:=fun y hy=>by
   obtain⟨c,_,rfl⟩:=List.mem_map.1 hy
   rfl
  have hni:(nC s:Int)≤n:=by omega
  refine bI aN (by kernel_rfl) ?_
  simp[sliV,hni,hn,Jl x hn]
  refine⟨hcl,aG hF ?_⟩
  have htk:(fxs n x).take n=fxs n x:=List.take_of_length_le (by simp)
  simp[sliV,hni,hn,htk]
  refine⟨hcl,?_⟩
  have e:retV [.sl (fvs (fF s.ms (xl (nC s) x) (nC s))),.sl ((fxs n x).drop (nC s)),.bool true]=tF s n (some (some x)):=rfl
  exact aQ [.sl (fvs (fF s.ms (xl (nC s) x) (nC s))),.sl ((fxs n x).drop (nC s)),.bool true] 1 (by simp) (by rw[e];simp[frz,V.cl,tF]) (Sub.refl _)
noncomputable def xG (s : Str) : Option (Option (Nat → Rat)) → List (Option Rat)
 | some (some x) => fF s.ms (xl (nC s) x) (nC s)
 | _ => [none]
noncomputable def mG (s : Str) (l : List Int) : List (Option Rat) :=
 if lOk s l=true then xG s (Lp.opt (nC s) (nR s) (eQ (cH s l) (nC s) (nR s)) (nC s+nR s) (wO (pC (cH s l)))) else [none]
theorem Lm {s:Str} (hs:SOk s) {o:Option (Option (Nat→Rat))} (h: ∀x,o=some (some x)→ ∀c,fits (x c)):okL (xG s o)∧(xG s o).length≤24:=by
 have:=hs.nm
 rcases o with _ | _ | x
 ·exact⟨qZ,by simp[xG]⟩
 ·exact⟨qZ,by simp[xG]⟩
 ·exact⟨B7 s.ms (Nh (h x rfl)) _,by show(fF _ _ _).length≤24;rw[dN];omega⟩
theorem U2 {s:Str} {l:List Int} (h:lOk s l=true):sOk s=true:=by
 unfold lOk at h
 rw[Bool.and_eq_true] at h
 exact h.1
theorem Mq (s:Str) (l:List Int):okL (mG s l)∧(mG s l).length≤24:=by
 unfold mG
 by_cases h:lOk s l=true
 ·rw[if_pos h]
  exact Lm (jE h).sok fun x e=>I1 (qO (jE h)) e
 ·rw[if_neg h];exact⟨qZ,by simp⟩
theorem oD (s:Str) (l:List Int) (hs:s.sz) (hl:l.length≤1048576):NW Tryz.prog 16 [.agg s.c,.sl (iv l)] (dV (stQ (mG s l)) (bZ (mG s l))):=by
 obtain⟨hok,hlen⟩:=Mq s l
 refine jQ Tryz.func16 rfl rfl (by rw[Tryz.ntmps16];simp) fun bl=> ?_
 rw[Tryz.ntmps16,Tryz.results16]
 refine aE ?_
 simp[Str.c]
 intro g hg hbg
 refine dJ 1 2 (.ptr s.c) bl (by intro z b hz;simp only[aA] at hz ⊢;grind) (by simp[frz,dropB,hbg,V.cl,Str.c]) ?_
 refine aC ?_
 simp[Str.c]
 refine aD (eS s l hs.js hs.ms hs.nm (by omega)) ?_
 simp
 refine⟨fun h=> ?_,fun h=> ?_⟩
 ·have hz:mG s l= [none]:=by unfold mG;rw[if_neg (by simp[h])]
  rw[hz]
  exact fA [.nils,.bool false] [] (by simp) (qJ _) (by simp) (Sub.refl _)
 have hz:mG s l=xG s (Lp.opt (nC s) (nR s) (eQ (cH s l) (nC s) (nR s)) (nC s+nR s) (wO (pC (cH s l)))):=by unfold mG;rw[if_pos h]
 have hT:=Z2 s (jE h).sok.nm (cH s l) (nC s) (nR s) (qO (jE h)) (Nat.le_refl _)
 have hF:=lK s l (jE h)
 rw[hz] at hok hlen ⊢
 obtain⟨o,ho⟩: ∃o,Lp.opt (nC s) (nR s) (eQ (cH s l) (nC s) (nR s)) (nC s+nR s) (wO (pC (cH s l)))=o:=⟨_,rfl⟩
 rw[ho] at hT hok hlen ⊢
 obtain⟨p,hp⟩: ∃p,cH s l=p:=⟨_,rfl⟩
 rw[hp] at hT hF
 refine aD hF ?_
 simp
 refine aD hT ?_
 rcases o with _ | _ | x
 ·simp[tF]
  exact fA [.nils,.bool false] [] (by simp) (qJ _) (by simp) (Sub.refl _)
 ·simp[tF]
  exact fA [.nils,.bool false] [] (by simp) (qJ _) (by simp) (Sub.refl _)
 ·simp[tF]
  refine iZ (yW (xG s (some (some x))) hok (by omega)) fun v gs b' o f fr=> ?_
  obtain⟨w,rfl,ow,w1,w2⟩:=Cy o
  simp
  exact fA [w,.bool (bZ (xG s (some (some x))))] gs (by simp) o (fun x hx=>f x hx) (fun x y hy=>eL f fr hy)
theorem nZ (s:Str) (l:List Int) (hs:s.sz) (hl:l.length≤1048576):RO Tryz.prog 16 [.agg s.c,.sl (iv l)] (.tup [.sl (rv (stQ (mG s l))),.bool (bZ (mG s l))]):=by
 have:=eK 3 (oD s l hs hl) (Hb _ _ 0)
 rwa [Nj] at this

def cmN (v:Int) (L:Nat) (q:Rat):Prop:= ∃a:Int,q*v=a∧a.natAbs≤L
theorem cmN.add {v:Int} {L M:Nat} {p q:Rat} (hp:cmN v L p) (hq:cmN v M q):cmN v (L+M) (p+q):=by
 obtain⟨a,h1,h2⟩:=hp
 obtain⟨b,g1,g2⟩:=hq
 refine⟨a+b,by rw[Rat.intCast_add,←h1,←g1];grind,?_⟩
 have:=Int.natAbs_add_le a b
 omega
theorem cmN.int {v:Int} {L:Nat} {q:Rat} (hq:cmN v L q) (e:Int) {M:Nat} (he:e.natAbs≤M):cmN v (M*L) (q*(e:Rat)):=by
 obtain⟨a,h1,h2⟩:=hq
 refine⟨e*a,by rw[Rat.intCast_mul,←h1];grind,?_⟩
 rw[Int.natAbs_mul]
 exact Nat.mul_le_mul he h2
theorem cmN.mono {v:Int} {L M:Nat} {q:Rat} (hq:cmN v L q) (h:L≤M):cmN v M q:=by
 obtain⟨a,h1,h2⟩:=hq
 exact⟨a,h1,by omega⟩
theorem cmN.zero (v:Int) (L:Nat):cmN v L 0:=⟨0,by rw[Rat.zero_mul];rfl,by simp⟩
theorem cmN.sum {v:Int} {L:Nat} {f:Nat→Rat} : ∀n:Nat,(∀i,i<n→cmN v L (f i))→cmN v (n*L) (Lp.S n f)
 | 0, _ => cmN.zero v _
 | n + 1, h => by
   have h1:=cmN.sum n fun i hi=>h i (by omega)
   have h2:=h n (by omega)
   rw[Lp.S]
   have:=h1.add h2
   rwa [show n*L+L=(n+1)*L by rw[Nat.add_mul,Nat.one_mul]] at this
@[irreducible] def cV : Nat := 10 ^ 150
theorem Gx :100000000*cV<LB^24:=by unfold cV;decide+kernel
theorem mM :jM≤cV:=by unfold jM cV;decide+kernel
theorem cmN.fits {v:Int} {q:Rat} {M:Nat} (hv:v≠0) (hl:v.natAbs≤cV) (h:cmN v (M*cV) q) (hM:M≤100000000):fits q:=by
 obtain⟨a,h1,h2⟩:=h
 have hc:=Gx
 have hm:M*cV≤100000000*cV:=Nat.mul_le_mul_right _ hM
 have h3:Lp.sm (100000000*cV) q:=⟨a,v,hv,h1,by omega,by omega⟩
 obtain⟨g1,g2⟩:=Lp.wS h3
 exact⟨aH.2 (by omega),aH.2 (by omega)⟩
def dv (s:Str) (x:Nat→Rat) (t k:Nat):Rat:=Lp.S t fun c=>if(bQ s c).1=k then((bQ s c).2:Rat)*x c else 0
theorem Jx (s:Str) (x:Nat→Rat) (t k:Nat):dv s x (t+1) k=dv s x t k+if(bQ s t).1=k then((bQ s t).2:Rat)*x t else 0:=rfl
theorem Hg {v:Int} {L:Nat} {q:Rat} {e:Int} (h:cmN v L q) (he:e=1∨e= -1):cmN v L ((e:Rat)*q):=by
 have:=h.int e (M:=1) (by omega)
 rwa [Nat.one_mul,Rat.mul_comm] at this
theorem Ol {s:Str} {x:Nat→Rat} {v:Int} {L:Nat} (hx: ∀c,c<nC s→cmN v L (x c)) {t:Nat} (ht:t≤nC s) (k:Nat):cmN v (t*L) (dv s x t k):=cmN.sum t fun c hc=>by
 split
 ·exact Hg (hx c (by omega)) (lU s c (by omega)).2
 ·exact cmN.zero v L
theorem U6 {s:Str} (hs:SOk s) {x:Nat→Rat} {v:Int} (hv:v≠0) (hl:v.natAbs≤jM) (hx: ∀c,c<nC s→cmN v jM (x c)): ∀t,t≤nC s→ ∀k (hk:k<(fF s.ms (xl (nC s) x) t).length),(fF s.ms (xl (nC s) x) t)[k]=if(∃c,c<t∧(bQ s c).1=(k:Int)) then some (dv s x t k) else none
 | 0, _, k, hk => by
   rw[if_neg (fun⟨c,h,_⟩=>by omega)]
   simp[fF]
 | t + 1, ht, k, hk => by
   have ih:=U6 hs hv hl hx t (by omega)
   have hlt:=dN s.ms (xl (nC s) x) t
   have hkm:k<s.ms.length:=by rwa [dN] at hk
   obtain⟨⟨c0,c1⟩,c2⟩:=lU s t (by omega)
   have hxt:(xl (nC s) x).getD t none=some (x t):=by
    have:t<nC s:=by omega
    simp[xl,this]
   have hcA:(aZ s.ms).getD t (0,0)=bQ s t:=rfl
   have hst:fF s.ms (xl (nC s) x) (t+1)=stI (fF s.ms (xl (nC s) x) t) (bQ s t) (some (x t)):=by rw[nV,hxt,hcA]
   have hvs:vsg (bQ s t).2 (some (x t))=some (((bQ s t).2:Rat)*x t):=by
    unfold vsg
    rcases c2 with e | e<;>rw[e]
    ·rw[if_neg (by omega)];rw[show((1:Int):Rat)=1 from rfl,Rat.one_mul]
    ·rw[if_pos (by omega)]
     show some (-(x t))=_
     rw[show((-1:Int):Rat)= -1 from rfl]
     congr 1;grind
   obtain⟨p,hp⟩: ∃p:Nat,(bQ s t).1=p:=⟨(bQ s t).1.toNat,by omega⟩
   have hpm:p<s.ms.length:=by omega
   have hdv:dv s x (t+1) k=dv s x t k+if(p:Int)=k then((bQ s t).2:Rat)*x t else 0:=by rw[Jx,hp]
   obtain⟨NW,hNW⟩: ∃z,(if((fF s.ms (xl (nC s) x) t).getD p none).isSome=true then op2 (· + ·) ((fF s.ms (xl (nC s) x) t).getD p none) (some (((bQ s t).2:Rat)*x t)) else some (((bQ s t).2:Rat)*x t))=z:=⟨_,rfl⟩
   have aKB:fF s.ms (xl (nC s) x) (t+1)=(fF s.ms (xl (nC s) x) t).set p NW:=by rw[hst,stI,hp,Int.toNat_natCast,hvs,hNW]
   simp only[aKB]
   rw[List.getElem_set,hdv]
   by_cases e:p=k
   ·subst e
    rw[if_pos rfl,if_pos rfl,if_pos ⟨t,by omega,hp⟩,←hNW]
    have ihp:=ih p (by omega)
    rw[mZ _ _ _ (show p<(fF s.ms (xl (nC s) x) t).length by omega),ihp]
    by_cases hc: ∃c,c<t∧(bQ s c).1=(p:Int)
    ·rw[if_pos hc,if_pos (show(some (dv s x t p)).isSome=true from rfl)]
     have hf:fits (dv s x t p+((bQ s t).2:Rat)*x t):=by
      have h1:=Ol hx (t:=t) (by omega) p
      have h2:=Hg (hx t (by omega)) c2
      have hnc:=Cu hs
      refine cmN.fits (M:=17) hv (Nat.le_trans hl mM) ((h1.add h2).mono ?_) (by decide)
      have:=Nat.mul_le_mul (show t≤16 by omega) mM
      have:=mM
      omega
     show fit _=_
     unfold fit
     rw[if_pos hf]
    ·rw[if_neg hc,if_neg (show ¬ (none:Option Rat).isSome=true by simp)]
     have:dv s x t p=0:=Lp.eN fun c hc2=>if_neg fun h=>hc ⟨c,hc2,h⟩
     rw[this,Rat.zero_add]
   ·rw[if_neg e,if_neg (show ¬ (p:Int)=(k:Int) by omega),Rat.add_zero,ih k (by omega)]
    have aJD:(∃c,c<t+1∧(bQ s c).1=(k:Int)) ↔ ∃c,c<t∧(bQ s c).1=(k:Int):=⟨fun⟨c,h1,h2⟩=>⟨c,by
      by_cases hct:c=t
      ·subst hct;rw[hp] at h2;exact absurd (by omega) e
      ·omega,h2⟩,fun⟨c,h1,h2⟩=>⟨c,by omega,h2⟩⟩
    simp only[aJD]
theorem Rh (s:Str) {k:Nat} (hk:k<s.ms.length): ∃c,c<nC s∧(bQ s c).1=(k:Int):=by
 have hne: ∃p,p∈tS (s.ms.getD k default) k:=by
  unfold tS
  by_cases h:(s.ms.getD k default).kind=2
  ·exact⟨((k:Int), -1),by rw[if_pos h,if_neg (show ¬ (s.ms.getD k default).kind=1 by omega)];exact List.mem_append_right _ (List.mem_singleton.2 rfl)⟩
  ·exact⟨((k:Int),1),by rw[if_neg h];exact List.mem_append_left _ (List.mem_singleton.2 rfl)⟩
 obtain⟨p,hp⟩:=hne
 have hp1:p.1=(k:Int):=by
  unfold tS at hp
  rcases List.mem_append.1 hp with h | h
  ·split at h
   ·cases h
   ·rw[List.mem_singleton] at h;rw[h]
  ·split at h
   ·cases h
   ·rw[List.mem_singleton] at h;rw[h]
 have hm:p∈aZ s.ms:=List.mem_flatMap.2 ⟨k,by simpa using hk,hp⟩
 obtain⟨c,hc,e⟩:=List.mem_iff_getElem.1 hm
 refine⟨c,hc,?_⟩
 have:bQ s c=p:=by simp[bQ,hc,e]
 rw[this,hp1]
def dD (s:Str) (x:Nat→Rat) (k:Nat):Rat:=dv s x (nC s) k
theorem Li {s:Str} (hs:SOk s) {x:Nat→Rat} {v:Int} (hv:v≠0) (hl:v.natAbs≤jM) (hx: ∀c,c<nC s→cmN v jM (x c)):xG s (some (some x))=(List.range s.ms.length).map fun k=>some (dD s x k):=by
 apply List.ext_getElem
 ·show(fF _ _ _).length=_
  rw[dN];simp
 ·intro k h1 h2
  have hk:k<s.ms.length:=by simpa using h2
  have:=U6 hs hv hl hx (nC s) (Nat.le_refl _) k (by rw[dN];exact hk)
  rw[if_pos (Rh s hk)] at this
  simp only[List.getElem_map,List.getElem_range]
  exact this
theorem Mj {p:Pg} {n m:Nat} (h:PgN p n m) {x:Nat→Rat} (ho:Lp.opt n m (eQ p n m) (n+m) (wO (pC p))=some (some x)): ∃v:Int,v≠0∧v.natAbs≤jM∧ ∀c,c<n→cmN v jM (x c):=by
 rcases Lp.answers (wO (pC p)) h.init with ⟨e,_⟩| ⟨e,_⟩| ⟨y,e,_,⟨v,h1,h2,h3⟩,h0⟩
 ·rw[ho] at e;cases e
 ·rw[ho] at e;cases e
 ·rw[ho] at e
  have e:=Option.some.inj (Option.some.inj e)
  subst e
  have hc:=K3 h.ml
  exact⟨v,h1,Nat.le_trans h2 hc,fun c hlt=>by obtain⟨a,g1,g2⟩:=h3 c hlt;exact⟨a,g1,Nat.le_trans g2 hc⟩⟩

structure PJ (bl : Int → Option Blk) (s : Str) (l : List Int) (gp gB gc : Int) (p : PS) : Prop where
 hp:p.b gp=some ⟨5,[[.int .i64 (nR s),.int .i64 (nC s),.lsl p.g 1 0 p.n,.lsl gB 1 0 (nR s),.lsl gc 1 0 (nC s)]]⟩
 hc:p.b gc=some ⟨1,iv (List.replicate (nC s) 0)⟩
 hB:p.b gB=some ⟨1,iv (right s l)⟩
 ha:p.b p.g=some ⟨1,iv (aTo s p.n)⟩
 pp:p.g≠gp
 pc:p.g≠gc
 pB:p.g≠gB
 f:bl p.g=none
 sub:Sub bl p.b
 neg:p.g<0→aTo s p.n= []
structure R4 where
 v:V
 gs:List Int
 gc:Int
 gp:Int
 b:Int→Option Blk

def aFI (s:Str) (j sg:Int):Nat→Int:=fun c=>if(bQ s c).1=j then sg*(bQ s c).2 else 0
def aL0 (s:Str) (j sg:Int) (k:Nat):Nat→Int:=fun c=>if c<k then aFI s j sg c else 0
def aLN (s:Str) (l:List Int) (j sg:Int):Pg:= { cH s l with c:=lz (nC s) (aFI s j sg) }

def tkI (k:Int):Int:=if k=1 then 1 else if k=2 then -1 else 0
def aBX (s:Str):List Int:=List.replicate (2*s.js.length) 0
def rAt (s:Str) (i k:Nat):Int:=lat (mP s) (i*s.ms.length+k)
def tbI (s:Str) (i:Nat):Nat→Int
 | 0 => 0
 | k + 1 => tbI s i k - rAt s i k * tkI (s.ms.getD k default).kind
def aI3 (s:Str) (i:Nat) (p:Int×Int):Int:=if(s.ms.getD p.1.toNat default).kind=3 then 0 else p.2*rAt s i p.1.toNat
def tcL (s:Str) (i:Nat) (l:List (Int×Int)):Int:=l.foldl (fun a p=>a - aI3 s i p) 0
def tB (s:Str) (i:Nat):Int:=tbI s i s.ms.length
def aLS (s:Str):Pg:= { cH s (aBX s) with b:=lz (nR s) (tB s) }

theorem Qt (p:Pg) (i:Nat):sgB p i=1∨sgB p i= -1:=by unfold sgB;split;exact .inr rfl;exact .inl rfl
theorem Hp {p:Pg} {n m:Nat} {x:Nat→Rat} :Lp.gP n m (eQ p n m) (n+m) x ↔ (∀c,c<n→0≤x c)∧ ∀i,i<m→(Lp.S n fun c=>(pA p n i c:Rat)*x c)=(pB p i:Rat):=by
 have key: ∀i,i<m→((Lp.S n fun c=>eQ p n m i c*x c)=(sgB p i:Rat)*Lp.S n fun c=>(pA p n i c:Rat)*x c)∧eQ p n m i (n+m)=(sgB p i:Rat)*(pB p i:Rat):=fun i hi=>by
  constructor
  ·rw[←Lp.eI]
   exact Lp.aM fun c hc=>by
    have:eQ p n m i c=((sgB p i*pA p n i c:Int):Rat):=by unfold eQ eZ;rw[if_pos hc]
    rw[this,Rat.intCast_mul,Rat.mul_assoc]
  ·have:eQ p n m i (n+m)=((sgB p i*pB p i:Int):Rat):=by unfold eQ eZ;rw[if_neg (by omega),if_pos rfl]
   rw[this,Rat.intCast_mul]
 have cancel: ∀i (a b:Rat),(sgB p i:Rat)*a=(sgB p i:Rat)*b ↔ a=b:=fun i a b=>by
  constructor
  ·intro h
   rcases Qt p i with e | e
   ·rw[e,show((1:Int):Rat)=1 from rfl,Rat.one_mul,Rat.one_mul] at h;exact h
   ·rw[e,show((-1:Int):Rat)= -1 from rfl] at h;grind
  ·intro h;rw[h]
 constructor
 ·rintro⟨h1,h2⟩
  refine⟨h1,fun i hi=> ?_⟩
  obtain⟨k1,k2⟩:=key i hi
  have:=h2 i hi
  rw[k1,k2] at this
  exact(cancel i _ _).1 this
 ·rintro⟨h1,h2⟩
  refine⟨h1,fun i hi=> ?_⟩
  obtain⟨k1,k2⟩:=key i hi
  show(Lp.S n fun c=>eQ p n m i c*x c)=eQ p n m i (n+m)
  rw[k1,k2,h2 i hi]
theorem Qg (s:Str) (l:List Int) {i c:Nat} (hi:i<nR s) (hc:c<nC s):pA (cH s l) (nC s) i c=ent s i c:=by
 have hlt:i*nC s+c<nR s*nC s:=by
  have:=Nat.mul_le_mul_right (nC s) (show i+1≤nR s by omega)
  rw[Nat.add_mul,Nat.one_mul] at this
  omega
 have d1:(i*nC s+c) / nC s=i:=by rw[Nat.mul_comm,Nat.mul_add_div (by omega),Nat.div_eq_of_lt hc,Nat.add_zero]
 have d2:(i*nC s+c) % nC s=c:=by rw[Nat.mul_comm,Nat.mul_add_mod,Nat.mod_eq_of_lt hc]
 show(aTo s (nR s*nC s)).getD (i*nC s+c) 0=_
 unfold aTo
 rw[List.getD_eq_getElem?_getD,List.getElem?_map,List.getElem?_range hlt]
 simp[d1,d2]
theorem Ri (s:Str) (x:Nat→Rat) (i:Nat):(Lp.S (nC s) fun c=>(ent s i c:Rat)*x c)=Lp.S s.ms.length fun k=>(rAt s i k:Rat)*dD s x k:=by
 have e1:(Lp.S s.ms.length fun k=>(rAt s i k:Rat)*dD s x k)=Lp.S s.ms.length fun k=>Lp.S (nC s) fun c=>if(bQ s c).1=(k:Int) then(rAt s i k:Rat)*(((bQ s c).2:Rat)*x c) else 0:=Lp.aM fun k hk=>by
  unfold dD dv
  rw[←Lp.eI]
  exact Lp.aM fun c hc=>by
   split
   ·rfl
   ·rw[Rat.mul_zero]
 rw[e1,Lp.lD]
 refine Lp.aM fun c hc=> ?_
 obtain⟨⟨c0,c1⟩,c2⟩:=lU s c hc
 obtain⟨p,hp⟩: ∃p:Nat,(bQ s c).1=p:=⟨(bQ s c).1.toNat,by omega⟩
 rw[Lp.cK (k:=p) (by omega) fun k hk hne=>if_neg (by omega),if_pos hp]
 show((bQ s c).2*lat (mP s) (i*s.ms.length+(bQ s c).1.toNat):Int)*x c=_
 rw[hp,Int.toNat_natCast,Rat.intCast_mul]
 unfold rAt
 grind
theorem yS (s:Str) {t k:Nat} (ht:t<(aI s.js).length) (hk:k<s.ms.length):rAt s (2*t) k=eqX s (aI s.js)[t] (mat s k)∧rAt s (2*t+1) k=eqY s (aI s.js)[t] (mat s k):=by
 have key: ∀(l:List Int) (n:Nat) (h:n<l.length),(l.flatMap fun j=> [cQ s j,cR s j])[2*n]? =some (cQ s l[n])∧(l.flatMap fun j=> [cQ s j,cR s j])[2*n+1]? =some (cR s l[n]):=by
  intro l
  induction l with
  | nil => intro n h; simp at h
  | cons a l ih =>
    intro n h
    cases n with
    | zero=>simp
    | succ n=>
      have:=ih n (by simpa using h)
      rw[show 2*(n+1)=2*n+1+1 by omega,show 2*n+1+1+1=(2*n+1)+1+1 by omega]
      simpa using this
 obtain⟨k1,k2⟩:=key (aI s.js) t ht
 obtain⟨h1,e1⟩:=List.getElem?_eq_some_iff.1 k1
 obtain⟨h2,e2⟩:=List.getElem?_eq_some_iff.1 k2
 have g1:=qR (dK s) (jC s) (2*t) k h1 hk
 have g2:=qR (dK s) (jC s) (2*t+1) k h2 hk
 unfold rAt
 rw[pE]
 constructor
 ·rw[g1]
  show lat ((aI s.js).flatMap fun j=> [cQ s j,cR s j])[2*t] k=_
  rw[e1]
  unfold lat cQ
  rw[sK s k hk,List.getD_eq_getElem?_getD,List.getElem?_map,List.getElem?_eq_getElem hk];rfl
 ·rw[g2]
  show lat ((aI s.js).flatMap fun j=> [cQ s j,cR s j])[2*t+1] k=_
  rw[e2]
  unfold lat cR
  rw[sK s k hk,List.getD_eq_getElem?_getD,List.getElem?_map,List.getElem?_eq_getElem hk];rfl
structure Bal (s : Str) (l : List Int) (D : Nat → Rat) : Prop where
 x: ∀t (h:t<(aI s.js).length),(Lp.S s.ms.length fun k=>(eqX s (aI s.js)[t] (mat s k):Rat)*D k)+(lN l (2*(aI s.js)[t].toNat):Rat)=0
 y: ∀t (h:t<(aI s.js).length),(Lp.S s.ms.length fun k=>(eqY s (aI s.js)[t] (mat s k):Rat)*D k)+(lN l (2*(aI s.js)[t].toNat+1):Rat)=0
theorem Dv (s:Str) {t:Nat} (h:t<(aI s.js).length):0≤(aI s.js)[t]:=by
 obtain⟨i,e,_⟩:=Y5 s.js t h
 omega
theorem H0 (s:Str) (l:List Int) {t:Nat} (h:t<(aI s.js).length):pB (cH s l) (2*t)= -lN l (2*(aI s.js)[t].toNat)∧pB (cH s l) (2*t+1)= -lN l (2*(aI s.js)[t].toNat+1):=by
 have hn:=Dv s h
 obtain⟨h1,h2⟩:=vO s l (aI s.js) t h
 have e1:(2*(aI s.js)[t]).toNat=2*(aI s.js)[t].toNat:=by omega
 have e2:(2*(aI s.js)[t]+1).toNat=2*(aI s.js)[t].toNat+1:=by omega
 rw[e1] at h1
 rw[e2] at h2
 exact⟨h1,h2⟩
theorem Tm {s:Str} {l:List Int} {x:Nat→Rat} (h: ∀i,i<nR s→(Lp.S (nC s) fun c=>(pA (cH s l) (nC s) i c:Rat)*x c)=(pB (cH s l) i:Rat)):Bal s l (dD s x):=by
 have hr: ∀i,i<nR s→(Lp.S s.ms.length fun k=>(rAt s i k:Rat)*dD s x k)=(pB (cH s l) i:Rat):=fun i hi=>by
  rw[←Ri,←h i hi]
  exact Lp.aM fun c hc=>by rw[Qg s l hi hc]
 refine⟨fun t ht=> ?_,fun t ht=> ?_⟩
 ·have:=hr (2*t) (by unfold nR;omega)
  rw[(H0 s l ht).1,Rat.intCast_neg] at this
  have e:(Lp.S s.ms.length fun k=>(eqX s (aI s.js)[t] (mat s k):Rat)*dD s x k)=Lp.S s.ms.length fun k=>(rAt s (2*t) k:Rat)*dD s x k:=Lp.aM fun k hk=>by rw[(yS s ht hk).1]
  rw[e,this];grind
 ·have:=hr (2*t+1) (by unfold nR;omega)
  rw[(H0 s l ht).2,Rat.intCast_neg] at this
  have e:(Lp.S s.ms.length fun k=>(eqY s (aI s.js)[t] (mat s k):Rat)*dD s x k)=Lp.S s.ms.length fun k=>(rAt s (2*t+1) k:Rat)*dD s x k:=Lp.aM fun k hk=>by rw[(yS s ht hk).2]
  rw[e,this];grind

structure Dcm (s : Str) (D : Nat → Rat) (v : Int) (M : Nat) : Prop where
 v0:v≠0
 vl:v.natAbs≤cV
 cm: ∀k,k<s.ms.length→cmN v (M*cV) (D k)
 ml:M≤1000
def iU (s:Str) (D:Nat→Rat):List (Option Rat):=(List.range s.ms.length).map fun k=>some (D k)
@[simp] theorem Og (s : Str) (D : Nat → Rat) : (iU s D).length = s.ms.length := by simp [iU]
theorem Ki (s:Str) (D:Nat→Rat) {k:Nat} (h:k<s.ms.length):(iU s D).getD k none=some (D k):=by simp[iU,h]
theorem Dcm.fits {s:Str} {D:Nat→Rat} {v:Int} {M:Nat} (h:Dcm s D v M) {k:Nat} (hk:k<s.ms.length):Vm.fits (D k):=(h.cm k hk).fits h.v0 h.vl (by have:=h.ml;omega)
theorem Dcm.ok {s:Str} {D:Nat→Rat} {v:Int} {M:Nat} (h:Dcm s D v M):okL (iU s D):=fun y hy=>by
 obtain⟨k,hk,rfl⟩:=List.mem_map.1 hy
 exact okS (h.fits (by simpa using hk))
theorem vG (s:Str) (D:Nat→Rat):bZ (iU s D)=true:=by simp[bZ,iU]
theorem H6 {xs:List (Option Rat)} (h:okL xs):bA (cZ xs)=xs:=by
 unfold bA cZ
 rw[List.map_map]
 conv=>rhs;rw[←List.map_id xs]
 exact List.map_congr_left fun x hx=>K9 (h x hx)
theorem O1 {e:Mb→Int} {s:Str} (hs:SOk s) {j:Int} {D:Nat→Rat} {v:Int} {M:Nat} (h:Dcm s D v M) (he: ∀m,m∈s.ms→(e m).natAbs≤100) (hz: ∀m,m∈s.ms→ ¬ (j=m.a∨j=m.b)→e m=0):
  ∀n,n≤s.ms.length→pTo e s (iU s D) j n=some (Lp.S n fun k=>(e (mat s k):Rat)*D k)
 | 0, _ => rfl
 | n + 1, hn => by
   have ih:=O1 hs h he hz n (by omega)
   have pJ:mat s n∈s.ms:=by rw[sK s n (by omega)];exact List.getElem_mem _
   have hms:=hs.nm
   have hml:=h.ml
   have c1: ∀k,k<s.ms.length→cmN v (100*(M*cV)) (D k*(e (mat s k):Rat)):=fun k hk=>(h.cm k hk).int _ (he _ (by rw[sK s k hk];exact List.getElem_mem _))
   have hS:(Lp.S n fun k=>(e (mat s k):Rat)*D k)=Lp.S n fun k=>D k*(e (mat s k):Rat):=Lp.aM fun k _=>Rat.mul_comm _ _
   have f1:Vm.fits (D n*(e (mat s n):Rat)):=cmN.fits (M:=100*M) h.v0 h.vl (by have:=c1 n (by omega);rwa [←Nat.mul_assoc] at this) (by omega)
   have f2:Vm.fits ((Lp.S n fun k=>D k*(e (mat s k):Rat))+D n*(e (mat s n):Rat)):=by
    have h1:=cmN.sum n fun i hi=>c1 i (by omega)
    have h2:=h1.add (c1 n (by omega))
    refine cmN.fits (M:=9*(100*M)) h.v0 h.vl (h2.mono ?_) (by omega)
    have h3:n*(100*(M*cV))≤8*(100*(M*cV)):=Nat.mul_le_mul_right _ (by omega)
    have h4:9*(100*M)*cV=8*(100*(M*cV))+100*(M*cV):=by rw[Nat.mul_assoc,Nat.mul_assoc];omega
    omega
   unfold pTo
   rw[ih,Ki s D (by omega)]
   split
   ·rw[hS]
    have e1:op2 (· * ·) (some (D n)) (some ((e (mat s n):Int):Rat))=some (D n*(e (mat s n):Rat)):=iE f1
    rw[e1]
    have e2:op2 (· + ·) (some (Lp.S n fun k=>D k*(e (mat s k):Rat))) (some (D n*(e (mat s n):Rat)))=some ((Lp.S n fun k=>D k*(e (mat s k):Rat))+D n*(e (mat s n):Rat)):=iE f2
    rw[e2,←hS,Lp.S,Rat.mul_comm (D n)]
   ·rename_i hno
    rw[Lp.S,hz _ pJ hno,show((0:Int):Rat)=0 from rfl,Rat.zero_mul,Rat.add_zero]
theorem nX {s:Str} (hs:SOk s) (j:Int) {m:Mb} (hm:m∈s.ms):(eqX s j m).natAbs≤100∧(eqY s j m).natAbs≤100:=by
 obtain⟨⟨a1,a2⟩,b1,b2⟩:=Hr hs hm
 unfold eqX eqY
 constructor
 ·split
  ·omega
  ·split<;>omega
 ·split
  ·omega
  ·split<;>omega
theorem Kj {s:Str} (hk:sOk s=true) {D:Nat→Rat} {v:Int} {M:Nat} (h:Dcm s D v M):iQ s (cZ (iU s D))=true:=by
 unfold iQ
 rw[hk,J1 h.ok,vG]
 simp
def Sgn (s:Str) (D:Nat→Rat):Prop:= ∀k (h:k<s.ms.length),(s.ms[k].kind=1→0≤D k)∧(s.ms[k].kind=2→D k≤0)

def PX (s:Str) (D:Nat→Rat) (i:Nat):Rat:=Lp.S s.ms.length fun k=>(eqX s i (mat s k):Rat)*D k
def PY (s:Str) (D:Nat→Rat) (i:Nat):Rat:=Lp.S s.ms.length fun k=>(eqY s i (mat s k):Rat)*D k
def WX (s:Str) (l:List Int) (D:Nat→Rat) (i:Nat):Rat:=PX s D i+(lN l (2*i):Rat)
def WY (s:Str) (l:List Int) (D:Nat→Rat) (i:Nat):Rat:=PY s D i+(lN l (2*i+1):Rat)
def gX (s:Str) (i:Nat):Rat:=((jat s.js i).x:Rat)
def gY (s:Str) (i:Nat):Rat:=((jat s.js i).y:Rat)
theorem qP {n a b:Nat} (ha:a<n) (hb:b<n) (g:Nat→Rat) (v:Rat):(Lp.S n fun i=>g i*((if i=a then v else 0) - (if i=b then v else 0)))=(g a - g b)*v:=by
 have e:(Lp.S n fun i=>g i*((if i=a then v else 0) - (if i=b then v else 0)))=(Lp.S n fun i=>g i*(if i=a then v else 0)) - Lp.S n fun i=>g i*(if i=b then v else 0):=by
  rw[←Lp.qE]
  exact Lp.aM fun i _=>by grind
 rw[e,Lp.cK ha (fun i _ h=>by rw[if_neg h,Rat.mul_zero]),Lp.cK hb (fun i _ h=>by rw[if_neg h,Rat.mul_zero]),if_pos rfl,if_pos rfl]
 grind
theorem D3 {s:Str} (hs:SOk s) {m:Mb} (hm:m∈s.ms): ∃a b:Nat,a<s.js.length∧b<s.js.length∧(vx s m:Rat)=gX s b - gX s a∧(vy s m:Rat)=gY s b - gY s a∧
  (∀i:Nat,(eqX s i m:Rat)=(if i=a then(vx s m:Rat) else 0) - (if i=b then(vx s m:Rat) else 0))∧ ∀i:Nat,(eqY s i m:Rat)=(if i=a then(vy s m:Rat) else 0) - (if i=b then(vy s m:Rat) else 0):=by
 obtain⟨⟨a1,a2⟩,b1,b2⟩:=hs.ix _ hm
 obtain⟨a,ha⟩: ∃a:Nat,m.a=a:=⟨m.a.toNat,by omega⟩
 obtain⟨b,hb⟩: ∃b:Nat,m.b=b:=⟨m.b.toNat,by omega⟩
 have hx:(vx s m:Rat)=gX s b - gX s a:=by unfold vx gX;rw[ha,hb,Rat.intCast_sub]
 have hy:(vy s m:Rat)=gY s b - gY s a:=by unfold vy gY;rw[ha,hb,Rat.intCast_sub]
 refine⟨a,b,by omega,by omega,hx,hy,fun i=> ?_,fun i=> ?_⟩
 ·unfold eqX
  rw[ha,hb]
  by_cases h1:i=a
  ·subst h1
   rw[if_pos rfl,if_pos rfl]
   by_cases h2:i=b
   ·subst h2
    rw[if_pos rfl,hx];grind
   ·rw[if_neg h2];grind
  ·rw[if_neg (show ¬ (i:Int)=a by omega),if_neg h1]
   by_cases h2:i=b
   ·subst h2;rw[if_pos rfl,if_pos rfl,Rat.intCast_neg];grind
   ·rw[if_neg (show ¬ (i:Int)=b by omega),if_neg h2]
    show(0:Rat)=0 - 0
    grind
 ·unfold eqY
  rw[ha,hb]
  by_cases h1:i=a
  ·subst h1
   rw[if_pos rfl,if_pos rfl]
   by_cases h2:i=b
   ·subst h2
    rw[if_pos rfl,hy];grind
   ·rw[if_neg h2];grind
  ·rw[if_neg (show ¬ (i:Int)=a by omega),if_neg h1]
   by_cases h2:i=b
   ·subst h2;rw[if_pos rfl,if_pos rfl,Rat.intCast_neg];grind
   ·rw[if_neg (show ¬ (i:Int)=b by omega),if_neg h2]
    show(0:Rat)=0 - 0
    grind
theorem lT {s:Str} {k:Nat} (hk:k<s.ms.length):mat s k∈s.ms:=by rw[sK s k hk];exact List.getElem_mem _
theorem qG (s:Str) (D:Nat→Rat) (e:Nat→Nat→Rat) (g:Nat→Rat):(Lp.S s.js.length fun i=>g i*Lp.S s.ms.length fun k=>e i k*D k)=Lp.S s.ms.length fun k=>(Lp.S s.js.length fun i=>g i*e i k)*D k:=by
 have e1:(Lp.S s.js.length fun i=>g i*Lp.S s.ms.length fun k=>e i k*D k)=Lp.S s.js.length fun i=>Lp.S s.ms.length fun k=>g i*e i k*D k:=Lp.aM fun i _=>by
  rw[←Lp.eI]
  exact Lp.aM fun k _=>by grind
 rw[e1,Lp.lD]
 exact Lp.aM fun k _=>by rw[←Lp.kK]
theorem yV {s:Str} (hs:SOk s) (D:Nat→Rat):(Lp.S s.js.length fun i=>PX s D i)=0∧(Lp.S s.js.length fun i=>PY s D i)=0:=by
 have h1:=qG s D (fun i k=>(eqX s i (mat s k):Rat)) fun _=>1
 have h2:=qG s D (fun i k=>(eqY s i (mat s k):Rat)) fun _=>1
 constructor
 ·rw[show(Lp.S s.js.length fun i=>PX s D i)=Lp.S s.js.length fun i=>1*Lp.S s.ms.length fun k=>(eqX s i (mat s k):Rat)*D k from Lp.aM fun i _=>by unfold PX;grind,h1]
  refine Lp.eN fun k hk=> ?_
  obtain⟨a,b,ha,hb,_,_,ex,_⟩:=D3 hs (lT hk)
  rw[Lp.aM (g:=fun i=>1*((if i=a then(vx s (mat s k):Rat) else 0) - (if i=b then(vx s (mat s k):Rat) else 0))) fun i _=>by rw[ex],qP ha hb]
  grind
 ·rw[show(Lp.S s.js.length fun i=>PY s D i)=Lp.S s.js.length fun i=>1*Lp.S s.ms.length fun k=>(eqY s i (mat s k):Rat)*D k from Lp.aM fun i _=>by unfold PY;grind,h2]
  refine Lp.eN fun k hk=> ?_
  obtain⟨a,b,ha,hb,_,_,_,ey⟩:=D3 hs (lT hk)
  rw[Lp.aM (g:=fun i=>1*((if i=a then(vy s (mat s k):Rat) else 0) - (if i=b then(vy s (mat s k):Rat) else 0))) fun i _=>by rw[ey],qP ha hb]
  grind
theorem Z0 {s:Str} (hs:SOk s) (D:Nat→Rat):(Lp.S s.js.length fun i=>gX s i*PY s D i - gY s i*PX s D i)=0:=by
 have h1:=qG s D (fun i k=>(eqY s i (mat s k):Rat)) (gX s)
 have h2:=qG s D (fun i k=>(eqX s i (mat s k):Rat)) (gY s)
 rw[Lp.qE]
 have h1':(Lp.S s.js.length fun i=>gX s i*PY s D i)=Lp.S s.ms.length fun k=>(Lp.S s.js.length fun i=>gX s i*(eqY s i (mat s k):Rat))*D k:=h1
 have h2':(Lp.S s.js.length fun i=>gY s i*PX s D i)=Lp.S s.ms.length fun k=>(Lp.S s.js.length fun i=>gY s i*(eqX s i (mat s k):Rat))*D k:=h2
 rw[h1',h2',←Lp.qE]
 refine Lp.eN fun k hk=> ?_
 obtain⟨a,b,ha,hb,hx,hy,ex,ey⟩:=D3 hs (lT hk)
 rw[Lp.aM (g:=fun i=>gX s i*((if i=a then(vy s (mat s k):Rat) else 0) - (if i=b then(vy s (mat s k):Rat) else 0))) fun i _=>by rw[ey],qP ha hb,
  Lp.aM (g:=fun i=>gY s i*((if i=a then(vx s (mat s k):Rat) else 0) - (if i=b then(vx s (mat s k):Rat) else 0))) fun i _=>by rw[ex],qP ha hb,hx,hy]
 grind
theorem V1 (l:List Int) (i:Nat):lat l i=lN l i:=rfl
theorem Ih (l:List Int): ∀n,((sumX l n:Int):Rat)=Lp.S n fun i=>(lN l (2*i):Rat)
 | 0 => rfl
 | n + 1 => by rw [sumX, Rat.intCast_add, Ih l n, Lp.S]; rfl
theorem Ia (l:List Int): ∀n,((oC l n:Int):Rat)=Lp.S n fun i=>(lN l (2*i+1):Rat)
 | 0 => rfl
 | n + 1 => by rw [oC, Rat.intCast_add, Ia l n, Lp.S]; rfl
theorem Nl (s:Str) (l:List Int): ∀n,((gH s l 0 0 n:Int):Rat)=Lp.S n fun i=>gX s i*(lN l (2*i+1):Rat) - gY s i*(lN l (2*i):Rat)
 | 0 => rfl
 | n + 1 => by
   rw[gH,Int.sub_zero,Int.sub_zero,Rat.intCast_sub,Rat.intCast_add,Rat.intCast_mul,Rat.intCast_mul,Nl s l n,Lp.S]
   unfold gX gY
   rw[V1,V1]
   grind

def kL (s:Str) (i:Nat):Bool:=(s.js.getD i default).fixed
theorem Iq {js:List J} {i:Nat} (hi:i<js.length) (hf:(js.getD i default).fixed=false): ∃t,∃h:t<(aI js).length,(aI js)[t]=(i:Int):=by
 have hm:(i:Int)∈aI js:=by
  unfold aI cI
  exact List.mem_map.2 ⟨i,List.mem_filter.2 ⟨by simpa using hi,by simp only[hf];rfl⟩,rfl⟩
 obtain⟨t,h,e⟩:=List.mem_iff_getElem.1 hm
 exact⟨t,h,e⟩
theorem Bal.free {s:Str} {l:List Int} {D:Nat→Rat} (h:Bal s l D) {i:Nat} (hi:i<s.js.length) (hf:kL s i=false):WX s l D i=0∧WY s l D i=0:=by
 obtain⟨t,ht,e⟩:=Iq hi hf
 have h1:=h.x t ht
 have h2:=h.y t ht
 have et:(aI s.js)[t].toNat=i:=by omega
 rw[et,e] at h1 h2
 exact⟨h1,h2⟩
def rX (s:Str) (l:List Int) (D:Nat→Rat) (n:Nat):Rat:=((sumX l s.js.length:Int):Rat)+Lp.S n fun i=>if kL s i=true then -WX s l D i else 0
def rY (s:Str) (l:List Int) (D:Nat→Rat) (n:Nat):Rat:=((oC l s.js.length:Int):Rat)+Lp.S n fun i=>if kL s i=true then -WY s l D i else 0
def rM (s:Str) (l:List Int) (D:Nat→Rat) (n:Nat):Rat:=((gH s l 0 0 s.js.length:Int):Rat)+Lp.S n fun i=>if kL s i=true then gX s i* -WY s l D i - gY s i* -WX s l D i else 0
theorem Po {s:Str} (hs:SOk s) {l:List Int} {D:Nat→Rat} (h:Bal s l D):rX s l D s.js.length=0:=by
 have e:(Lp.S s.js.length fun i=>if kL s i=true then -WX s l D i else 0)=Lp.S s.js.length fun i=>(-1)*(PX s D i+(lN l (2*i):Rat)):=Lp.aM fun i hi=>by
  by_cases hf:kL s i=true
  ·rw[if_pos hf];unfold WX;grind
  ·rw[if_neg hf]
   have:=(h.free hi (by simpa using hf)).1
   unfold WX at this
   rw[this];grind
 unfold rX
 rw[e,Lp.eI,Lp.sW,(yV hs D).1,←Ih]
 grind
theorem So {s:Str} (hs:SOk s) {l:List Int} {D:Nat→Rat} (h:Bal s l D):rY s l D s.js.length=0:=by
 have e:(Lp.S s.js.length fun i=>if kL s i=true then -WY s l D i else 0)=Lp.S s.js.length fun i=>(-1)*(PY s D i+(lN l (2*i+1):Rat)):=Lp.aM fun i hi=>by
  by_cases hf:kL s i=true
  ·rw[if_pos hf];unfold WY;grind
  ·rw[if_neg hf]
   have:=(h.free hi (by simpa using hf)).2
   unfold WY at this
   rw[this];grind
 unfold rY
 rw[e,Lp.eI,Lp.sW,(yV hs D).2,←Ia]
 grind
theorem Sg {s:Str} (hs:SOk s) {l:List Int} {D:Nat→Rat} (h:Bal s l D):rM s l D s.js.length=0:=by
 have e:(Lp.S s.js.length fun i=>if kL s i=true then gX s i* -WY s l D i - gY s i* -WX s l D i else 0)=Lp.S s.js.length fun i=>(-1)*((gX s i*PY s D i - gY s i*PX s D i)+(gX s i*(lN l (2*i+1):Rat) - gY s i*(lN l (2*i):Rat))):=Lp.aM fun i hi=>by
  by_cases hf:kL s i=true
  ·rw[if_pos hf];unfold WX WY;grind
  ·rw[if_neg hf]
   have g1:=(h.free hi (by simpa using hf)).1
   have g2:=(h.free hi (by simpa using hf)).2
   unfold WX at g1
   unfold WY at g2
   have e1:PX s D i= -(lN l (2*i):Rat):=by grind
   have e2:PY s D i= -(lN l (2*i+1):Rat):=by grind
   rw[e1,e2];grind
 unfold rM
 rw[e,Lp.eI,Lp.sW,Z0 hs D,←Nl]
 grind
theorem cmN.ofInt {v:Int} (hl:v.natAbs≤cV) (n:Int) {M:Nat} (hn:n.natAbs≤M):cmN v (M*cV) (n:Rat):=⟨n*v,by rw[Rat.intCast_mul],by
 rw[Int.natAbs_mul];exact Nat.mul_le_mul hn hl⟩
theorem cmN.neg {v:Int} {L:Nat} {q:Rat} (h:cmN v L q):cmN v L (-q):=by
 obtain⟨a,h1,h2⟩:=h
 exact⟨-a,by rw[Rat.intCast_neg,←h1];grind,by omega⟩
theorem M8 {s:Str} {l:List Int} (h:LOk s l) (i:Nat):(lN l i).natAbs≤100:=Q0 h.f
theorem yY {s:Str} {l:List Int} (h:LOk s l) {D:Nat→Rat} {v:Int} (hd:Dcm s D v 16) (i:Nat):cmN v (13000*cV) (WX s l D i)∧cmN v (13000*cV) (WY s l D i):=by
 have hm:=h.sok.nm
 have c1: ∀e:Nat→Int,(∀k,k<s.ms.length→(e k).natAbs≤100)→cmN v (12800*cV) (Lp.S s.ms.length fun k=>(e k:Rat)*D k):=fun e he=>by
  have h1:cmN v (s.ms.length*(100*(16*cV))) (Lp.S s.ms.length fun k=>(e k:Rat)*D k):=cmN.sum _ fun k hk=>by
   rw[Rat.mul_comm];exact(hd.cm k hk).int _ (he k hk)
  refine h1.mono ?_
  have:s.ms.length*(100*(16*cV))≤8*(100*(16*cV)):=Nat.mul_le_mul_right _ hm
  omega
 have c2: ∀n:Nat,cmN v (100*cV) (lN l n:Rat):=fun n=>cmN.ofInt hd.vl _ (M8 h n)
 exact⟨((c1 _ fun k hk=>(nX h.sok i (lT hk)).1).add (c2 _)).mono (by omega),((c1 _ fun k hk=>(nX h.sok i (lT hk)).2).add (c2 _)).mono (by omega)⟩
theorem Rd {s:Str} (hs:SOk s) {i:Nat} (hi:i<s.js.length):((jat s.js i).x).natAbs≤50∧((jat s.js i).y).natAbs≤50:=by
 have:=hs.pl i hi
 unfold jat
 rw[Int.toNat_natCast]
 omega
theorem Fx {s:Str} {l:List Int} (h:LOk s l) {D:Nat→Rat} {v:Int} (hd:Dcm s D v 16) {n:Nat} (hn:n≤s.js.length):cmN v (100000*cV) (rX s l D n)∧cmN v (100000*cV) (rY s l D n):=by
 have hj:=h.sok.nj
 have h1:=uE h s.js.length (Nat.le_refl _)
 have h2:=tY h s.js.length (Nat.le_refl _)
 have z:cmN v (13000*cV) 0:=cmN.zero v _
 have e:n*(13000*cV)≤6*(13000*cV):=Nat.mul_le_mul_right _ (by omega)
 constructor
 ·have g1:cmN v (600*cV) ((sumX l s.js.length:Int):Rat):=cmN.ofInt hd.vl _ (by omega)
  have g2:=cmN.sum (v:=v) (L:=13000*cV) (f:=fun i=>if kL s i=true then -WX s l D i else 0) n fun i _=>by
   split
   ·exact(yY h hd i).1.neg
   ·exact z
  exact(g1.add g2).mono (by omega)
 ·have g1:cmN v (600*cV) ((oC l s.js.length:Int):Rat):=cmN.ofInt hd.vl _ (by omega)
  have g2:=cmN.sum (v:=v) (L:=13000*cV) (f:=fun i=>if kL s i=true then -WY s l D i else 0) n fun i _=>by
   split
   ·exact(yY h hd i).2.neg
   ·exact z
  exact(g1.add g2).mono (by omega)
theorem W8 {s:Str} {l:List Int} (h:LOk s l) {D:Nat→Rat} {v:Int} (hd:Dcm s D v 16) {i:Nat} (hi:i<s.js.length):cmN v (650000*cV) (gX s i* -WY s l D i)∧cmN v (650000*cV) (gY s i* -WX s l D i):=by
 obtain⟨a,b⟩:=Rd h.sok hi
 constructor
 ·have:=(yY h hd i).2.neg.int _ a
  rw[Rat.mul_comm] at this
  exact this.mono (by omega)
 ·have:=(yY h hd i).1.neg.int _ b
  rw[Rat.mul_comm] at this
  exact this.mono (by omega)
theorem cmN.sub {v:Int} {L M:Nat} {p q:Rat} (hp:cmN v L p) (hq:cmN v M q):cmN v (L+M) (p - q):=by
 have:=hp.add hq.neg
 rwa [←Rat.sub_eq_add_neg] at this
theorem rL {s:Str} {l:List Int} (h:LOk s l): ∀n,n≤s.js.length→(gH s l 0 0 n).natAbs≤10000*n
 | 0, _ => by simp [gH]
 | n + 1, hn => by
   have ih:=rL h n (by omega)
   obtain⟨a,b⟩:=Rd h.sok (show n<s.js.length by omega)
   have l1:=M8 h (2*n+1)
   have l2:=M8 h (2*n)
   have m1:((jat s.js n).x*lat l (2*n+1)).natAbs≤50*100:=by rw[Int.natAbs_mul];exact Nat.mul_le_mul a l1
   have m2:((jat s.js n).y*lat l (2*n)).natAbs≤50*100:=by rw[Int.natAbs_mul];exact Nat.mul_le_mul b l2
   rw[gH,Int.sub_zero,Int.sub_zero]
   omega
theorem Of {s:Str} {l:List Int} (h:LOk s l) {D:Nat→Rat} {v:Int} (hd:Dcm s D v 16) {n:Nat} (hn:n≤s.js.length):cmN v (10000000*cV) (rM s l D n):=by
 have hj:=h.sok.nj
 have h1:=rL h s.js.length (Nat.le_refl _)
 have g1:cmN v (60000*cV) ((gH s l 0 0 s.js.length:Int):Rat):=cmN.ofInt hd.vl _ (by omega)
 have g2:=cmN.sum (v:=v) (L:=1300000*cV) (f:=fun i=>if kL s i=true then gX s i* -WY s l D i - gY s i* -WX s l D i else 0) n fun i hi=>by
  split
  ·obtain⟨t1,t2⟩:=W8 h hd (show i<s.js.length by omega)
   exact(t1.sub t2).mono (by omega)
  ·exact cmN.zero v _
 have e:n*(1300000*cV)≤6*(1300000*cV):=Nat.mul_le_mul_right _ (by omega)
 exact(g1.add g2).mono (by omega)
theorem Im {s:Str} {l:List Int} (hk:lOk s l=true) {D:Nat→Rat} {v:Int} (hd:Dcm s D v 16) {i:Nat} (hi:i<s.js.length) (hf:kL s i=true):oZ s l (cZ (iU s D)) i= [some (-WX s l D i),some (-WY s l D i)]:=by
 have hL:=jE hk
 have qs:=U2 hk
 have hfl:gL s.js l=true:=by unfold lOk at hk;rw[Bool.and_eq_true] at hk;exact hk.2
 have hre:tJ s l (cZ (iU s D)) i=true:=by
  unfold tJ
  rw[Kj qs hd,hfl,Int.toNat_natCast]
  have:(s.js.getD i default).fixed=true:=hf
  rw[this]
  simp;omega
 have zx: ∀m,m∈s.ms→ ¬ ((i:Int)=m.a∨(i:Int)=m.b)→eqX s i m=0:=fun m _ h=>by unfold eqX;rw[if_neg (fun e=>h (.inl e)),if_neg (fun e=>h (.inr e))]
 have zy: ∀m,m∈s.ms→ ¬ ((i:Int)=m.a∨(i:Int)=m.b)→eqY s i m=0:=fun m _ h=>by unfold eqY;rw[if_neg (fun e=>h (.inl e)),if_neg (fun e=>h (.inr e))]
 obtain⟨w1,w2⟩:=yY hL hd i
 have f1:Vm.fits (WX s l D i):=w1.fits hd.v0 hd.vl (by decide)
 have f2:Vm.fits (WY s l D i):=w2.fits hd.v0 hd.vl (by decide)
 have e1:fX s l (iU s D) i=some (WX s l D i):=by
  unfold fX pX
  rw[O1 hL.sok hd (fun m hm=>(nX hL.sok _ hm).1) zx _ (Nat.le_refl _)]
  exact iE f1
 have e2:fY s l (iU s D) i=some (WY s l D i):=by
  unfold fY pY
  rw[O1 hL.sok hd (fun m hm=>(nX hL.sok _ hm).2) zy _ (Nat.le_refl _)]
  exact iE f2
 unfold oZ
 rw[if_pos hre,Int.toNat_natCast,H6 hd.ok,e1,e2];rfl
theorem Bf {s:Str} {l:List Int} {q:List RT} {i:Nat} (hf:kL s i=false):oZ s l q i= [none]:=by
 unfold oZ
 rw[if_neg]
 intro h
 unfold tJ at h
 simp only[Bool.and_eq_true,Int.toNat_natCast] at h
 have:kL s i=true:=h.2.2
 rw[hf] at this;cases this

theorem vZ (x:Option Rat) (hx:okQ x):RO Tryz.prog 95 [fv x] (.agg (ro x).c):=by
 have:=eK 2 (uJ x hx) (U3 _ 0)
 rwa [show(D.a (dR (ro x))).fz= .agg (ro x).c by simp[D.fz,dR,D.fzL,RT.c]] at this
theorem vF (x:Option Rat) (hx:okQ x):RO Tryz.prog 97 [.agg (ro x).c] (fv x):=by
 have h:=ro_le hx
 have:=W6 (ro x) (by omega) (by omega)
 rwa [K9 hx] at this
theorem pI (x y:Option Rat) (hx:okQ x) (hy:okQ y):RO Tryz.prog 28 [.agg (ro x).c,.agg (ro y).c] (.agg (ro (op2 (· + ·) x y)).c):=by
 have h1:=vF x hx
 have h2:=vF y hy
 have h3:=kI x y hx hy
 have h4:=vZ (op2 (· + ·) x y) (gJ _ _ _)
 generalize op2 (· + ·) x y=z at *
 generalize ro x=rx at *
 generalize ro y=ry at *
 generalize ro z=rz at *
 refine aK Tryz.func28 rfl rfl (by rw[Tryz.ntmps28];simp) fun bl=> ?_
 rw[Tryz.ntmps28,Tryz.results28]
 refine aE ?_
 simp[RT.c]
 intro g2 hg2 hb2 g3 hg3 h32 hb3 g4 hg4 h43 h42 hb4
 refine cE ?_
 refine cD aN [0,1,2,3,4,5] 1 6 (by kernel_rfl) ?_
 simp[h32,h43,h42,Ne.symm h32,Ne.symm h43,Ne.symm h42,hb2,hb3,hb4]
 refine aG h1 ?_
 simp[h32,h43,h42,Ne.symm h32,Ne.symm h43,Ne.symm h42,hb2,hb3,hb4]
 refine aG h2 ?_
 simp
 refine aG h3 ?_
 simp
 refine aG h4 ?_
 simp[RT.c]
 refine bO (i:=6) (by kernel_rfl) rfl rfl rfl ?_
 simp[RT.c]
 refine Dy ?_
 simp
 refine aC ?_
 simp
 exact aQ [.agg rz.c] 1 (by simp[RT.c]) (by simp[frz,V.cl,RT.c]) (by intro w b hw;simp only[aA] at hw ⊢;grind)
theorem Q7 (x y:Option Rat) (hx:okQ x) (hy:okQ y):RO Tryz.prog 35 [.agg (ro x).c,.agg (ro y).c] (.agg (ro (op2 (· - ·) x y)).c):=by
 have h1:=vF x hx
 have h2:=vF y hy
 have h3:=Qn x y hx hy
 have h4:=vZ (op2 (· - ·) x y) (gJ _ _ _)
 generalize op2 (· - ·) x y=z at *
 generalize ro x=rx at *
 generalize ro y=ry at *
 generalize ro z=rz at *
 refine aK Tryz.func35 rfl rfl (by rw[Tryz.ntmps35];simp) fun bl=> ?_
 rw[Tryz.ntmps35,Tryz.results35]
 refine aE ?_
 simp[RT.c]
 intro g2 hg2 hb2 g3 hg3 h32 hb3 g4 hg4 h43 h42 hb4
 refine cE ?_
 refine cD aN [0,1,2,3,4,5] 1 6 (by kernel_rfl) ?_
 simp[h32,h43,h42,Ne.symm h32,Ne.symm h43,Ne.symm h42,hb2,hb3,hb4]
 refine aG h1 ?_
 simp[h32,h43,h42,Ne.symm h32,Ne.symm h43,Ne.symm h42,hb2,hb3,hb4]
 refine aG h2 ?_
 simp
 refine aG h3 ?_
 simp
 refine aG h4 ?_
 simp[RT.c]
 refine bO (i:=6) (by kernel_rfl) rfl rfl rfl ?_
 simp[RT.c]
 refine Dy ?_
 simp
 refine aC ?_
 simp
 exact aQ [.agg rz.c] 1 (by simp[RT.c]) (by simp[frz,V.cl,RT.c]) (by intro w b hw;simp only[aA] at hw ⊢;grind)
theorem vW (x y:Option Rat) (hx:okQ x) (hy:okQ y):RO Tryz.prog 29 [.agg (ro x).c,.agg (ro y).c] (.agg (ro (op2 (· * ·) x y)).c):=by
 have h1:=vF x hx
 have h2:=vF y hy
 have h3:=vK x y hx hy
 have h4:=vZ (op2 (· * ·) x y) (gJ _ _ _)
 generalize op2 (· * ·) x y=z at *
 generalize ro x=rx at *
 generalize ro y=ry at *
 generalize ro z=rz at *
 refine aK Tryz.func29 rfl rfl (by rw[Tryz.ntmps29];simp) fun bl=> ?_
 rw[Tryz.ntmps29,Tryz.results29]
 refine aE ?_
 simp[RT.c]
 intro g2 hg2 hb2 g3 hg3 h32 hb3 g4 hg4 h43 h42 hb4
 refine cE ?_
 refine cD aN [0,1,2,3,4,5] 1 6 (by kernel_rfl) ?_
 simp[h32,h43,h42,Ne.symm h32,Ne.symm h43,Ne.symm h42,hb2,hb3,hb4]
 refine aG h1 ?_
 simp[h32,h43,h42,Ne.symm h32,Ne.symm h43,Ne.symm h42,hb2,hb3,hb4]
 refine aG h2 ?_
 simp
 refine aG h3 ?_
 simp
 refine aG h4 ?_
 simp[RT.c]
 refine bO (i:=6) (by kernel_rfl) rfl rfl rfl ?_
 simp[RT.c]
 refine Dy ?_
 simp
 refine aC ?_
 simp
 exact aQ [.agg rz.c] 1 (by simp[RT.c]) (by simp[frz,V.cl,RT.c]) (by intro w b hw;simp only[aA] at hw ⊢;grind)
theorem D8 (x:Option Rat) (hx:okQ x):RO Tryz.prog 36 [.agg (ro x).c] (.int .i64 (sgq x)):=by
 have h1:=vF x hx
 refine aK Tryz.func36 rfl rfl (by rw[Tryz.ntmps36];simp) fun bl=> ?_
 rw[Tryz.ntmps36,Tryz.results36]
 refine aC ?_
 simp[RT.c]
 intro g2 hg2 hb2
 refine aD h1 ?_
 cases x with
 | none =>
   simp[fv]
   exact aQ [.int .i64 0] 0 (by simp) (by simp[frz,sgq]) (by simp[hb2])
 | some q =>
   simp[fv]
   refine aD (Ml q) ?_
   simp
   exact aQ [.int .i64 q.num.sign] 0 (by simp) (by simp[frz,sgq]) (by simp[hb2])

theorem D9 {n:Nat} {C x:Nat→Rat} (h: ∀c,c<n→C c=0):Lp.dot n C x=0:=by
 unfold Lp.dot
 exact Lp.eN fun c hc=>by rw[h c hc,Rat.zero_mul]
theorem Fh {p:Pg} {n m:Nat} (h:PgN p n m) (hc:p.c=List.replicate n 0):
  (Lp.opt n m (eQ p n m) (n+m) (wO (pC p))=none∧D0 n m (eQ p n m)=false)∨ ∃x,Lp.opt n m (eQ p n m) (n+m) (wO (pC p))=some (some x)∧D0 n m (eQ p n m)=true:=by
 have hz: ∀c,c<n→wO (pC p) c=0:=fun c hlt=>by
  show((pC p c:Int):Rat)=0
  rw[show pC p c=0 by unfold pC;rw[hc,List.getD_eq_getElem?_getD,List.getElem?_replicate,if_pos hlt];rfl];rfl
 rcases Lp.answers (wO (pC p)) h.init with ⟨e,hn⟩| ⟨e,hu,x,hx⟩| ⟨x,e,hb,_,_⟩
 ·refine .inl ⟨e,?_⟩
  rw[Bool.eq_false_iff]
  intro hq
  obtain⟨x,hx⟩:=wX.1 hq
  exact hn x hx
 ·obtain⟨y,_,hy⟩:=hu x hx
  rw[D9 hz,D9 hz] at hy
  exact absurd hy (by decide)
 ·exact .inr ⟨x,e,wX.2 ⟨x,hb.1⟩⟩
end Go.Proofs.YticmgmemnpcbbaaGreat.Vm

namespace Go.Proofs.YticmgmemnpcbbaaGreat.Vm
open Go Go.Proofs
set_option linter.unusedSimpArgs false
set_option linter.unusedVariables false
end Go.Proofs.YticmgmemnpcbbaaGreat.Vm

namespace Go.Proofs.YticmgmemnpcbbaaGreat.Vm
open Go Go.RowKit Go.Proofs
set_option linter.unusedSimpArgs false
set_option linter.unusedVariables false
structure Gb (s : Str) (l : List Int) (x : Nat → Rat) (v : Int) : Prop where
 v0:v≠0
 vl:v.natAbs≤jM
 cm: ∀k,cmN v (16*jM) (dD s x k)
 nn: ∀c,c<nC s→0≤x c
 sol: ∀i,i<nR s→(Lp.S (nC s) fun c=>(pA (cH s l) (nC s) i c:Rat)*x c)=(pB (cH s l) i:Rat)
theorem Gb.bal {s:Str} {l:List Int} {x:Nat→Rat} {v:Int} (h:Gb s l x v):Bal s l (dD s x):=Tm h.sol
theorem Ae :16*jM≤16*cV:=Nat.mul_le_mul_left _ mM
theorem Gb.dcm {s:Str} {l:List Int} {x:Nat→Rat} {v:Int} (h:Gb s l x v):Dcm s (dD s x) v 16:=⟨h.v0,Nat.le_trans h.vl mM,fun k _=>(h.cm k).mono Ae,by decide⟩
theorem yR {s:Str} {l:List Int} (hl:lOk s l=true):(mG s l= [none]∧xI s l=false)∨ ∃x v,mG s l=iU s (dD s x)∧xI s l=true∧Gb s l x v:=by
 have hL:=jE hl
 have hpg:=qO hL
 have hd:mG s l=xG s (Lp.opt (nC s) (nR s) (eQ (cH s l) (nC s) (nR s)) (nC s+nR s) (wO (pC (cH s l)))):=by unfold mG;rw[if_pos hl]
 have hc:xI s l=D0 (nC s) (nR s) (eQ (cH s l) (nC s) (nR s)):=by unfold xI Ji;rw[hl];rfl
 rw[hd,hc]
 rcases Fh hpg rfl with ⟨e1,e2⟩| ⟨x,e1,e2⟩
 ·exact .inl ⟨by rw[e1];rfl,e2⟩
 ·obtain⟨v,h1,h2,h3⟩:=Mj hpg e1
  have hb:=(Hp.1 (Lp.H9 e1).1)
  refine .inr ⟨x,v,by rw[e1];exact Li hL.sok h1 h2 h3,e2,h1,h2,fun k=> ?_,hb.1,hb.2⟩
  have:=Ol h3 (Nat.le_refl _) k
  exact this.mono (Nat.mul_le_mul_right _ (Cu hL.sok))

theorem Eu {s:Str} {l:List Int} (h:lOk s l=true):gL s.js l=true:=by
 unfold lOk at h
 rw[Bool.and_eq_true] at h
 exact h.2
theorem Ic (s:Str) (D:Nat→Rat):stQ (iU s D)=cZ (iU s D):=by unfold stQ;rw[if_pos (vG s D)]
theorem O4 {s:Str} {D:Nat→Rat} {v:Int} {M:Nat} (h:Dcm s D v M) (hs:SOk s):xE (cZ (iU s D)) 1048576:=Af h.ok (by have:=hs.nm;simp;omega)

def dTS (s:SP) (b:Bool):D:= .t [.a (dS s),.c (.bool b)]
def aMW (k:Nat) (s:SP):SP:=⟨mkR k s.lo,mkR (Sz k s.lo) s.hi,s.nl,s.nh⟩
theorem G9 (n:Int) (hn: -9223372036854775808≤n∧n≤9223372036854775807):NW Tryz.prog 26 [.int .i64 n] (.a (dR (ro (some (n:Rat))))):=by
 refine jQ Tryz.func26 rfl rfl (by rw[Tryz.ntmps26];simp) fun bl=> ?_
 rw[Tryz.ntmps26,Tryz.results26]
 refine aC ?_
 simp
 intro g2 hg2 hb2
 refine aD (eO n hn) ?_
 simp
 refine iZ (uJ (some (n:Rat)) (fun p hp=>by cases hp;exact fits_int (by omega))) fun v gs b o f fr=> ?_
 obtain⟨vm,vd,ga,gb,rfl,rfl,hd,om,od⟩:=zO.1 o
 obtain⟨c1,c2⟩:=om.one
 obtain⟨d1,d2⟩:=od.one
 have e1: ∀x,x∈ga++gb→x≠g2∧bl x=none:=fun x hx=>by have:=f x hx;simp only[aA] at this;split at this<;>simp_all
 have n2:b g2=some ⟨3,[[.bool false,.nils,.nils]]⟩:=eL f fr (by simp)
 have hs:Sub bl b:=fun x y hy=>by
  have z2:x≠g2:=fun h=>by rw[h,hb2] at hy;cases hy
  exact eL f fr (by simp[aA,z2,hy])
 simp[n2,c1,d1]
 refine fA [.agg [.bool (ro (some (n:Rat))).neg,vm,vd]] (ga++gb) (by simp[c1,d1]) ?_ (fun x hx=>(e1 x hx).2) (hs.upd hb2 _)
 refine zO.2 ⟨vm,vd,ga,gb,rfl,rfl,hd,om.frame fun x hx=> ?_,od.frame fun x hx=> ?_⟩
 ·simp[aA,(e1 x (List.mem_append_left _ hx)).1]
 ·simp[aA,(e1 x (List.mem_append_right _ hx)).1]

theorem iR (n:Int) (hn: -9223372036854775808≤n∧n≤9223372036854775807):RO Tryz.prog 26 [.int .i64 n] (.agg (ro (some (n:Rat))).c):=by
 have:=eK 2 (G9 n hn) (U3 _ 0)
 rwa [show(D.a (dR (ro (some (n:Rat))))).fz= .agg (ro (some (n:Rat))).c by simp[D.fz,dR,D.fzL,RT.c]] at this
theorem Mt {s:Str} {l:List Int} (hl:lOk s l=true):bZ (mG s l)=xI s l:=by
 rcases yR hl with ⟨e1,e2⟩| ⟨x,v,e1,e2,_⟩
 ·rw[e1,e2];rfl
 ·rw[e1,e2];exact vG _ _

theorem Jq (a b:Rat):stQ [some a,some b]= [ro (some a),ro (some b)]:=rfl
theorem Pd :stQ [none]= []:=rfl
def rcX (s:Str) (l:List Int) (D:Nat→Rat) (n:Nat):RT:=ro (some (rX s l D n))
def rcY (s:Str) (l:List Int) (D:Nat→Rat) (n:Nat):RT:=ro (some (rY s l D n))
def rcM (s:Str) (l:List Int) (D:Nat→Rat) (n:Nat):RT:=ro (some (rM s l D n))
theorem law_Reactions_ro (bs:List Int) (hn:bs.length≤140737488351232) (hbs: ∀x,x∈bs→0≤x∧x<256):RO Tryz.prog 5 [.sl (bv bs)] (.bool true):=by
 refine aK Tryz.func5 rfl rfl (by rw[Tryz.ntmps5];simp) fun bl=> ?_
 rw[Tryz.ntmps5,Tryz.results5]
 refine aE ?_
 simp
 refine aE ?_
 simp
 refine⟨fun h=> ?_,fun h=> ?_⟩
 ·exact aR (by simp) rfl rfl
 refine aE ?_
 simp
 refine J3 bs (by omega) hbs fun s l b1 ql h3 hl8 hb1=> ?_
 have qs:sOk s=true:=U2 ql
 have hs:=B4 qs
 have hL:=jE ql
 have hsz:=aBJ qs
 have hnj:=hs.nj
 have hnm:=hs.nm
 have hll:=(K6 (Eu ql)).1
 simp[Str.c]
 intro g3 hg3 hb3
 have aDX:bl g3=none:=dA hb1 hb3
 refine dJ 1 3 (.ptr s.c) bl (hb1.upd aDX _) (by simp[frz,dropB,aDX,Str.c,V.cl]) ?_
 refine gG [(3,.ptr s.c),(4,.sl (iv l))] 137 bl ⟨rfl,by simp[Str.c],Sub.refl _⟩ ?_
 clear hb1 hb3
 refine aE ?_
 simp
 refine aV [(3,.ptr s.c),(4,.sl (iv l))] _ bl 32 (.bool false) ⟨rfl,by simp[Str.c],Sub.refl _⟩ rfl ?_ ?_
 ·simp[Str.c]
  refine aD (eS s l (by omega) (by omega) hsz.nm (by omega)) ?_
  simp[ql]
  refine aD (fB s (by omega) (by omega) hsz.nm) ?_
  simp[qs]
 have hD:=nZ s l hsz (by omega)
 rw[Mt ql] at hD
 have hC:=rK s l hsz (by omega)
 have hT:=tN s l hsz (by omega)
 have hM:=rO s l 0 0 hsz (by omega)
 rw[show Fb s l=sumX l s.js.length by unfold Fb;rw[if_pos ql],show Hk s l=oC l s.js.length by unfold Hk;rw[if_pos ql]] at hT
 rw[show D6 s l 0 0=gH s l 0 0 s.js.length by unfold D6 G7;rw[ql];rfl] at hM
 simp
 refine aE ?_
 simp[Str.c]
 refine aD hD ?_
 simp
 refine gG [(3,.ptr s.c),(4,.sl (iv l)),(5,.sl (rv (stQ (mG s l)))),(6,.bool (xI s l))] 137 bl ⟨rfl,by simp[Str.c],Sub.refl _⟩ ?_
 rcases yR ql with ⟨_,e2⟩| ⟨x,v,ex,e2,dx⟩
 ·rw[e2] at hC ⊢
  refine aE ?_
  simp[Str.c]
  refine aD hC ?_
  simp
  exact aR (by simp) rfl rfl
 rw[ex,Ic,e2]
 have hd:=dx.dcm
 have hb:=dx.bal
 generalize dD s x=D at *
 have hx0:rX s l D 0=((sumX l s.js.length:Int):Rat):=by unfold rX;rw[Lp.S];grind
 have hy0:rY s l D 0=((oC l s.js.length:Int):Rat):=by unfold rY;rw[Lp.S];grind
 have hm0:rM s l D 0=((gH s l 0 0 s.js.length:Int):Rat):=by unfold rM;rw[Lp.S];grind
 have bX:=uE hL s.js.length (Nat.le_refl _)
 have bY:=tY hL s.js.length (Nat.le_refl _)
 have bM:=rL hL s.js.length (Nat.le_refl _)
 have hX:=iR (sumX l s.js.length) (by omega)
 have hY:=iR (oC l s.js.length) (by omega)
 have hO:=iR (gH s l 0 0 s.js.length) (by omega)
 rw[←hx0,show(ro (some (rX s l D 0)))=rcX s l D 0 from rfl] at hX
 rw[←hy0,show(ro (some (rY s l D 0)))=rcY s l D 0 from rfl] at hY
 rw[←hm0,show(ro (some (rM s l D 0)))=rcM s l D 0 from rfl] at hO
 have rl: ∀r:RT,r.c.length=3:=fun r=>rfl
 have r1: ∀r:RT,∀x∈r.c,x.one=true:=fun r x hx=>by simp[RT.c] at hx;rcases hx with rfl | rfl | rfl<;>rfl
 have rt: ∀r:RT,List.take 3 r.c=r.c:=fun r=>rfl
 have rsp: ∀a b:RT,splice a.c 0 b.c=b.c:=fun a b=>rfl
 refine aE ?_
 simp
 refine aE ?_
 simp[Str.c]
 refine aD hT ?_
 simp
 refine aE ?_
 simp
 refine aD hX ?_
 simp[rl,rt]
 intro g9 hg9 hb9
 refine⟨r1 _,?_⟩
 refine aE ?_
 simp
 refine aD hY ?_
 simp[rl,rt]
 intro g10 aJS iK tP
 refine⟨r1 _,?_⟩
 refine aE ?_
 simp[hb9,tP,Ne.symm iK,iK]
 refine aD hM ?_
 simp
 refine aD hO ?_
 simp[rl,rt]
 intro g11 aM5 eH iV aL9
 refine⟨r1 _,?_⟩
 refine aC ?_
 simp[Str.c]
 have hRv:xE (cZ (iU s D)) 1048576:=O4 hd hs
 refine aP (fun i:Nat=> [(3,.ptr s.c),(4,.sl (iv l)),(5,.sl (rv (cZ (iU s D)))),(9,.loc g9 3 0 0),(10,.loc g10 3 0 0),(11,.loc g11 3 0 0),(60,.sl (jv s.js)),(61,.int .i64 s.js.length),(62,.int .i64 i)])
  (fun i=>upd (upd (upd bl g9 (some ⟨3,[(rcX s l D i).c]⟩)) g10 (some ⟨3,[(rcY s l D i).c]⟩)) g11 (some ⟨3,[(rcM s l D i).c]⟩)) (fun i=>i≤s.js.length) (fun i=>s.js.length - i) _ 0 (Nat.zero_le _) ⟨rfl,by simp[Str.c],Sub.refl _⟩ ?_
 intro i hi
 have eM:=Ne.symm iV
 have cO:=Ne.symm eH
 have eP:=Ne.symm iK
 refine aC ?_
 simp
 refine⟨fun h1=> ?_,fun h1=> ?_⟩
 ·have hRe:=pD s l (cZ (iU s D)) i (by omega) (by omega) hsz.nm (by omega) hRv
  have hfx:(s.js[i]).fixed=kL s i:=by unfold kL;rw[List.getD_eq_getElem?_getD,List.getElem?_eq_getElem h1];rfl
  have hjx:(((s.js[i]).x:Int):Rat)=gX s i:=by unfold gX;rw[qT h1]
  have hjy:(((s.js[i]).y:Int):Rat)=gY s i:=by unfold gY;rw[qT h1]
  have hxy:=Rd hs h1
  rw[qT h1] at hxy
  simp[h1,J.c]
  generalize s.js[i]=jt at *
  intro gj hgj e1 e2 e3 hbj
  have e1':=Ne.symm e1
  have e2':=Ne.symm e2
  have e3':=Ne.symm e3
  simp[Str.c]
  refine aD hRe ?_
  cases hfj:kL s i
  ·rw[Bf hfj,Pd]
   rw[hfj] at hfx
   simp[bZ]
   refine aC ?_
   simp[e1,e2,e3]
   refine aV [(3,.ptr s.c),(4,.sl (iv l)),(5,.sl (rv (cZ (iU s D)))),(9,.loc g9 3 0 0),(10,.loc g10 3 0 0),(11,.loc g11 3 0 0),(60,.sl (jv s.js)),(61,.int .i64 s.js.length),(62,.int .i64 i),(13,.loc gj 4 0 0),(14,.sl (rv [])),(15,.bool false)] _
    (upd (upd (upd (upd bl g9 (some ⟨3,[(rcX s l D i).c]⟩)) g10 (some ⟨3,[(rcY s l D i).c]⟩)) g11 (some ⟨3,[(rcM s l D i).c]⟩)) gj (some ⟨4,[[.str jt.name,.int .i64 jt.x,.int .i64 jt.y,.bool jt.fixed]]⟩)) 86 (.bool false) ⟨rfl,by simp[Str.c],Sub.refl _⟩ rfl ?_ ?_
   ·simp[hfx]
   have wi:IntKind.i64.wrap ((i:Int)+1)=i+1:=i64_in (by omega) (by omega)
   simp[wi,aB]
   refine⟨i+1,by omega,by omega,rfl,by simp[Str.c],?_⟩
   have k1:rcX s l D (i+1)=rcX s l D i:=by unfold rcX rX;rw[Lp.S,if_neg (by rw[hfj];exact Bool.false_ne_true),Rat.add_zero]
   have k2:rcY s l D (i+1)=rcY s l D i:=by unfold rcY rY;rw[Lp.S,if_neg (by rw[hfj];exact Bool.false_ne_true),Rat.add_zero]
   have k3:rcM s l D (i+1)=rcM s l D i:=by unfold rcM rM;rw[Lp.S,if_neg (by rw[hfj];exact Bool.false_ne_true),Rat.add_zero]
   rw[k1,k2,k3]
   exact Sub.upd (Sub.refl _) (by simp[e1,e2,e3,hbj]) _
  ·rw[Im ql hd h1 hfj,Jq]
   rw[hfj] at hfx
   simp[bZ]
   refine aC ?_
   simp[e1,e2,e3]
   refine aV [(3,.ptr s.c),(4,.sl (iv l)),(5,.sl (rv (cZ (iU s D)))),(9,.loc g9 3 0 0),(10,.loc g10 3 0 0),(11,.loc g11 3 0 0),(60,.sl (jv s.js)),(61,.int .i64 s.js.length),(62,.int .i64 i),(13,.loc gj 4 0 0),(14,.sl (rv [ro (some (-WX s l D i)),ro (some (-WY s l D i))])),(15,.bool true)] _
    (upd (upd (upd (upd bl g9 (some ⟨3,[(rcX s l D i).c]⟩)) g10 (some ⟨3,[(rcY s l D i).c]⟩)) g11 (some ⟨3,[(rcM s l D i).c]⟩)) gj (some ⟨4,[[.str jt.name,.int .i64 jt.x,.int .i64 jt.y,.bool jt.fixed]]⟩)) 86 (.bool false) ⟨rfl,by simp[Str.c],Sub.refl _⟩ rfl ?_ ?_
   ·simp[hfx]
   have f1:rX s l D (i+1)=rX s l D i+ -WX s l D i:=by unfold rX;rw[Lp.S,if_pos hfj];grind
   have f2:rY s l D (i+1)=rY s l D i+ -WY s l D i:=by unfold rY;rw[Lp.S,if_pos hfj];grind
   have f3:rM s l D (i+1)=rM s l D i+(gX s i* -WY s l D i - gY s i* -WX s l D i):=by unfold rM;rw[Lp.S,if_pos hfj];grind
   obtain⟨c1,c2⟩:=Fx hL hd (n:=i) (by omega)
   obtain⟨c3,c4⟩:=Fx hL hd (n:=i+1) (by omega)
   have c5:=Of hL hd (n:=i) (by omega)
   have c6:=Of hL hd (n:=i+1) (by omega)
   obtain⟨c7,c8⟩:=W8 hL hd h1
   obtain⟨c9,c10⟩:=yY hL hd i
   have ft: ∀ {M:Nat} {q:Rat},cmN v (M*cV) q→M≤100000000→fits q:=fun h hm=>h.fits hd.v0 hd.vl hm
   have fX:=pI (some (rX s l D i)) (some (-WX s l D i)) (okS (ft c1 (by decide))) (okS (ft c9.neg (by decide)))
   rw[iE (by rw[←f1];exact ft c3 (by decide)),←f1] at fX
   have fY:=pI (some (rY s l D i)) (some (-WY s l D i)) (okS (ft c2 (by decide))) (okS (ft c10.neg (by decide)))
   rw[iE (by rw[←f2];exact ft c4 (by decide)),←f2] at fY
   have gx:=iR jt.x (by omega)
   have gy:=iR jt.y (by omega)
   rw[hjx] at gx
   rw[hjy] at gy
   have okx:okQ (some (gX s i)):=by rw[←hjx];exact okS (fits_int (by omega))
   have oky:okQ (some (gY s i)):=by rw[←hjy];exact okS (fits_int (by omega))
   have mX:=vW (some (gX s i)) (some (-WY s l D i)) okx (okS (ft c10.neg (by decide)))
   rw[iE (ft c7 (by decide))] at mX
   have mY:=vW (some (gY s i)) (some (-WX s l D i)) oky (okS (ft c9.neg (by decide)))
   rw[iE (ft c8 (by decide))] at mY
   have c78:cmN v (1300000*cV) (gX s i* -WY s l D i - gY s i* -WX s l D i):=(c7.sub c8).mono (by omega)
   have mS:=Q7 (some (gX s i* -WY s l D i)) (some (gY s i* -WX s l D i)) (okS (ft c7 (by decide))) (okS (ft c8 (by decide)))
   rw[iE (ft c78 (by decide))] at mS
   have mA:=pI (some (rM s l D i)) (some (gX s i* -WY s l D i - gY s i* -WX s l D i)) (okS (ft c5 (by decide))) (okS (ft c78 (by decide)))
   rw[iE (by rw[←f3];exact ft c6 (by decide)),←f3] at mA
   rw[show ro (some (rX s l D i))=rcX s l D i from rfl,show ro (some (rX s l D (i+1)))=rcX s l D (i+1) from rfl] at fX
   rw[show ro (some (rY s l D i))=rcY s l D i from rfl,show ro (some (rY s l D (i+1)))=rcY s l D (i+1) from rfl] at fY
   rw[show ro (some (rM s l D i))=rcM s l D i from rfl,show ro (some (rM s l D (i+1)))=rcM s l D (i+1) from rfl] at mA
   generalize ro (some (gX s i* -WY s l D i - gY s i* -WX s l D i))=r5 at *
   generalize ro (some (gX s i* -WY s l D i))=r3 at *
   generalize ro (some (gY s i* -WX s l D i))=r4 at *
   generalize ro (some (gX s i))=r6 at *
   generalize ro (some (gY s i))=r7 at *
   generalize ro (some (-WX s l D i))=r1x at *
   generalize ro (some (-WY s l D i))=r2y at *
   generalize kX:rcX s l D (i+1)=x1 at *
   generalize kY:rcY s l D (i+1)=y1 at *
   generalize kM:rcM s l D (i+1)=m1 at *
   generalize rcX s l D i=x0 at *
   generalize rcY s l D i=y0 at *
   generalize rcM s l D i=m0 at *
   have rv2:rv [r1x,r2y]= [r1x.c,r2y.c]:=rfl
   simp
   refine cD aN [0,1,2,3,4] 1 5 (by kernel_rfl) ?_
   simp[e1,e2,e3,e1',e2',e3',iV,eH,iK,eM,cO,eP,rl,rt,rsp,rv2]
   refine aG fX ?_
   simp[e1,e2,e3,e1',e2',e3',iV,eH,iK,eM,cO,eP,rl,rt,rsp,rv2]
   refine bO (i:=5) (by kernel_rfl) rfl rfl rfl ?_
   simp[e1,e2,e3,e1',e2',e3',iV,eH,iK,eM,cO,eP,rl,rt,rsp,rv2]
   refine⟨r1 _,?_⟩
   refine Dy ?_
   simp[e1,e2,e3,e1',e2',e3',iV,eH,iK,eM,cO,eP,rl,rt,rsp,rv2]
   refine gG [(3,.ptr s.c),(4,.sl (iv l)),(5,.sl (rv (cZ (iU s D)))),(9,.loc g9 3 0 0),(10,.loc g10 3 0 0),(11,.loc g11 3 0 0),(60,.sl (jv s.js)),(61,.int .i64 s.js.length),(62,.int .i64 i),(13,.loc gj 4 0 0),(14,.sl [r1x.c,r2y.c])] 137 (upd (upd (upd (upd bl g9 (some ⟨3,[x1.c]⟩)) g10 (some ⟨3,[y0.c]⟩)) g11 (some ⟨3,[m0.c]⟩)) gj (some ⟨4,[[.str jt.name,.int .i64 jt.x,.int .i64 jt.y,.bool jt.fixed]]⟩)) ⟨rfl,by simp[Str.c],by intro z y hz;simp only[aA] at hz ⊢;grind⟩ ?_
   refine cD aN [0,1,2,3,4] 1 5 (by kernel_rfl) ?_
   simp[e1,e2,e3,e1',e2',e3',iV,eH,iK,eM,cO,eP,rl,rt,rsp,rv2]
   refine aG fY ?_
   simp[e1,e2,e3,e1',e2',e3',iV,eH,iK,eM,cO,eP,rl,rt,rsp,rv2]
   refine bO (i:=5) (by kernel_rfl) rfl rfl rfl ?_
   simp[e1,e2,e3,e1',e2',e3',iV,eH,iK,eM,cO,eP,rl,rt,rsp,rv2]
   refine⟨r1 _,?_⟩
   refine Dy ?_
   simp[e1,e2,e3,e1',e2',e3',iV,eH,iK,eM,cO,eP,rl,rt,rsp,rv2]
   refine gG [(3,.ptr s.c),(4,.sl (iv l)),(5,.sl (rv (cZ (iU s D)))),(9,.loc g9 3 0 0),(10,.loc g10 3 0 0),(11,.loc g11 3 0 0),(60,.sl (jv s.js)),(61,.int .i64 s.js.length),(62,.int .i64 i),(13,.loc gj 4 0 0),(14,.sl [r1x.c,r2y.c])] 137 (upd (upd (upd (upd bl g9 (some ⟨3,[x1.c]⟩)) g10 (some ⟨3,[y1.c]⟩)) g11 (some ⟨3,[m0.c]⟩)) gj (some ⟨4,[[.str jt.name,.int .i64 jt.x,.int .i64 jt.y,.bool jt.fixed]]⟩)) ⟨rfl,by simp[Str.c],by intro z y hz;simp only[aA] at hz ⊢;grind⟩ ?_
   refine cD aN [0,1,2,3,4,5,6,7,8,9,10,11,12,13,14,15,16] 1 17 (by kernel_rfl) ?_
   simp[e1,e2,e3,e1',e2',e3',iV,eH,iK,eM,cO,eP,rl,rt,rsp,rv2]
   refine aG gx ?_
   simp[e1,e2,e3,e1',e2',e3',iV,eH,iK,eM,cO,eP,rl,rt,rsp,rv2]
   refine aG mX ?_
   simp[e1,e2,e3,e1',e2',e3',iV,eH,iK,eM,cO,eP,rl,rt,rsp,rv2]
   refine aG gy ?_
   simp[e1,e2,e3,e1',e2',e3',iV,eH,iK,eM,cO,eP,rl,rt,rsp,rv2]
   refine aG mY ?_
   simp[e1,e2,e3,e1',e2',e3',iV,eH,iK,eM,cO,eP,rl,rt,rsp,rv2]
   refine aG mS ?_
   simp[e1,e2,e3,e1',e2',e3',iV,eH,iK,eM,cO,eP,rl,rt,rsp,rv2]
   refine aG mA ?_
   simp[e1,e2,e3,e1',e2',e3',iV,eH,iK,eM,cO,eP,rl,rt,rsp,rv2]
   refine bO (i:=17) (by kernel_rfl) rfl rfl rfl ?_
   simp[e1,e2,e3,e1',e2',e3',iV,eH,iK,eM,cO,eP,rl,rt,rsp,rv2]
   refine⟨r1 _,?_⟩
   refine Dy ?_
   simp[e1,e2,e3,e1',e2',e3',iV,eH,iK,eM,cO,eP,rl,rt,rsp,rv2]
   have wi:IntKind.i64.wrap ((i:Int)+1)=i+1:=i64_in (by omega) (by omega)
   simp only[aB]
   refine⟨i+1,by omega,by omega,rfl,by simp[wi,Str.c],?_⟩
   rw[kX,kY,kM]
   intro z y hz
   simp only[aA] at hz ⊢
   grind
 ·have hin:i=s.js.length:=by omega
  subst hin
  have kX:rcX s l D s.js.length=ro (some 0):=by unfold rcX;rw[Po hs hb]
  have kY:rcY s l D s.js.length=ro (some 0):=by unfold rcY;rw[So hs hb]
  have kM:rcM s l D s.js.length=ro (some 0):=by unfold rcM;rw[Sg hs hb]
  rw[kX,kY,kM]
  have ok0:okQ (some (0:Rat)):=okS (fits_int (n:=0) (by decide))
  have hS:=D8 (some 0) ok0
  have hle:=ro_le ok0
  have hOk:=oM (ro (some 0)) (by omega) (by omega)
  rw[aFJ ok0] at hOk
  generalize ro (some 0)=r0 at *
  refine aV [(9,.loc g9 3 0 0),(10,.loc g10 3 0 0),(11,.loc g11 3 0 0)] _ _ 2 (.bool true) ⟨rfl,by simp[Str.c],Sub.refl _⟩ rfl ?_ ?_
  ·simp[iV,eH,iK,eM,cO,eP,rl,rt]
   refine aD hOk ?_
   simp[iV,eH,iK,eM,cO,eP,rl,rt]
   refine aD hS ?_
   simp[iV,eH,iK,eM,cO,eP,rl,rt,sgq]
   refine aD hS ?_
   simp[iV,eH,iK,eM,cO,eP,rl,rt,sgq]
   refine aD hS ?_
   simp[iV,eH,iK,eM,cO,eP,rl,rt,sgq]
   refine aD hOk ?_
   simp[iV,eH,iK,eM,cO,eP,rl,rt]
  simp
  exact aQ [.bool true] 0 (by simp) (by simp[frz]) (by intro z y hz;simp only[aA];grind)
end Go.Proofs.YticmgmemnpcbbaaGreat.Vm

namespace Go.Proofs.YticmgmemnpcbbaaGreat.lawReactions
open Go Go.RowKit Go.ChangeShapes Go.WideShapes Vm
theorem body (xs:List V) (h:pM Tryz.prog Tryz.f5.params.toList xs):RO Tryz.prog 5 xs (.bool true):=by
 rw[Tryz.params5] at h
 obtain⟨c0,ys,rfl,h0,h⟩:=Aw h
 obtain rfl:=Ig h
 obtain⟨b0,rfl,y0,z0⟩:=Ef h0
 rw[Bu Tryz.underlying22]
 exact law_Reactions_ro b0 y0 z0
set_option maxRecDepth 100000 in
theorem lifted (os:Os) (started:os.Started) (H:Type) (enc:TypeId×Value→H):
  ReturnsInHanded {} Tryz.checked os 5 .any (Rows.fnReactionsSpec.pre6 enc Tryz.prog Tryz.f5 Rows.fnReactionsRow.domain false) (Rows.fnReactionsSpec.post enc Tryz.prog Tryz.f5 false true false false):=by
 refine returnsInHanded_of_change_sized (C:=Tryz.checked) own started (by kernel_rfl) Tryz.func5
  (ChangeSpec.witness6 (enc:=enc) (C:=Tryz.checked) false ⟨#[], #[.slice none 0 0],[]⟩ 8 (by kernel_rfl) (by kernel_rfl) (by kernel_rfl) (by kernel_rfl)) ?_
 intro W base args ds gs before Ii hW aMJ hsz _
 refine law_calls (tb:=4) rfl rfl Tryz.underlying4 laidOut (by kernel_rfl) (fun ds hds=> ?_) body W base args ds gs before Ii hW hsz
 rw[Tryz.params5] at hds
 first
  | (match ds, hds with | [a], _ => rfl)
  | (match ds, hds with | [a, b], _ => rfl)
  | (match ds, hds with | [a, b, c], _ => rfl)
  | (match ds, hds with | [a, b, c, d], _ => rfl)
  | (match ds, hds with | [a, b, c, d, e], _ => rfl)
  | (match ds, hds with | [a, b, c, d, e, f], _ => rfl)
theorem Yx :Rows.fnReactionsRow.holds Tryz.pinned (OpenSpec.ofChange Rows.fnReactionsSpec):=
 OpenClaim.holds_of_wide 5 Tryz.f5 rfl rfl rfl rfl rfl rfl rfl ⟨rfl,rfl,rfl,rfl,rfl⟩ rfl rfl rfl rfl rfl (by kernel_rfl) Tryz.func5 (facts (by kernel_rfl))
  (of_decide_eq_true (by kernel_rfl)) (by unfold Func.isWrapper;first | (rw[if_pos (by decide+kernel)];kernel_rfl)| (rw[if_neg (by decide+kernel)];exact⟨rfl,rfl⟩))
  (fun os started H enc _=>lifted os started H enc)
theorem proved :Rows.FnReactionsSaid:=Yx
#print axioms proved
end Go.Proofs.YticmgmemnpcbbaaGreat.lawReactions
