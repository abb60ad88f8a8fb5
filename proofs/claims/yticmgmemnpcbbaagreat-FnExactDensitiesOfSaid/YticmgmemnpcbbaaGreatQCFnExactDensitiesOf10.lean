/- FnExactDensitiesOf: for every structure and list of numbers the program's DensitiesOf returns what the reference's returns; no condition. -/



import Derived.Test.YticmgmemnpcbbaaGreatQCFnExactDensitiesOf9

namespace Go.Proofs.YticmgmemnpcbbaaGreat.Vm
open Go Go.RowKit Go.Proofs
set_option linter.unusedSimpArgs false
set_option linter.unusedVariables false
def okA (n:Nat):Nat→Bool:=fun c=>decide (c<n)
def oA (n m:Nat):Nat→Int:=fun c=>if n≤c∧c<n+m then -1 else 0
theorem Mq (n m:Nat):wO (oA n m)=Lp.aZ n m:=by
 funext c
 unfold wO oA Lp.aZ
 split<;>rfl
def tbA (p:Pg) (n m i:Nat) (fr:Nat→Bool):TN:=⟨i,n+m,eZ p n m,1,fun q=>n+q,fr⟩
theorem Ob (N:Nat):List.replicate N [V.bool false]=lv N fun _=>false:=by
 unfold lv
 rw[List.map_const',List.length_range]
theorem Y1 (N:Nat):List.replicate N [V.int .i64 0]=iv (lz N fun _=>0):=by
 simp[iv,lz,List.map_const']
theorem Nh {N k:Nat} (f:Nat→Int) (v:Int) (h:k<N):(iv (lz N f)).set k [.int .i64 v]=iv (lz N fun c=>if c=k then v else f c):=by
 apply List.ext_getElem
 ·simp
 ·intro j h1 h2
  rw[List.getElem_set,nU,nU,yZ,yZ]
  by_cases e:k=j
  ·rw[if_pos e,if_pos e.symm]
  ·rw[if_neg e,if_neg (Ne.symm e)]
theorem C0 {N:Nat} {f g:Nat→Int} (h: ∀c,c<N→f c=g c):lz N f=lz N g:=List.map_congr_left fun c hc=>by rw[h c (by simpa using hc)]
theorem qI {N:Nat} {f g:Nat→Bool} (h: ∀c,c<N→f c=g c):lv N f=lv N g:=List.map_congr_left fun c hc=>by rw[h c (by simpa using hc)]
theorem TT.first {b:Int→Option Blk} {g:TG} {p:Pg} {n m:Nat} {fr:Nat→Bool} (h:PgN p n m) (ht:TT b g (tbA p n m m fr)):TT b g (bV n m (eQ p n m) (List.range m) (Lp.kR n (eQ p n m)) fr):=by
 have hr:(List.range m).length=m:=by simp
 have hd:=dz0 h
 have hb:lb m (fun q=>(Lp.kR n (eQ p n m)).bs (atR (List.range m) q))=lb m fun q=>n+q:=List.map_congr_left fun q hq=>by
  have hq':q<m:=by simpa using hq
  simp only[dE hq'];rfl
 refine⟨?_,?_,?_,ht.fre,ht.pT,?_,?_,ht.pF,ht.nd⟩
 ·have:=ht.fE.congr (Z':=fun q c=>Lp.zt m (eQ p n m) (Lp.kR n (eQ p n m)) (atR (List.range m) q) c) fun q c hq _=>by
   simp only[tbA] at hq ⊢
   rw[dE hq,zt0 h]
  simp only[bV]
  rw[hr];exact this
 ·have e:=ht.hd
  simp only[tbA] at e
  simp only[bV,hd,hr]
  exact e
 ·simp only[bV];rw[hr,hb];exact ht.ba
 ·simp only[bV];rw[hr];exact ht.pR
 ·simp only[bV];rw[hr];exact ht.pB
structure aHY where
 i:Nat
 g:TG
 b:Int→Option Blk
theorem Sj {bl:Int→Option Blk} {K:V→(Int→Option Blk)→Prop} (p:Pg) (n m:Nat) (h:PgN p n m)
  (hN: ∀b' t,Lp.qH n m (n+m+1) 1000 (eQ p n m) t→Lp.rc m (Lp.aZ n m) t (n+m)≠0→Sub bl b'→K (.tup [.nilp,.bool false]) b')
  (hS: ∀b' g t,Lp.qH n m (n+m+1) 1000 (eQ p n m) t→Lp.rc m (Lp.aZ n m) t (n+m)=0→TT b' g (bV n m (eQ p n m) (Lp.bE n (Lp.kicks n t m) m) (Lp.kicks n t m) (okA n))→(∀x,x∈g.all→bl x=none)→Sub bl b'→K (.tup [.loc g.T 6 0 0,.bool true]) b'):
  bY Tryz.prog 126 [.ptr p.v] bl K:=by
 have hml:=h.ml
 have hnl:=h.nl
 have wnm:IntKind.i64.wrap ((n:Int)+(m:Int))=((n+m:Nat):Int):=by rw[i64_in (by omega) (by omega)];simp
 have hint: ∀z:Int,z.natAbs≤1000→RO Tryz.prog 160 [.int .i64 z] (.agg (biC z)):=fun z hz=>sN z (by omega)
 refine cJ Tryz.func126 rfl rfl (by rw[Tryz.ntmps126];simp) ?_
 rw[Tryz.ntmps126,Tryz.results126]
 refine aB ?_
 simp
 refine bU aM (by kernel_rfl) ?_
 simp[Pg.v,h.rows,h.aS]
 rw[wnm]
 obtain⟨N,hN0⟩: ∃N,n+m=N:=⟨_,rfl⟩
 rw[hN0]
 refine aB ?_
 simp
 refine aW aM bl (Sub.refl _) [0,1,2] 4 (by kernel_rfl) ?_
 simp
 refine aN (hint 1 (by decide)) ?_
 simp
 refine Dz 3 ?_
 simp
 refine⟨by omega,by unfold maxLen;omega,fun gF hgF hbF=> ?_⟩
 have sF:Sub bl (upd bl gF (some ⟨1,List.replicate N [.bool false]⟩)):=by simp[hbF]
 refine⟨sF,Dz 4 ?_⟩
 simp
 refine⟨sF,Dz 5 ?_⟩
 simp
 intro gT hgT hTF hbT
 refine⟨by simp[hbF,hbT,hTF],Dz 6 ?_⟩
 simp
 refine⟨by simp[hbF,hbT,hTF],Dy ?_⟩
 simp
 obtain⟨b0,hb0⟩: ∃b0,b0=upd (upd bl gF (some ⟨1,List.replicate N [.bool false]⟩)) gT (some ⟨6,[[.nils,.bool false,.sl (iv (lim 1)),.nils,.int .i64 N,.lsl gF 1 0 N]]⟩):=⟨_,rfl⟩
 have b0T:b0 gT=some ⟨6,[[.nils,.bool false,.sl (iv (lim 1)),.nils,.int .i64 N,.lsl gF 1 0 N]]⟩:=by rw[hb0];simp[bO]
 have b0F:b0 gF=some ⟨1,lv N fun _=>false⟩:=by rw[hb0];simp[Ne.symm hTF,Ob]
 have s0:Sub bl b0:=by rw[hb0];simp[hbF,hbT,hTF]
 refine fG [(0,.ptr p.v),(4,.int .i64 N),(5,.loc gT 6 0 0),(34,.int .i64 m),(35,.int .i64 0)] 205 b0 ⟨rfl,by simp[Pg.v,h.rows,h.aS],by rw[hb0];exact sub_eq (by simp[bO])⟩ ?_
 clear hb0
 refine cQ (g:=gT) (s:=6) 0 0 1 b0T rfl rfl fun gR hgR hRT=> ?_
 have hgR:b0 gR=none:=hgR
 have hRF:gR≠gF:=fun e=>by rw[e,b0F] at hgR;cases hgR
 have b0R:bl gR=none:=by
  cases hv:bl gR with
  | none => rfl
  | some y => have := s0 gR y hv; rw [hgR] at this; cases this
 refine cQ (g:=gT) (s:=6) (els:= [[.lsl gR 1 0 0,.bool false,.sl (iv (lim 1)),.nils,.int .i64 N,.lsl gF 1 0 N]]) 0 3 1 (by simp[Ne.symm hRT]) rfl rfl fun gB hgB hBT=> ?_
 simp[hBT] at hgB
 obtain⟨hBR,hgB⟩:=hgB
 have hBF:gB≠gF:=fun e=>by rw[e,b0F] at hgB;cases hgB
 have b0B:bl gB=none:=by
  cases hv:bl gB with
  | none => rfl
  | some y => have := s0 gB y hv; rw [hgB] at this; cases this
 obtain⟨b1,hb1⟩: ∃b1,b1=upd (upd (upd (upd b0 gT (some ⟨6,[[.lsl gR 1 0 0,.bool false,.sl (iv (lim 1)),.nils,.int .i64 N,.lsl gF 1 0 N]]⟩)) gR (some ⟨1,[]⟩)) gT (some ⟨6,[[.lsl gR 1 0 0,.bool false,.sl (iv (lim 1)),.lsl gB 1 0 0,.int .i64 N,.lsl gF 1 0 N]]⟩)) gB (some ⟨1,[]⟩):=⟨_,rfl⟩
 have t1:TT b1 ⟨gT,gR,gB,gF,[]⟩ (tbA p n m 0 (fun _=>false)):=by
  refine TT.start rfl ?_ ?_ ?_ ?_ hgT hgF ?_
  ·rw[hb1];simp[hRT,Ne.symm hBR]
  ·rw[hb1];simp
  ·rw[hb1];simp[Ne.symm hBT,Ne.symm hRT,tbA,hN0]
  ·rw[hb1];simp[Ne.symm hBF,Ne.symm hRF,Ne.symm hTF,tbA,hN0,b0F]
  ·simp;grind
 refine fG [(0,.ptr p.v),(4,.int .i64 N),(5,.loc gT 6 0 0),(34,.int .i64 m),(35,.int .i64 0)] 205 b1 ⟨rfl,by simp,by rw[hb1];exact sub_eq (by simp)⟩ ?_
 have s1:Sub bl b1:=by
  intro x y hx
  have:=s0 x y hx
  have x1:x≠gT:=fun e=>by rw[e,hbT] at hx;cases hx
  have x2:x≠gR:=fun e=>by rw[e,b0R] at hx;cases hx
  have x3:x≠gB:=fun e=>by rw[e,b0B] at hx;cases hx
  rw[hb1]
  simp[x1,x2,x3,this]
 clear hb1
 refine aG (fun q:aHY=> [(0,.ptr p.v),(4,.int .i64 N),(5,.loc gT 6 0 0),(34,.int .i64 m),(35,.int .i64 q.i)]) (fun q=>q.b) (fun q=>q.i≤m∧TT q.b q.g (tbA p n m q.i (fun _=>false))∧q.g.T=gT∧q.g.F=gF∧(∀x,x∈q.g.all→bl x=none)∧Sub bl q.b) (fun q=>m - q.i) _ ⟨0,⟨gT,gR,gB,gF,[]⟩,b1⟩ ⟨Nat.zero_le _,t1,rfl,rfl,by simp[TG.all,hbT,b0R,b0B,hbF],s1⟩ ⟨rfl,by simp,Sub.refl _⟩ ?_
 clear s1 t1 hgB hgR s0 b0T b0F
 clear b0R b0B hBT hBF hBR hRT hRF
 rintro⟨i,⟨gT',gR,gB,gF',ids⟩,b⟩ ⟨him,hTb,e1,e2,hal,hsb⟩
 simp only at e1 e2 him hTb hsb
 subst e1 e2
 have bT:b gT'=_:=hTb.hd
 have bB:b gB=_:=hTb.ba
 have bG:b gR=_:=hTb.fE.top
 have bF:b gF'=_:=hTb.fre
 have hil:=hTb.fE.len
 simp only[tbA] at bT bB bG bF hil
 rw[hN0] at bT bF bG
 have wi:IntKind.i64.wrap ((i:Int)+1)=(i:Int)+1:=i64_in (by omega) (by omega)
 obtain⟨N1,hN1⟩: ∃x,N+1=x:=⟨_,rfl⟩
 rw[hN1] at bG
 have wN:IntKind.i64.wrap ((N:Int)+1)=(N1:Int):=by rw[i64_in (by omega) (by omega)];omega
 refine aE ?_
 simp
 refine aE ?_
 simp
 refine⟨fun hi=> ?_,fun hi=> ?_⟩
 ·refine aO (aX ?_)
  refine aE ?_
  simp
  refine aE ?_
  simp[wN]
  refine⟨by omega,by unfold maxLen;omega,fun gr hgr hbr=> ?_⟩
  refine aI0 (g:=gr) (s:=2) (els:=List.replicate N1 [.bool false,.nils]) ?_ ?_
  ·simp
  rw[Tm]
  refine aE ?_
  simp
  have rT: ¬ gr=gT':=fun e=>by rw[e,bT] at hbr;cases hbr
  have rR: ¬ gr=gR:=fun e=>by rw[e,bG] at hbr;cases hbr
  have rB: ¬ gr=gB:=fun e=>by rw[e,bB] at hbr;cases hbr
  have rF: ¬ gr=gF':=fun e=>by rw[e,bF] at hbr;cases hbr
  have ri:gr∉ids:=fun hm2=>by
   obtain⟨q,hq⟩:=List.mem_iff_getElem?.1 hm2
   rw[hTb.fE.row q gr hq] at hbr;cases hbr
  have rbl:bl gr=none:=by
   cases hv:bl gr with
   | none => rfl
   | some y => have := hsb gr y hv; rw [hbr] at this; cases this
  refine iD (fun _:Unit=> [(0,.ptr p.v),(4,.int .i64 N),(5,.loc gT' 6 0 0),(34,.int .i64 m),(35,.int .i64 i),(6,.int .i64 i),(7,.lsl gr 2 0 N1),(8,.int .i64 (sgB p i))]) (fun _=>upd b gr (some ⟨2,zv N1 fun _=>0⟩)) (fun _=>True) 205 ?_ ?_
  ·refine aB ?_
   simp[Pg.v,h.b,hi]
   refine⟨fun bP=> ?_,fun bP=> ?_⟩
   ·simp[aI]
    exact⟨rfl,by simp[Pg.v,h.b,sgB,bP],sub_eq (by simp)⟩
   ·simp[aI]
    exact⟨rfl,by simp[Pg.v,h.b,sgB,bP],sub_eq (by simp)⟩
  rintro⟨⟩ -
  obtain⟨sg,hsg⟩: ∃x,sgB p i=x:=⟨_,rfl⟩
  have sg1:sg.natAbs=1:=by rw[←hsg];unfold sgB;split<;>rfl
  rw[hsg]
  have hpA: ∀c,(sg*pA p n i c).natAbs≤1000:=fun c=>by rw[Int.natAbs_mul,sg1,Nat.one_mul];exact jE h.am _
  have hpB:(sg*pB p i).natAbs≤1000:=by rw[Int.natAbs_mul,sg1,Nat.one_mul];exact jE h.bm _
  refine iD (fun _:Unit=> [(0,.ptr p.v),(4,.int .i64 N),(5,.loc gT' 6 0 0),(34,.int .i64 m),(35,.int .i64 i),(6,.int .i64 i),(7,.lsl gr 2 0 N1),(8,.int .i64 sg)]) (fun _=>upd b gr (some ⟨2,zv N1 fun c=>if c<n then sg*pA p n i c else 0⟩)) (fun _=>True) 205 ?_ ?_
  ·refine aB ?_
   simp
   refine aD (Zw p n m i h hi) ?_
   simp
   refine aG (fun j:Nat=> [(0,.ptr p.v),(4,.int .i64 N),(5,.loc gT' 6 0 0),(34,.int .i64 m),(35,.int .i64 i),(6,.int .i64 i),(7,.lsl gr 2 0 N1),(8,.int .i64 sg),(51,.sl (iv (lz n (pA p n i)))),(52,.int .i64 n),(53,.int .i64 j)]) (fun j=>upd b gr (some ⟨2,zv N1 fun c=>if c<j then sg*pA p n i c else 0⟩)) (fun j=>j≤n) (fun j=>n - j) _ 0 (Nat.zero_le _) ⟨rfl,by simp,sub_eq (by simp)⟩ ?_
   intro j hj
   have wj:IntKind.i64.wrap ((j:Int)+1)=(j:Int)+1:=i64_in (by omega) (by omega)
   have wa: ∀c,IntKind.i64.wrap (sg*pA p n i c)=sg*pA p n i c:=fun c=>i64_in (by have:=hpA c;omega) (by have:=hpA c;omega)
   refine aB ?_
   simp
   refine⟨fun hjn=> ?_,fun hjn=> ?_⟩
   ·simp[hjn,wa]
    refine aD (hint _ (hpA j)) ?_
    simp[wj,aA,show j<N1 by omega,Qj]
    refine⟨j+1,by omega,by omega,rfl,by simp,?_⟩
    refine sub_eq ?_
    funext x
    simp only[aC]
    split
    ·congr 2
     exact uE fun c hc=>by
      by_cases e:c=j
      ·rw[if_pos e,if_pos (by omega),e]
      ·rw[if_neg e];grind
    ·rfl
   ·rw[show j=n by omega]
    simp[aI]
    exact⟨rfl,by simp,Sub.refl _⟩
  rintro⟨⟩ -
  refine aE ?_
  have wni:IntKind.i64.wrap ((n:Int)+(i:Int))=((n+i:Nat):Int):=by rw[i64_in (by omega) (by omega)];simp
  obtain⟨ni,hni⟩: ∃x,n+i=x:=⟨_,rfl⟩
  rw[hni] at wni
  refine dC aM [0,1,2,3,4,5,6,7,8] 1 9 (by kernel_rfl) ?_
  simp[Pg.v,h.aS,wni]
  refine aN (hint 1 (by decide)) ?_
  simp[show ni<N1 by omega,show(ni:Int)<N1 by omega]
  refine cU (i:=9) (by kernel_rfl) rfl rfl rfl ?_
  simp[show ni<N1 by omega,Qj]
  refine Dy ?_
  simp
  refine aE ?_
  have wB:IntKind.i64.wrap (sg*pB p i)=sg*pB p i:=i64_in (by omega) (by omega)
  have hNN:N<N1:=by omega
  have Zr:(N:Int)<N1:=by omega
  simp[Pg.v,h.b,hi,wB]
  refine aD (hint _ hpB) ?_
  simp[hNN,Zr,Qj]
  obtain⟨b2,hb2⟩: ∃b2,b2=upd b gr (some ⟨2,zv N1 (eZ p n m i)⟩):=⟨_,rfl⟩
  refine fG [(0,.ptr p.v),(4,.int .i64 N),(5,.loc gT' 6 0 0),(34,.int .i64 m),(35,.int .i64 i),(6,.int .i64 i),(7,.lsl gr 2 0 N1)] 205 b2 ⟨rfl,by simp[Pg.v,h.b,h.aS],?_⟩ ?_
  ·rw[hb2]
   refine sub_eq ?_
   funext x
   simp only[aC]
   split
   ·congr 2
    exact uE fun c hc=>by
     unfold eZ
     rw[hN0,hni,hsg]
     grind
   ·rfl
  have b2r:b2 gr=some ⟨2,zv N1 (eZ p n m i)⟩:=by rw[hb2];simp
  have b2x: ∀x,x≠gr→b2 x=b x:=fun x hx=>by rw[hb2,aK _ _ _ _ hx]
  have b2T:=b2x gT' (Ne.symm rT)
  have b2R:=b2x gR (Ne.symm rR)
  have b2B:=b2x gB (Ne.symm rB)
  have b2F:=b2x gF' (Ne.symm rF)
  have b2i: ∀x,x∈ids→b2 x=b x:=fun x hx=>b2x x fun e=>ri (e▸hx)
  rw[bT] at b2T
  rw[bG] at b2R
  rw[bB] at b2B
  rw[bF] at b2F
  clear hb2
  have nds:=hTb.nd
  simp only[List.nodup_cons,List.mem_cons,not_or] at nds
  obtain⟨⟨nTR,nTB,nTF,nTi⟩,⟨nRB,nRF,nRi⟩,⟨nBF,nBi⟩,nFi,Vn⟩:=nds
  have Sk: ∀x,b2 x=none→x≠gT'∧x≠gR∧x≠gB∧x≠gF'∧x≠gr∧x∉ids:=fun x hx=>by
   refine⟨fun e=> ?_,fun e=> ?_,fun e=> ?_,fun e=> ?_,fun e=> ?_,fun e=> ?_⟩
   ·rw[e,b2T] at hx;cases hx
   ·rw[e,b2R] at hx;cases hx
   ·rw[e,b2B] at hx;cases hx
   ·rw[e,b2F] at hx;cases hx
   ·rw[e,b2r] at hx;cases hx
   ·rw[b2i x e] at hx
    obtain⟨q,hq⟩:=List.mem_iff_getElem?.1 e
    rw[hTb.fE.row q x hq] at hx;cases hx
  refine aE ?_
  simp[b2T,b2R,appV,elsV,hil]
  intro g4 hg4 hb4
  obtain⟨n4T,n4R,n4B,n4F,n4r,n4i⟩:=Sk g4 hb4
  have tk:(ids.map fun g=> [V.lsl g 2 0 N1]).take i=ids.map fun g=> [V.lsl g 2 0 N1]:=List.take_of_length_le (by simp[hil])
  simp[Ne.symm n4T,Ne.symm n4R,n4T,n4R,Int.not_lt.2 hg4,b2R,hil,tk]
  refine⟨by omega,fun gN hgN hbN=> ?_⟩
  have nN:gN≠gT'∧gN≠gB∧gN≠gF'∧gN≠gr∧gN∉ids∧gN≠g4:=by
   by_cases e:gN=gR
   ·subst e
    exact⟨Ne.symm nTR,nRB,nRF,Ne.symm rR,nRi,Ne.symm n4R⟩
   ·obtain⟨q1,q2⟩:=hbN e
    obtain⟨w1,w2,w3,w4,w5,w6⟩:=Sk gN q2
    exact⟨w1,w3,w4,w5,w6,q1⟩
  obtain⟨nNT,nNB,nNF,nNr,nNi,nN4⟩:=nN
  simp[Ne.symm nNT,nNT,Ne.symm n4T,nTR,b2T]
  obtain⟨b3,hb3⟩: ∃b3,b3=upd (upd (rem b2 gR) gN (some ⟨1,(ids++ [gr]).map fun g=> [.lsl g 2 0 N1]⟩)) gT' (some ⟨6,[[.lsl gN 1 0 (i+1),.bool false,.sl (iv (lim 1)),.lsl gB 1 0 i,.int .i64 N,.lsl gF' 1 0 N]]⟩):=⟨_,rfl⟩
  refine fG [(0,.ptr p.v),(4,.int .i64 N),(5,.loc gT' 6 0 0),(34,.int .i64 m),(35,.int .i64 i),(6,.int .i64 i)] 205 b3 ⟨rfl,by simp[Pg.v,h.b,h.aS],?_⟩ ?_
  ·rw[hb3]
   intro z y hz
   simp only[aC,aF] at hz ⊢
   grind
  have b3N:b3 gN=some ⟨1,(ids++ [gr]).map fun g=> [.lsl g 2 0 N1]⟩:=by rw[hb3];simp[nNT]
  have b3T:b3 gT'=some ⟨6,[[.lsl gN 1 0 (i+1),.bool false,.sl (iv (lim 1)),.lsl gB 1 0 i,.int .i64 N,.lsl gF' 1 0 N]]⟩:=by rw[hb3];simp
  have b3x: ∀x,x≠gT'→x≠gN→x≠gR→b3 x=b2 x:=fun x x1 x2 x3=>by rw[hb3,aK _ _ _ _ x1,aK _ _ _ _ x2,aF,if_neg x3]
  have b3B:=b3x gB (Ne.symm nTB) (Ne.symm nNB) (Ne.symm nRB)
  rw[b2B] at b3B
  clear hb3
  refine eR aM (rem b3 gB) (eH b3 gB) [0,1,2,3,4,5,6,7,8,9,10] 5 15 (by kernel_rfl) ?_
  simp[nTB,b3T,Pg.v,h.aS,wni]
  refine Dq 11 false ?_
  simp
  intro g5 hg5 hb5
  have n5:g5≠gT'∧g5≠gN∧g5≠gB:=⟨fun e=>(by rw[e,b3T] at hb5;cases hb5),fun e=>(by rw[e,b3N] at hb5;cases hb5),fun e=>(by rw[e,b3B] at hb5;cases hb5)⟩
  obtain⟨n5T,n5N,n5B⟩:=n5
  have r5:rem b3 gB g5=none:=by rw[aF,if_neg n5B];exact hb5
  have Bo: ∀X,Sub (rem b3 gB) (upd b3 g5 X):=fun X z y hz=>by
   rw[aF] at hz
   rw[aC]
   grind
  refine⟨Bo _,Dq 12 false ?_⟩
  have tkB:(iv (lb i fun q=>n+q)).take i=iv (lb i fun q=>n+q):=List.take_of_length_le (by simp)
  simp[n5B,Ne.symm n5B,appV,elsV,Int.not_lt.2 hg5,b3B,tkB]
  have hlb:iv (lb i fun q=>n+q)++ [[.int .i64 ni]]=iv (lb (i+1) fun q=>n+q):=by rw[S4,aV,hni];rfl
  rw[hlb]
  refine⟨by omega,fun gM hgM hbM=> ?_⟩
  have nM:gM≠gT'∧gM≠gN∧gM≠gF'∧gM≠gr∧gM∉ids∧gM≠g5:=by
   by_cases e:gM=gB
   ·subst e
    exact⟨Ne.symm nTB,Ne.symm nNB,nBF,Ne.symm rB,nBi,Ne.symm n5B⟩
   ·obtain⟨q1,q2⟩:=hbM e
    have q3:gM≠gT':=fun e2=>by rw[e2,b3T] at q2;cases q2
    have q4:gM≠gN:=fun e2=>by rw[e2,b3N] at q2;cases q2
    by_cases e3:gM=gR
    ·subst e3
     exact⟨q3,q4,nRF,Ne.symm rR,nRi,q1⟩
    ·rw[b3x gM q3 q4 e3] at q2
     obtain⟨w1,w2,w3,w4,w5,w6⟩:=Sk gM q2
     exact⟨q3,q4,w4,w5,w6,q1⟩
  obtain⟨nMT,nMN,nMF,nMr,nMi,nM5⟩:=nM
  have mA: ∀X Y,Sub (rem b3 gB) (upd (rem (upd b3 g5 X) gB) gM Y):=fun X Y z y hz=>by
   rw[aF] at hz
   rw[aC,aF,aC]
   grind
  have mK: ∀X Y Z,Sub (upd (upd (rem b3 gB) gM Y) gT' Z) (upd (upd (rem (upd b3 g5 X) gB) gM Y) gT' Z):=fun X Y Z z y hz=>by
   simp only[aC,aF] at hz ⊢
   grind
  refine⟨mA _ _,Dq 13 false ?_⟩
  simp
  refine⟨mA _ _,Dq 14 false ?_⟩
  simp
  refine⟨mA _ _,Dq 15 true ?_⟩
  simp[Ne.symm nMT,nTB,n5T,Ne.symm n5T,b3T]
  refine Dd ?_
  simp
  refine aB ?_
  simp[wi,aA]
  obtain⟨b4,kQ⟩: ∃b4,b4=upd (upd (rem b3 gB) gM (some ⟨1,iv (lb (i+1) fun q=>n+q)⟩)) gT' (some ⟨6,[[.lsl gN 1 0 (i+1),.bool false,.sl (iv (lim 1)),.lsl gM 1 0 (i+1),.int .i64 N,.lsl gF' 1 0 N]]⟩):=⟨_,rfl⟩
  have b4T:b4 gT'=some ⟨6,[[.lsl gN 1 0 (i+1),.bool false,.sl (iv (lim 1)),.lsl gM 1 0 (i+1),.int .i64 N,.lsl gF' 1 0 N]]⟩:=by rw[kQ];simp
  have b4M:b4 gM=some ⟨1,iv (lb (i+1) fun q=>n+q)⟩:=by rw[kQ];simp[nMT]
  have b4x: ∀x,x≠gT'→x≠gM→x≠gB→b4 x=b3 x:=fun x x1 x2 x3=>by rw[kQ,aK _ _ _ _ x1,aK _ _ _ _ x2,aF,if_neg x3]
  have b4o: ∀x,x≠gT'→x≠gM→x≠gB→x≠gN→x≠gR→x≠gr→b4 x=b x:=fun x x1 x2 x3 x4 x5 x6=>by rw[b4x x x1 x2 x3,b3x x x1 x4 x5,b2x x x6]
  have fr: ∀x,b x=none→bl x=none:=fun x hx=>by
   cases hv:bl x with
   | none => rfl
   | some y => have := hsb x y hv; rw [hx] at this; cases this
  have blR:bl gR=none:=hal gR (by simp[TG.all])
  have blB:bl gB=none:=hal gB (by simp[TG.all])
  have blN:bl gN=none:=by
   by_cases e:gN=gR
   ·rw[e];exact blR
   ·have:=(hbN e).2
    rw[b2x gN nNr] at this;exact fr gN this
  have blM:bl gM=none:=by
   by_cases e:gM=gB
   ·rw[e];exact blB
   ·by_cases e3:gM=gR
    ·rw[e3];exact blR
    ·have:=(hbM e).2
     rw[b3x gM nMT nMN e3,b2x gM nMr] at this;exact fr gM this
  have F3:=hTb.snoc (b':=b4) gN gM gr (by simp only[tbA];rw[hN0,hN1,b4x gN nNT (Ne.symm nMN) nNB,b3N]) (by simp only[tbA];exact b4M) (by simp only[tbA];rw[hN0,b4T];rfl)
   (by simp only;exact b4o gF' (Ne.symm nTF) (Ne.symm nMF) (Ne.symm nBF) (Ne.symm nNF) (Ne.symm nRF) (Ne.symm rF))
   (fun x hx=>by simp only at hx;exact b4o x (fun e=>nTi (e▸hx)) (fun e=>nMi (e▸hx)) (fun e=>nBi (e▸hx)) (fun e=>nNi (e▸hx)) (fun e=>nRi (e▸hx)) (fun e=>ri (e▸hx)))
   (by simp only[tbA];rw[hN0,hN1,b4x gr rT (Ne.symm nMr) rB,b3x gr rT (Ne.symm nNr) rR,b2r]) hgr hgN hgM (by
     simp only[List.nodup_cons,List.mem_cons,not_or,List.mem_append,List.mem_singleton,List.nodup_append,List.not_mem_nil,or_false]
     refine⟨⟨Ne.symm nNT,Ne.symm nMT,nTF,nTi,Ne.symm rT⟩,⟨Ne.symm nMN,nNF,nNi,nNr⟩,⟨nMF,nMi,nMr⟩,⟨nFi,Ne.symm rF⟩,Vn,by simp,fun a ha c hc=> ?_⟩
     rw[hc];exact fun e=>ri (e▸ha))
  refine⟨⟨i+1,⟨gT',gN,gM,gF',ids++ [gr]⟩,b4⟩,⟨by simp only;omega,F3,rfl,rfl,fun x hx=> ?_,fun x y hx=> ?_⟩,by simp only;omega,rfl,by simp[h.aS,h.b],by rw[kQ];exact mK _ _ _⟩
  ·simp only[TG.all,List.mem_cons,List.mem_append,List.not_mem_nil,or_false] at hx
   rcases hx with rfl | rfl | rfl | rfl | hx | rfl
   ·exact hbT
   ·exact blN
   ·exact blM
   ·exact hbF
   ·exact hal x (by simp[TG.all,hx])
   ·exact rbl
  ·have nx: ∀z,bl z=none→x≠z:=fun z hz e=>by rw[e,hz] at hx;cases hx
   simp only
   rw[b4o x (nx _ hbT) (nx _ blM) (nx _ blB) (nx _ blN) (nx _ blR) (nx _ rbl)]
   exact hsb x y hx
 ·have hie:i=m:=by omega
  subst hie
  clear hi him
  refine⟨by omega,by unfold maxLen;omega,fun gO hgO hbO=> ?_⟩
  have oT: ¬ gO=gT':=fun e=>by rw[e,bT] at hbO;cases hbO
  have oR: ¬ gO=gR:=fun e=>by rw[e,bG] at hbO;cases hbO
  have oB: ¬ gO=gB:=fun e=>by rw[e,bB] at hbO;cases hbO
  have oF: ¬ gO=gF':=fun e=>by rw[e,bF] at hbO;cases hbO
  have oi:gO∉ids:=fun hm2=>by
   obtain⟨q,hq⟩:=List.mem_iff_getElem?.1 hm2
   rw[hTb.fE.row q gO hq] at hbO;cases hbO
  have nds:=hTb.nd
  simp only[List.nodup_cons,List.mem_cons,not_or] at nds
  obtain⟨⟨nTR,nTB,nTF,nTi⟩,⟨nRB,nRF,nRi⟩,⟨nBF,nBi⟩,nFi,Vn⟩:=nds
  refine aG (fun k:Nat=> [(0,.ptr p.v),(4,.int .i64 N),(5,.loc gT' 6 0 0),(11,.lsl gO 1 0 N),(117,.int .i64 N),(118,.int .i64 k)]) (fun k=>upd (upd b gF' (some ⟨1,lv N fun c=>decide (c<k∧c<n)⟩)) gO (some ⟨1,iv (lz N fun c=>if c<k then oA n i c else 0)⟩)) (fun k=>k≤N) (fun k=>N - k) _ 0 (Nat.zero_le _) ⟨rfl,by simp[Pg.v,h.b,h.aS],?_⟩ ?_
  ·refine sub_eq ?_
   funext x
   simp only[aC]
   rw[Y1]
   split
   ·simp
   ·split
    ·rename_i e;rw[e,bF];simp
    ·rfl
  intro k hk
  have wk:IntKind.i64.wrap ((k:Int)+1)=(k:Int)+1:=i64_in (by omega) (by omega)
  refine aE ?_
  simp
  refine aE ?_
  simp
  refine⟨fun hkn=> ?_,fun hkn=> ?_⟩
  ·refine aO (aX ?_)
   refine aE ?_
   simp
   refine aO ?_
   refine dC aM [0,1,2,3,4,5,6,7,8,9,10,11] 1 12 (by kernel_rfl) ?_
   have nOT:=Ne.symm oT
   simp[Pg.v,h.aS,bT,nOT,nTF,hkn]
   refine cU (i:=12) (by kernel_rfl) rfl rfl rfl ?_
   simp[Ne.symm oF,hkn,Fl, -Bool.decide_and]
   refine Dy ?_
   simp
   refine aB ?_
   simp[Pg.v,h.aS,oF,hkn,wk,aA,Nh]
   refine⟨fun hnk=> ?_,fun hnk=> ?_⟩
   ·refine aB ?_
    simp[wk,aA]
    refine⟨k+1,by omega,by omega,rfl,by simp[h.aS],sub_eq ?_⟩
    have e1:(lv N fun c=>decide (c<k+1)&& decide (c<n))=lv N fun c=>if c=k then decide (k<n) else decide (c<k)&& decide (c<n):=qI fun c _=>by
     by_cases e:c=k
     ·subst e;simp
     ·rw[if_neg e,show decide (c<k+1)=decide (c<k) from by simp;omega]
    have e2:(lz N fun c=>if c<k+1 then oA n i c else 0)=lz N fun c=>if c=k then -1 else if c<k then oA n i c else 0:=C0 fun c hc=>by
     by_cases e:c=k
     ·subst e;rw[if_pos (by omega),if_pos rfl];unfold oA;rw[if_pos ⟨hnk,by omega⟩]
     ·rw[if_neg e];grind
    funext x
    simp only[aC]
    rw[e1,e2]
    grind
   ·refine aB ?_
    simp[wk,aA]
    refine⟨k+1,by omega,by omega,rfl,by simp[h.aS],sub_eq ?_⟩
    have e1:(lv N fun c=>decide (c<k+1)&& decide (c<n))=lv N fun c=>if c=k then decide (k<n) else decide (c<k)&& decide (c<n):=qI fun c _=>by
     by_cases e:c=k
     ·subst e;simp
     ·rw[if_neg e,show decide (c<k+1)=decide (c<k) from by simp;omega]
    have e2:(lz N fun c=>if c<k+1 then oA n i c else 0)=lz N fun c=>if c<k then oA n i c else 0:=C0 fun c hc=>by
     by_cases e:c=k
     ·subst e;rw[if_pos (by omega),if_neg (by omega)];unfold oA;rw[if_neg (by omega)]
     ·grind
    funext x
    simp only[aC]
    rw[e1,e2]
    grind
  ·have hke:k=N:=by omega
   subst hke
   clear hkn hk
   obtain⟨bM,hbM⟩: ∃bM,bM=upd (upd b gF' (some ⟨1,lv k fun c=>decide (c<k)&& decide (c<n)⟩)) gO (some ⟨1,iv (lz k fun c=>if c<k then oA n i c else 0)⟩):=⟨_,rfl⟩
   rw[←hbM]
   have bMF:bM gF'=some ⟨1,lv k (okA n)⟩:=by
    rw[hbM]
    simp[Ne.symm oF]
    exact qI fun c hc=>by unfold okA;simp[hc]
   have bMO:bM gO=some ⟨1,iv (lz k (oA n i))⟩:=by
    rw[hbM]
    simp
    rw[C0 fun c hc=>by rw[if_pos hc]]
   have bMx: ∀x,x≠gF'→x≠gO→bM x=b x:=fun x x1 x2=>by rw[hbM,aK _ _ _ _ x2,aK _ _ _ _ x1]
   clear hbM
   have hTM:=(hTb.aLZ (b':=bM) (okA n) (by simp only[tbA];rw[hN0];exact bMF) (fun x y hx hx2 hy=>by
    rw[bMx x hx2 fun e=> ?_];exact hy
    have:=hal x hx
    rw[e] at hy;rw[hbO] at hy;cases hy)).first h
   obtain⟨e,h1,h2,h3,h4⟩:=Lp.sU (F:=fO (n+i) (okA n)) (N':=n+i) h.init (fun c hc=>hc.1) (Nat.le_refl _) (fun c hc=>⟨by omega,by omega,by unfold okA;simpa using hc⟩)
   rw[←Mq] at h1 h2 h3
   have hnx:Lp.nx (n+i) (n+i) (List.range i) (Lp.okW i (wO (oA n i)) (fO (n+i) (okA n))) (Lp.orb (Lp.nx (n+i) (n+i) (List.range i) (Lp.okW i (wO (oA n i)) (fO (n+i) (okA n)))) (Lp.kR n (eQ p n i)) e)=none:=by
    unfold Lp.nx at h1 ⊢
    rw[h1]
   have hoA: ∀c,(oA n i c).natAbs≤1000:=fun c=>by unfold oA;split<;>decide
   have Ad:=fun K'=>xH (bl:=bM) (K:=K') n i (eQ p n i) (List.range i) ⟨gT',gR,gB,gF',ids⟩ (Lp.kR n (eQ p n i)) (okA n) (oA n i) gO e hml hnl (lY i) hoA (.inl fun q hq=>by simpa using hq) hnx h2 h3 hTM (by rw[hN0];exact bMO) hgO (by simp[TG.all,oT,oR,oB,oF,oi])
   rw[Mq] at h1
   simp only[Mq] at Ad
   obtain⟨t,ht⟩: ∃t,Lp.orb (Lp.nx (n+i) (n+i) (List.range i) (Lp.okW i (Lp.aZ n i) (fO (n+i) (okA n)))) (Lp.kR n (eQ p n i)) e=t:=⟨_,rfl⟩
   rw[ht] at h1 h4
   simp only[ht] at Ad
   simp only[hN0] at Ad
   rw[hN0] at h1
   refine Ad _ (fun b' _ hT2 hx2=> ?_) (fun b' k' hk'=>absurd hk' (by rw[h1];simp))
   clear Ad
   generalize frK i (oA n i) t (okA n) k=fr at hT2
   simp
   have Zr:k<N1:=by omega
   have aIZ:(k:Int)<N1:=by omega
   have cT:b' gT'=_:=hT2.hd
   have cB:b' gB=_:=hT2.ba
   have cG:b' gR=_:=hT2.fE.top
   have cF:b' gF'=_:=hT2.fre
   have hrl:(List.range i).length=i:=by simp
   simp only[bV,hrl,hN0,hN1] at cT cB cG cF
   have cB2:lb i (fun q=>t.bs (atR (List.range i) q))=lb i t.bs:=List.map_congr_left fun q hq=>by
    have hq':q<i:=by simpa using hq
    simp only[dE hq']
   rw[cB2] at cB
   simp[cT]
   have cS:Sub bl b':=fun x y hx=>by
    have h9:=hsb x y hx
    have x1:x∉TG.all ⟨gT',gR,gB,gF',ids⟩:=fun hm2=>by have:=hal x hm2;rw[this] at hx;cases hx
    have x2:x≠gF':=fun e=>x1 (by rw[e];simp[TG.all])
    have x3:x≠gO:=fun e=>by rw[e,hbO] at h9;cases h9
    exact hx2 x y (by rw[bMx x x2 x3];exact h9) x1
   refine aG (fun j:Nat=> [(0,.ptr p.v),(4,.int .i64 k),(5,.loc gT' 6 0 0),(149,.lsl gB 1 0 i),(150,.int .i64 i),(151,.int .i64 j)]) (fun _=>b') (fun j=>j≤i∧ ∀q,q<j→ ¬ (n≤t.bs q∧0<t.X q (n+i))) (fun j=>i - j) _ 0 ⟨Nat.zero_le _,fun q hq=>by omega⟩ ⟨rfl,by simp[Pg.v,h.b,h.aS],Sub.refl _⟩ ?_
   rintro j ⟨hj,bH⟩
   have wj:IntKind.i64.wrap ((j:Int)+1)=(j:Int)+1:=i64_in (by omega) (by omega)
   refine aE ?_
   simp
   refine aE ?_
   simp
   refine⟨fun hji=> ?_,fun hji=> ?_⟩
   ·refine aO (aX ?_)
    refine aE ?_
    simp[cB,hji]
    obtain⟨gi,hgi,yD,yH,mU⟩:=hT2.fE.at j (by simp only[bV,hrl];exact hji)
    simp only[bV] at mU
    rw[hN0,hN1,dE hji] at mU
    obtain⟨zx,hzx⟩: ∃zx,Lp.zt i (eQ p n i) t j k=zx:=⟨_,rfl⟩
    refine aE ?_
    simp
    refine bD [(0,.ptr p.v),(4,.int .i64 k),(5,.loc gT' 6 0 0),(149,.lsl gB 1 0 i),(150,.int .i64 i),(151,.int .i64 j),(13,.int .i64 j),(14,.int .i64 (t.bs j))] _ b' 175 (.bool (decide (n≤t.bs j∧0<zx))) ⟨rfl,by simp[Pg.v,h.b,h.aS],Sub.refl _⟩ rfl ?_ ?_
    ·simp[Pg.v,h.aS]
     by_cases hnb:n≤t.bs j
     ·have hgj: ∀h,ids[j]'h=gi:=fun h=>by rw[List.getElem?_eq_getElem h] at hgi;exact Option.some.inj hgi
      simp[hnb,Nat.not_lt.2 hnb,cT,cG,hji,hgj,mU,Zr,aIZ,hil]
      refine aD (mJ _) ?_
      rw[hzx]
      have hsp:0<zx.sign ↔ 0<zx:=by
       rcases Int.lt_trichotomy zx 0 with q | q | q
       ·rw[Int.sign_eq_neg_one_of_neg q];omega
       ·rw[q];decide
       ·rw[Int.sign_eq_one_of_pos q];omega
      simp[hsp]
     ·simp[hnb]
    have hzs:=Lp.qW h4.inv.z hji (show n+i<n+i+1 by omega)
    rw[hN0,hzx] at hzs
    have hzero:Lp.rc i (Lp.aZ n i) t (n+i)=0→t.bs j<n∨t.X j (n+i)=0:=fun h0=>by
     rcases Nat.lt_or_ge (t.bs j) n with g | g
     ·exact .inl g
     ·exact .inr (h4.zero h0 j hji (by omega))
    refine aB ?_
    simp
    refine⟨fun c1 c2=> ?_,fun hno=> ?_⟩
    ·rw[bW]
     refine⟨[.nilp,.bool false],by simp,hN b' t h4 (fun h0=> ?_) cS⟩
     have:=hzs.1.1 c2
     rw[←hN0] at this
     rcases hzero h0 with g | g
     ·omega
     ·rw[g] at this;exact absurd this (by decide)
    ·refine aB ?_
     simp[wj,aA]
     refine⟨j+1,⟨by omega,fun q hq c1 c2=> ?_⟩,by omega,rfl,by simp[h.aS,h.b],Sub.refl _⟩
     by_cases e:q=j
     ·subst e
      rw[hN0] at c2
      have g1:=hno c1
      have g2:=hzs.1.2 c2
      omega
     ·exact bH q (by omega) ⟨c1,c2⟩
   ·have hje:j=i:=by omega
    subst hje
    have hp0:Lp.rc j (Lp.aZ n j) t (n+j)=0:=by
     rw[Lp.wJ rfl]
     refine Lp.jQ fun q hq=> ?_
     split
     ·rename_i hb
      have h8:=h4.inv.nn q hq
      have h9: ¬ 0<t.X q (n+j):=fun g=>bH q hq ⟨hb.1,g⟩
      grind
     ·rfl
    simp[cT]
    refine aG (fun c:Nat=> [(0,.ptr p.v),(4,.int .i64 k),(5,.loc gT' 6 0 0),(181,.int .i64 k),(182,.int .i64 c)]) (fun c=>upd b' gF' (some ⟨1,lv k fun x=>if x<c then okA n x else fr x⟩)) (fun c=>c≤k) (fun c=>k - c) _ 0 (Nat.zero_le _) ⟨rfl,by simp[Pg.v,h.b,h.aS],?_⟩ ?_
    ·refine sub_eq ?_
     funext x
     simp only[aC]
     split
     ·rename_i e;rw[e,cF];simp
     ·rfl
    intro c hc
    have wc:IntKind.i64.wrap ((c:Int)+1)=(c:Int)+1:=i64_in (by omega) (by omega)
    refine aE ?_
    simp
    refine aE ?_
    simp
    refine⟨fun hck=> ?_,fun hck=> ?_⟩
    ·refine aO (aX ?_)
     refine aE ?_
     simp
     refine dC aM [0,1,2,3,4,5,6,7,8,9,10,11] 1 12 (by kernel_rfl) ?_
     simp[Pg.v,h.aS,cT,nTF,hck]
     refine cU (i:=12) (by kernel_rfl) rfl rfl rfl ?_
     simp[hck,Fl]
     refine Dy ?_
     simp
     refine aB ?_
     simp[wc,aA]
     refine⟨c+1,by omega,by omega,rfl,by simp[h.aS],sub_eq ?_⟩
     funext x
     simp only[aC]
     split
     ·congr 2
      exact qI fun y hy=>by
       by_cases e:y=c
       ·subst e;simp[okA]
       ·rw[if_neg e];grind
     ·rfl
    ·have hce:c=k:=by omega
     subst hce
     obtain⟨bL,hbL⟩: ∃bL,bL=upd b' gF' (some ⟨1,lv c fun x=>if x<c then okA n x else fr x⟩):=⟨_,rfl⟩
     rw[←hbL]
     have bLF:bL gF'=some ⟨1,lv c (okA n)⟩:=by rw[hbL,bA,qI fun x hx=>by rw[if_pos hx]]
     have bLx: ∀x,x≠gF'→bL x=b' x:=fun x x1=>by rw[hbL,aK _ _ _ _ x1]
     clear hbL
     have hTL:=hT2.aLZ (b':=bL) (okA n) (by simp only[bV];rw[hN0];exact bLF) (fun x y hx hx2 hy=>by rw[bLx x hx2];exact hy)
     simp[Pg.v,h.aS]
     refine Oe n j (eQ p n j) ⟨gT',gR,gB,gF',ids⟩ t (okA n) hml hnl (h4.kY hp0) hTL fun b5 g5 e1 e2 hT5 aTF hb5=> ?_
     simp
     rw[bW]
     have n5: ∀x y,bl x=some y→x∉TG.all ⟨gT',gR,gB,gF',ids⟩:=fun x y hx hm2=>by have:=hal x hm2;rw[this] at hx;cases hx
     refine⟨[.loc g5.T 6 0 0,.bool true],by simp[e1],hS b5 g5 t h4 hp0 hT5 (fun x hx=> ?_) fun x y hx=> ?_⟩
     ·rcases aTF x hx with g1 | g1
      ·exact hal x g1
      ·cases hv:bl x with
       | none => rfl
       | some y =>
         have g2:=n5 x y hv
         rw[bLx x fun e=>g2 (by rw[e];simp[TG.all]),cS x y hv] at g1
         cases g1
     ·have g2:=n5 x y hx
      exact hb5 x y (by rw[bLx x fun e=>g2 (by rw[e];simp[TG.all])];exact cS x y hx) g2

section
variable {P : Program}
theorem Mem.see {w0:World} {M F:Nat→Prop} {bl:Int→Option Blk} {w:World} (hm:Mem w0 M F bl w) {g:Int} {b b':Blk} (hb:bl g=some b) (hB:cV F w g b'):Mem w0 M F (upd bl g (some b')) w:=by
 refine⟨hm.os,hm.tape,hm.output,hm.size,hm.frame,hm.jH,hm.fr,?_,fun x c hx h0=> ?_,fun x c hx=> ?_⟩
 ·obtain⟨n,hn⟩:=hm.fin
  refine⟨n,fun x hx=> ?_⟩
  have:=hn x hx
  by_cases hxg:x=g
  ·subst hxg;rw[hb] at this;cases this
  ·rw[aK _ _ _ _ hxg];exact this
 ·by_cases hxg:x=g
  ·subst hxg;exact hm.own x _ hb h0
  ·rw[aK _ _ _ _ hxg] at hx
   exact hm.own x c hx h0
 ·by_cases hxg:x=g
  ·subst hxg
   rw[bA] at hx
   cases hx;exact hB
  ·rw[aK _ _ _ _ hxg] at hx
   exact hm.blk x c hx
def uns (cs:List V):List (List V):=cs.map fun x=> [x]
theorem Cg {F:Nat→Prop} {w:World} {g:Int} {cs:List V} (h0:0≤g):cV F w g ⟨1,uns cs⟩ ↔ cV F w g ⟨cs.length,[cs]⟩:=by
 unfold cV uns
 rw[if_neg (by omega),if_neg (by omega)]
 constructor
 ·rintro⟨h1,c,t,h2,h3,h4⟩
  refine⟨h1,c,t,h2,by simpa using h3,fun k e he=> ?_⟩
  have hk:k=0:=by
   have:=(List.getElem?_eq_some_iff.1 he).1
   simpa using this
  subst hk
  cases he
  refine⟨rfl,fun j x hx=> ?_⟩
  obtain⟨-,h5⟩:=h4 j [x] (by simp[hx])
  obtain⟨h6,v,h7,h8⟩:=h5 0 x rfl
  exact⟨h6,v,by simpa using h7,h8⟩
 ·rintro⟨h1,c,t,h2,h3,h4⟩
  refine⟨h1,c,t,h2,by simpa using h3,fun k e he=> ?_⟩
  simp only[List.getElem?_map] at he
  cases hk:cs[k]? with
  | none => rw [hk] at he; cases he
  | some y =>
    rw[hk] at he;cases he
    refine⟨rfl,fun j x hx=> ?_⟩
    have hj:j=0:=by
     have:=(List.getElem?_eq_some_iff.1 hx).1
     simpa using this
    subst hj
    cases hx
    obtain⟨-,h5⟩:=h4 0 cs rfl
    obtain⟨h6,v,h7,h8⟩:=h5 k y hk
    exact⟨h6,v,by simpa using h7,h8⟩
def TS (P:Program) (o:Oper) (K:St→Prop) (σ:St):Prop:= ∀(w0:World) (M F:Nat→Prop) (a:Act) (w:World) (Q:Exit→Act→World→Prop),Sim w0 M F σ a w→o.wp P a w (Nx w0 M F K) Q
theorem Sv {ops:Array Oper} {Q:Exit→Act→World→Prop} {F0:Nat→Prop} {w0:World} {M:Nat→Prop} {K:St→Prop} {r:List Oper} (hQ: ∀σ F a w,(∀b,F0 b→F b)→Sim w0 M F σ a w→K σ→wpList P ops Q r a w) (l:List Oper):
  ∀(σ:St) (F:Nat→Prop) (a:Act) (w:World),(∀b,F0 b→F b)→Ops P (ops.toList.map (·.dst)) l K σ→Sim w0 M F σ a w→wpList P ops Q (l++r) a w:=by
 induction l with
 | nil => intro σ F a w hF h hs; exact hQ σ F a w hF hs h
 | cons o rest ih =>
   intro σ F a w hF h hs
   have next:T P o (Ops P (ops.toList.map (·.dst)) rest K) σ→o.wp P a w (wpList P ops Q (rest++r)) Q:=fun hT=>
    Oper.wp_mono (fun a' w' hn=>by
     obtain⟨σ',F',hF',hs',hK⟩:=hn
     exact ih σ' F' a' w' (fun b hb=>hF' b (hF b hb)) hK hs') (T3 hT hs)
   unfold Ops at h
   rw[List.cons_append]
   unfold wpList
   split at h
   ·rename_i hg
    rw[if_pos (by simp[Region.wanted,hg])]
    exact .inl (next h)
   ·rename_i j b hg
    split at h
    ·rename_i d hd
     rcases iS h with ⟨q,hq,h1,h2⟩| ⟨hq,h1⟩
     rotate_left
     ·rw[if_neg (by simp[Region.wanted,hg,oW hd hs hq])]
      exact ih _ F _ w hF h1 (hs.put nI)
     have hy:=B3 hd hs hq
     by_cases hqb:q=b
     ·rw[if_pos (by simp[Region.wanted,hg,hy,hqb])]
      have h1':=h1 hqb
      subst hqb
      rw[nF hq] at h1'
      exact .inl (next h1')
     ·rw[if_neg (by simp[Region.wanted,hg,hy,hqb])]
      have Ff:q= !b:=by cases q<;>cases b<;>simp_all
      have h2':=h2 Ff
      rw[←Ff,nF hq] at h2'
      exact ih _ F _ w hF h2' (hs.put nI)
    ·exact h.elim
theorem Hg {id:Nat} {ops:Array Oper} {K:Ex→St→Prop} {σ:St} (o:Oper) (ho:ops.toList.getLast? =some o) (hg:o.guard=none) (h:OpsF P (ops.toList.map (·.dst)) ops.toList.dropLast (TS P o (K .normal)) σ):AW P (.region id ops false) K σ:=by
 intro w0 M F a w hs
 refine wp_region_list ?_
 have e:ops.toList=ops.toList.dropLast++ [o]:=by
  obtain⟨hne,hl⟩:=List.getLast?_eq_some_iff.1 ho
  rw[hl];simp
 have hgo:=Sv (P:=P) (ops:=ops) (Q:=T0 w0 M F K) (F0:=F) (w0:=w0) (M:=M) (r:= [o]) (K:=TS P o (K .normal)) (fun σ' F' a' w' hF' hs' hK=>by
  unfold wpList
  rw[if_pos (by simp[Region.wanted,hg])]
  refine .inl (Oper.wp_mono (fun a2 w2 hn=> ?_) (hK w0 M F' a' w' _ hs'))
  obtain⟨σ2,F2,h1,h2,h3⟩:=hn
  exact⟨.normal,σ2,F2,rfl,fun b hb=>h1 b (hF' b hb),h2,h3⟩) ops.toList.dropLast σ F a w (fun _ h=>h) (vU h) hs
 rw[←e] at hgo
 exact hgo
theorem K8 : ∀(cs l:List V) (o:Nat),o+cs.length≤l.length→splice l o cs=l.take o++(cs++l.drop (o+cs.length))
 | [], l, o, h => by simp [splice]
 | c :: cs, l, o, h => by
   rw[splice,K8 cs (l.set o c) (o+1) (by simp at h ⊢;omega)]
   simp only[List.length_cons] at h
   rw[List.take_succ_eq_append_getElem (by simp;omega),List.getElem_set_self,List.take_set_of_le (Nat.le_refl _),List.drop_set_of_lt (by omega)]
   simp[Nat.add_assoc,Nat.add_comm 1]
theorem Gl {α β:Type} [DecidableEq α] (f:α→β) (a:α) (b c:β):upd (upd f a b) a c=upd f a c:=by
 funext x
 simp only[aC]
 split<;>rfl
theorem Mem.Qi {w0:World} {M F:Nat→Prop} {bl:Int→Option Blk} {w:World} (hm:Mem w0 M F bl w) {g:Int} {cs ys:List V} (h0:0≤g) (hb:bl g=some ⟨1,uns cs⟩) (hle:ys.length≤cs.length) (fN: ∀x,x∈ys→x.one=true)
  {vs:List Value} (hvl:vs.length=ys.length) (hvr: ∀(i:Nat) (x:V),ys[i]? =some x→ ∃v,vs[i]? =some v∧Rep F w x v) (hvo: ∀v,v∈vs→v.oneCell'=true):
  ∃w',(storeCells ⟨g.toNat,0,none⟩ vs).run P w= .ok () w'∧Mem w0 M F (upd bl g (some ⟨1,uns (ys++cs.drop ys.length)⟩)) w'∧(∀k,F k→w'.heap[k]? =w.heap[k]?)∧fB w w':=by
 have m1:=hm.see hb ((Cg h0).1 (hm.blk g _ hb))
 obtain⟨w',h1,h2,h3,h4⟩:=m1.store (P:=P) (g:=g) (b:=⟨cs.length,[cs]⟩) (k:=0) (j:=0) (e:=cs) (cs:=ys) (bA _ _ _) rfl (by simpa using hle) fN hvl hvr hvo
 have hsp:splice cs 0 ys=ys++cs.drop ys.length:=by rw[K8 ys cs 0 (by omega)];simp
 have hl:(ys++cs.drop ys.length).length=cs.length:=by simp;omega
 rw[Gl] at h2
 simp only[List.set_cons_zero,hsp] at h2
 have m2:=h2.see (bA _ _ _) ((Cg (cs:=ys++cs.drop ys.length) h0).2 (by rw[hl];exact h2.blk g _ (bA _ _ _)))
 rw[Gl] at m2
 exact⟨w',by simpa using h1,m2,h3,h4⟩
theorem Uh {d:Option Nat} {ty:TypeId} {pos:String} {af:Array Edge} {gd:Option (Nat×Bool)} {K:St→Prop} {σ:St} {x y:Operand} {t tx e:TypeId} {g:Int} {n:Nat} {cs ys:List V} (hx:σ.ev x= .lsl g 1 0 n) (hy:σ.ev y= .sl (uns ys))
  (h0:0≤g) (hb:σ.bl g=some ⟨1,uns cs⟩) (hcn:cs.length=n) (hle:ys.length≤n) (hys:((uns ys).all fun c=>c.length==1 && c.all V.one)=true) (he:slE P t=some e) (hz:csz P e=some 1)
  (hK:K (({ σ with bl:=upd σ.bl g (some ⟨1,uns (ys++cs.drop ys.length)⟩) } :St).put d (.int .i64 ys.length))):
  TS P ⟨d,.call { callee:= .builtin .copy,args:= #[x,y],argTypes:= #[t,tx] },ty,pos,af,gd⟩ K σ:=by
 intro w0 M F a w Q hs
 have hxr:=hs.ev x
 rw[hx] at hxr
 have hyr:=hs.ev y
 rw[hy] at hyr
 rcases T5 hxr with ⟨bP, -⟩| ⟨hg,cap,hlc,jX,hav, -⟩
 ·omega
 have hL:=oP hs.mem hyr (sz:=1) (Nat.le_refl _) (ys:=uns ys) (by simp only[elsV];rw[if_pos hys])
 obtain⟨xa,xc,news,hxv,hnl,hnc,hno,hnr⟩:=hL
 have hul:(uns ys).length=ys.length:=by simp[uns]
 rw[hul] at hxv hnl
 have hf:(Builtin.firstCells 1 ys.length (.slice xa ys.length xc)).run P w= .ok news.toArray w:=by
  rcases hnc with h | ⟨bb,off,rfl,lO⟩
  ·have hy0:ys= []:=by cases ys with
    | nil => rfl
    | cons => simp [uns] at h
   subst hy0
   have hn0:news= []:=List.eq_nil_of_length_eq_zero (by simpa using hnl)
   subst hn0
   cases xa<;>simp[Builtin.firstCells,loadCells,loadCellsFrom]
  ·exact run_firstCells_some w 1 ys.length ⟨bb,off,none⟩ ys.length xc news hnl (fun j u hu=>by rw[eY];exact lO j u hu)
 have fN: ∀z,z∈ys→z.one=true:=fun z hz=>by
  have:=List.all_eq_true.1 hys [z] (by simp[uns,hz])
  simpa using this
 obtain⟨w',h1,h2,h3,h4⟩:=hs.mem.Qi (P:=P) (vs:=news) h0 hb (by omega) fN (by simpa using hnl) (fun i z hz=>by
  obtain⟨-,h6⟩:=hnr i [z] (by simp[uns,hz])
  obtain⟨-,u,h7,h8⟩:=h6 0 z rfl
  exact⟨u,by simpa using h7,h8⟩) hno
 have hs':Sim w0 M F ({ σ with bl:=upd σ.bl g (some ⟨1,uns (ys++cs.drop ys.length)⟩) } :St) a w':=⟨h2,hs.size,fun t ht=>(hs.sl t ht).mono (fun _ h=>h) h3 h4,hs.defers⟩
 refine bI (v:=goInt ys.length) (w':=w') ?_ ⟨_,F,fun _ h=>h,hs'.put (.int _ _),hK⟩
 have aSY:Nat.min ys.length n=ys.length:=Nat.min_eq_left hle
 simp only[execOp,resolve,Sem.run_bind,Sem.run_pure,Result.andThen_ok,invoke,builtin,List.map_toArray,List.map_cons,List.map_nil,Builtin.copy_,List.getElem?_toArray,List.getElem?_cons_zero,List.getElem?_cons_succ,run_underlying (cM he),hav,hxv,Builtin.lenOf,aSY,run_sizeOf hz,hf]
 rw[Nat.zero_mul,h1];rfl
theorem Kd {e:TypeId} {u:V} (h:zeroC P e=some [u]): ∃i z v,P.info? e=some i∧i.zero=some z∧z.cells= #[v]∧ofCell v=u∧u.one=true:=by
 obtain⟨i,z,h1,h2,h3,h4,h5⟩:=jU h
 have hl:z.cells.toList.length=1:=by
  have:=congrArg List.length h3
  simpa using this.symm
 obtain⟨v,hv⟩:=List.length_eq_one_iff.1 hl
 rw[hv] at h3
 refine⟨i,z,v,h1,h2,?_,?_,by simpa using h4⟩
 ·rw[←Array.toArray_toList (xs:=z.cells),hv]
 ·simpa using h3.symm
theorem Sm {d:Option Nat} {ty:TypeId} {pos:String} {af:Array Edge} {gd:Option (Nat×Bool)} {K:St→Prop} {σ:St} {x:Operand} {t e:TypeId} {g:Int} {n:Nat} {cs:List V} {u:V} (hx:σ.ev x= .lsl g 1 0 n)
  (h0:0≤g) (hb:σ.bl g=some ⟨1,uns cs⟩) (hcn:cs.length=n) (he:slE P t=some e) (hz:zeroC P e=some [u])
  (hK:K (({ σ with bl:=upd σ.bl g (some ⟨1,uns (List.replicate n u)⟩) } :St).put d (.tup []))):
  TS P ⟨d,.call { callee:= .builtin .clear,args:= #[x],argTypes:= #[t] },ty,pos,af,gd⟩ K σ:=by
 intro w0 M F a w Q hs
 obtain⟨i,z,v,hi,hzz,hzc,hvu,hu1⟩:=Kd hz
 have hxr:=hs.ev x
 rw[hx] at hxr
 rcases T5 hxr with ⟨bP, -⟩| ⟨hg,cap,hlc,jX,hav, -⟩
 ·omega
 have hru:Rep F w u v:=by rw[←hvu];exact oV F w v
 obtain⟨w',h1,h2,h3,h4⟩:=hs.mem.Qi (P:=P) (ys:=List.replicate n u) (vs:=List.replicate n v) h0 hb (by simp;omega) (fun z hz=>by rw[(List.mem_replicate.1 hz).2];exact hu1) (by simp) (fun i y hy=>by
  have hin:i<n:=by have:=(List.getElem?_eq_some_iff.1 hy).1;simpa using this
  rw[List.getElem?_replicate,if_pos hin] at hy
  cases hy
  exact⟨v,by rw[List.getElem?_replicate,if_pos hin],hru⟩) (fun y hy=>by rw[(List.mem_replicate.1 hy).2];exact hru.one hu1)
 have hd:List.replicate n u++cs.drop (List.replicate n u).length=List.replicate n u:=by simp[hcn]
 rw[hd] at h2
 have hs':Sim w0 M F ({ σ with bl:=upd σ.bl g (some ⟨1,uns (List.replicate n u)⟩) } :St) a w':=⟨h2,hs.size,fun t ht=>(hs.sl t ht).mono (fun _ h=>h) h3 h4,hs.defers⟩
 refine bI (v:= .tuple #[]) (w':=w') ?_ ⟨_,F,fun _ h=>h,hs'.put (.tup _ _ rfl (by simp)),hK⟩
 have hzl:(Builtin.zeroCells z.cells n).toList=List.replicate n v:=by
  rw[hzc]
  apply List.ext_getElem
  ·simp[Builtin.zeroCells]
  ·intro j h1 h2
   simp[Builtin.zeroCells,Nat.mod_one]
 have hzv:(zeroValue e).run P w= .ok z w:=by simp[zeroValue,typeInfo,hi,hzz]
 cases n with
 | zero =>
   have hw:w'=w:=by simpa [storeCells] using h1.symm
   subst hw
   simp only[execOp,resolve,Sem.run_bind,Sem.run_pure,Result.andThen_ok,invoke,builtin,List.map_toArray,List.map_cons,List.map_nil,Builtin.clear_,List.getElem?_toArray,List.getElem?_cons_zero,run_underlying (cM he),hav]
 | succ n =>
   simp only[execOp,resolve,Sem.run_bind,Sem.run_pure,Result.andThen_ok,invoke,builtin,List.map_toArray,List.map_cons,List.map_nil,Builtin.clear_,List.getElem?_toArray,List.getElem?_cons_zero,run_underlying (cM he),hav,hzv,hzl]
   rw[Nat.zero_mul,h1];rfl
end

structure Stg (n m : Nat) (E : Nat → Nat → Rat) (C : Nat → Rat) (rows : List Nat) (q : Nat) (fr : Nat → Bool) (t : Lp.Tab) : Prop where
 mid:Lp.Mid n m 1000 E rows (fO (n+m) fr) t
 sel:Lp.Sel n m (n+m) E C q (fO (n+m) fr)
theorem Ow {m N:Nat} {O:Nat→Int} {t:Lp.Tab} {fr:Nat→Bool} (hf:Lp.fstP (Lp.okW m (wO O) (fO N fr) t) N=none):fO N (frK m O t fr N)=Lp.Fn m (wO O) (fO N fr) t:=by
 funext c
 refine propext ?_
 unfold fO Lp.Fn frK
 constructor
 ·rintro⟨h1,h2⟩
  rw[if_pos h1,Bool.and_eq_true] at h2
  obtain⟨h3,h4⟩:=h2
  have h5: ¬ Lp.rc m (wO O) t c<0:=by simpa using h4
  have h6:=Lp.eP.1 hf c h1
  unfold Lp.okW fO at h6
  refine⟨⟨h1,h3⟩,?_⟩
  have h7: ¬ 0<Lp.rc m (wO O) t c:=fun g=>h6 ⟨⟨h1,h3⟩,g⟩
  grind
 ·rintro⟨⟨h1,h2⟩,h3⟩
  refine⟨h1,?_⟩
  rw[if_pos h1,h2,h3]
  have: ¬ ((0:Rat)<0):=by decide
  simp[this]
theorem Ai {bl:Int→Option Blk} {K:V→(Int→Option Blk)→Prop} (n m:Nat) (E:Nat→Nat→Rat) (rows:List Nat) (g:TG) (t:Lp.Tab) (fr:Nat→Bool) (C:Nat→Rat) (q:Nat) (O:Nat→Int) (gO:Int)
  (hm:m≤17) (hn:n+m≤100) (hr:Rows m rows) (hS:Stg n m E C rows q fr t) (hw:wO O=Lp.wl C q) (hO: ∀c,(O c).natAbs≤1000) (hO0: ∀c,n≤c→O c=0)
  (hTT:TT bl g (bV n m E rows t fr)) (hgO:bl gO=some ⟨1,iv (lz (n+m) O)⟩) (hg0:0≤gO) (hgn:gO∉g.all)
  (hT: ∀b' t' fr',Stg n m E C rows (q+1) fr' t'→TT b' g (bV n m E rows t' fr')→(∀x y,bl x=some y→x∉g.all→b' x=some y)→K (.bool true) b')
  (hF: ∀b',q=0→Lp.Unb n m E (n+m) C→(∃x,Lp.jR n m E (n+m) x)→(∀x y,bl x=some y→x∉g.all→b' x=some y)→K (.bool false) b'):
  bY Tryz.prog 205 [.loc g.T 6 0 0,.lsl gO 1 0 (n+m)] bl K:=by
 obtain⟨e,h1,h2,h3⟩:=hS.mid.ends (wO O)
 have he:=h3 e (Nat.le_refl _)
 refine xH n m E rows g t fr O gO e hm hn hr hO (.inr hO0) h1 h2 (fun e' he'=>(h3 e' he').inv) hTT hgO hg0 hgn (fun b' hf hT2 hx=> ?_) fun b' k hf hl hT2 hx=> ?_
 ·have hR:=Lp.Iv (N':=n+m) he.inv he.low he.bas (Nat.le_add_right n m) hf
  refine hT b' _ _ ⟨?_,?_⟩ hT2 hx
  ·rw[Ow hf];exact he.next
  ·rw[Ow hf]
   refine hS.sel.next (t:=Lp.orb (Lp.nx (n+m) (n+m) rows (Lp.okW m (wO O) (fO (n+m) fr))) t e) ?_
   rw[←hw];exact hR
 ·obtain⟨k1,k2,k3⟩:=Lp.dD.1 hf
  have hkn:k<n:=he.lt k k2.1
  obtain⟨t',ht'⟩: ∃t',Lp.orb (Lp.nx (n+m) (n+m) rows (Lp.okW m (wO O) (fO (n+m) fr))) t e=t':=⟨_,rfl⟩
  rw[ht'] at he k2 hl
  have kN:=k2.2
  rw[hw] at kN
  cases q with
  | zero => exact hF b' rfl (Lp.xF he.inv he.low hkn hl kN) ⟨_, he.Ou.1⟩ hx
  | succ q => exact absurd hl (Lp.xQ he.inv C hkn kN)
def fxs (n:Nat) (x:Nat→Rat):List (List V):=(List.range n).map fun c=> [fv (some (x c))]
@[simp] theorem aAD (n : Nat) (x : Nat → Rat) : (fxs n x).length = n := by simp [fxs]
@[simp] theorem V3 (n : Nat) (x : Nat → Rat) (i : Nat) (h : i < (fxs n x).length) : (fxs n x)[i] = [fv (some (x i))] := by simp [fxs]
theorem vT {n:Nat} {x y:Nat→Rat} (h: ∀c,c<n→x c=y c):fxs n x=fxs n y:=List.map_congr_left fun c hc=>by rw[h c (by simpa using hc)]
theorem Up {n i:Nat} (x:Nat→Rat) (v:Rat) (hi:i<n):(fxs n x).set i [fv (some v)]=fxs n fun c=>if c=i then v else x c:=by
 apply List.ext_getElem
 ·simp
 ·intro j h1 h2
  rw[List.getElem_set,V3,V3]
  by_cases e:i=j
  ·rw[if_pos e,if_pos e.symm]
  ·rw[if_neg e,if_neg (Ne.symm e)]
def Cp (n:Nat) (C:Nat→Rat):Option (Option (Nat→Rat))→V
 | none => .tup [.int .i64 2, .sl [], .nilp]
 | some none => .tup [.int .i64 3, .sl [], .nilp]
 | some (some x) => .tup [.int .i64 0, .sl (fxs n x), fv (some (Lp.dot n C x))]

structure aLH where
 q:Nat
 t:Lp.Tab
 fr:Nat→Bool
 ob:List Int
 b:Int→Option Blk
def uX (q:Nat):Nat→Int:=fun c=>if c=q then -1 else 0
theorem Un (C:Nat→Rat) (q:Nat):wO (uX q)=Lp.wl C (q+1):=by
 funext c
 unfold wO uX Lp.wl
 simp only
 split<;>rfl
def fxp (n k:Nat):List (List V):=(List.range n).map fun c=>if c<k then [fv (some 0)] else [.nilp]
@[simp] theorem Zq (n k : Nat) : (fxp n k).length = n := by simp [fxp]
theorem Qm (n:Nat):List.replicate n [V.nilp]=fxp n 0:=by
 unfold fxp
 apply List.ext_getElem
 ·simp
 ·intro i h1 h2;simp
@[simp] theorem aN9 (n k i : Nat) (h : i < (fxp n k).length) : (fxp n k)[i] = if i < k then [fv (some 0)] else [.nilp] := by simp [fxp]
theorem Tt {n k:Nat} (h:k<n):(fxp n k).set k [fv (some 0)]=fxp n (k+1):=by
 apply List.ext_getElem
 ·simp
 ·intro j h1 h2
  rw[List.getElem_set]
  simp only[fxp,List.getElem_map,List.getElem_range]
  by_cases e:k=j
  ·rw[if_pos e,if_pos (by omega)]
  ·rw[if_neg e]
   by_cases e2:j<k
   ·rw[if_pos e2,if_pos (by omega)]
   ·rw[if_neg e2,if_neg (by omega)]
theorem Wn (n:Nat):fxp n n=fxs n fun _=>0:=List.map_congr_left fun c hc=>by rw[if_pos (by simpa using hc)]
theorem aC1 (n:Nat) (x:Nat→Rat):(fxs n x).all (fun e=>e.all V.cl)=true:=by simp[fxs,V.cl,fv]
noncomputable def xUp (N : Nat) (rows : List Nat) (t : Lp.Tab) (i : Nat) : Nat → Rat := fun c => Lp.S i fun p => if t.bs (atR rows p) = c then t.X (atR rows p) N else 0
theorem At {m N:Nat} {E:Nat→Nat→Rat} {rows:List Nat} {t:Lp.Tab} (h:Lp.TI m E t) (hr:Rows m rows) {i:Nat} (hi:i<rows.length) (c:Nat):(if c=t.bs (atR rows i) then t.X (atR rows i) N else xUp N rows t i c)=xUp N rows t (i+1) c:=by
 show _=xUp N rows t i c+(if t.bs (atR rows i)=c then t.X (atR rows i) N else 0)
 by_cases e:c=t.bs (atR rows i)
 ·rw[if_pos e,if_pos e.symm]
  have:xUp N rows t i c=0:=Lp.jQ fun p hp=>by
   refine if_neg fun e2=> ?_
   have h1:=h.inj (hr.lt (cK (show p<rows.length by omega))) (hr.lt (cK hi)) (e2.trans e)
   have:=hr.inj (show p<rows.length by omega) hi h1
   omega
  rw[this];grind
 ·rw[if_neg e,if_neg (Ne.symm e)];grind
theorem Hw {n m N:Nat} {rows:List Nat} {t:Lp.Tab} (hr:Rows m rows) (hd: ∀i,i<m→i∉rows→n≤t.bs i) {c:Nat} (hc:c<n):xUp N rows t rows.length c=Lp.xb m N t c:=by
 unfold xUp Lp.xb
 exact hr.sum (fun i=>if t.bs i=c then t.X i N else 0) fun i hi hn=>if_neg (by have:=hd i hi hn;omega)
theorem Cj {q:Rat} (h:Lp.sm (10^72) q):few 100000 q:=by
 obtain⟨h1,h2⟩:=Lp.Ay h
 have h3:(10:Nat)^72<LB^24:=by decide+kernel
 exact tV (k:=24) ⟨aL.2 (Nat.lt_of_le_of_lt h1 h3),aL.2 (Nat.lt_of_le_of_lt h2 h3)⟩ (by decide)
theorem So (p:Pg) (n m:Nat) (h:PgN p n m):RO Tryz.prog 145 [.ptr p.v] (Cp n (wO (pC p)) (Lp.opt n m (eQ p n m) (n+m) (wO (pC p)))):=by
 have hml:=h.ml
 have hnl:=h.nl
 refine aH Tryz.func145 rfl rfl (by rw[Tryz.ntmps145];simp) fun bl=> ?_
 rw[Tryz.ntmps145,Tryz.results145]
 refine aE ?_
 simp
 refine aE ?_
 simp
 refine Sj p n m h (fun b' t h4 hp hb=> ?_) (fun b' g t h4 hp hTT hfr hb=> ?_)
 ·rw[Lp.C9 (h4.no hp)]
  simp[Cp]
  refine aB ?_
  simp
  exact aJ [.int .i64 2,.nils,.nilp] 1 (by simp) (by simp[frz,V.cl]) hb
 have hK:=(Lp.kC (h4.kY hp) (show n≤n+m+1 by omega) m (Nat.le_refl _))
 obtain⟨t0,ht0⟩: ∃t0,Lp.kicks n t m=t0:=⟨_,rfl⟩
 rw[ht0] at hTT hK
 have aAW:=hK.inv
 have mQ:=wH n m t0
 have J8: ∀i,i∈Lp.bE n t0 m→t0.bs i<n:=fun i hi=>(Lp.lX.1 hi).2
 obtain⟨rows,rQ⟩: ∃rows,Lp.bE n t0 m=rows:=⟨_,rfl⟩
 rw[rQ] at hTT aAW mQ J8
 have hS0:Stg n m (eQ p n m) (wO (pC p)) rows 0 (okA n) t0:=⟨⟨aAW,J8,fun i hi=>⟨by have:=J8 i hi;omega,by unfold okA;simpa using J8 i hi⟩,fun c hc=>by simpa [okA] using hc.2⟩,Lp.Sel.start fun c hc=>⟨by omega,by simpa [okA] using hc⟩⟩
 clear hK aAW J8
 obtain⟨gT,gR,gB,gF,ids⟩:=g
 have bT:b' gT=_:=hTT.hd
 have bB:b' gB=_:=hTT.ba
 have bG:b' gR=_:=hTT.fE.top
 have bF:b' gF=_:=hTT.fre
 simp only[bV] at bT bB bG bF
 obtain⟨N,hN⟩: ∃N,n+m=N:=⟨_,rfl⟩
 rw[hN] at bT
 have aS0:=hTT.pT
 simp
 refine aE ?_
 simp
 refine aE ?_
 simp[bT]
 refine⟨by omega,by unfold maxLen;omega,fun gO hgO hbO=> ?_⟩
 refine aO ?_
 refine Hg _ rfl rfl ?_
 simp[Pg.v]
 have hcl:p.c.length=n:=h.cl
 have hiv: ∀l:List Int,iv l=uns (l.map (V.int .i64)):=fun l=>by simp[iv,uns]
 refine Uh (g:=gO) (n:=N) (e:=3) (cs:=List.replicate N (.int .i64 0)) (ys:=p.c.map (V.int .i64)) (by simp) (by simp[hiv]) hgO (by simp[uns]) (by simp) (by simp[hcl];omega) (by simp[uns]) (by simp) (by simp) ?_
 have ecp:uns (p.c.map (V.int .i64)++(List.replicate N (V.int .i64 0)).drop (p.c.map (V.int .i64)).length)=iv (lz N (pC p)):=by
  rw[hiv]
  congr 1
  apply List.ext_getElem
  ·simp[hcl];omega
  ·intro j h1 h2
   rw[List.getElem_map,yZ]
   unfold pC
   by_cases e:j<n
   ·rw[List.getElem_append_left (by simp[hcl];exact e)]
    simp[List.getD_eq_getElem?_getD,hcl,e]
   ·rw[List.getElem_append_right (by simp[hcl];omega)]
    simp[List.getD_eq_getElem?_getD,hcl,e]
 rw[ecp]
 obtain⟨bC,hbC⟩: ∃bC,bC=upd b' gO (some ⟨1,iv (lz N (pC p))⟩):=⟨_,rfl⟩
 simp
 refine fG [(0,.ptr p.v),(5,.loc gT 6 0 0),(7,.lsl gO 1 0 N)] 124 bC ⟨rfl,by simp[Pg.v],by rw[hbC];exact sub_eq (by simp)⟩ ?_
 have n6: ∀x,x∈TG.all ⟨gT,gR,gB,gF,ids⟩→ ∃y,b' x=some y:=fun x hx=>by
  simp only[TG.all,List.mem_cons] at hx
  rcases hx with rfl | rfl | rfl | rfl | hx
  ·exact⟨_,bT⟩
  ·exact⟨_,bG⟩
  ·exact⟨_,bB⟩
  ·exact⟨_,bF⟩
  ·obtain⟨q,hq⟩:=List.mem_iff_getElem?.1 hx
   exact⟨_,hTT.fE.row q x hq⟩
 have hgn:gO∉TG.all ⟨gT,gR,gB,gF,ids⟩:=fun hm2=>by
  obtain⟨y,hy⟩:=n6 gO hm2
  rw[hbO] at hy;cases hy
 have bCO:bC gO=some ⟨1,iv (lz N (pC p))⟩:=by rw[hbC];simp
 have hTC:TT bC ⟨gT,gR,gB,gF,ids⟩ (bV n m (eQ p n m) rows t0 (okA n)):=hTT.eG fun x y hx hy=>by rw[hbC,aK _ _ _ _ (fun e=>hgn (by rw[←e];exact hx))];exact hy
 have sC:Sub bl bC:=fun x y hx=>by
  have:=hb x y hx
  rw[hbC,aK _ _ _ _ (fun e=>by rw[e,hbO] at this;cases this)];exact this
 have blO:bl gO=none:=by
  cases hv:bl gO with
  | none => rfl
  | some y => have := hb gO y hv; rw [hbO] at this; cases this
 clear hbC bT bB bG bF hTT n6 hbO hb
 refine aO ?_
 refine aB ?_
 simp
 have hst:=fun K'=>Ai (bl:=bC) (K:=K') n m (eQ p n m) rows ⟨gT,gR,gB,gF,ids⟩ t0 (okA n) (wO (pC p)) 0 (pC p) gO hml hnl mQ hS0 rfl (fun c=>jE h.cm c) (fun c hc=>by unfold pC;rw[List.getD_eq_getElem?_getD,List.getElem?_eq_none (by omega)];rfl) hTC (by rw[hN];exact bCO) hgO hgn
 rw[hN] at hst
 refine hst _ (fun b1 t1 fr1 hS1 hT1 hx1=> ?_) (fun b1 _ hU hF hx1=> ?_)
 rotate_left
 ·obtain⟨x,hx⟩:=hF
  have eo:=Lp.A9 hU hx
  rw[←hN] at eo
  rw[eo]
  simp[Cp]
  exact aJ [.int .i64 3,.nils,.nilp] 1 (by simp) (by simp[frz,V.cl]) fun x y hx=>hx1 x y (sC x y hx) fun hm2=>by have:=hfr x hm2;rw[this] at hx;cases hx
 simp
 have aLX: ∀x y,bl x=some y→b1 x=some y:=fun x y hx=>hx1 x y (sC x y hx) fun hm2=>by have:=hfr x hm2;rw[this] at hx;cases hx
 have b1O:b1 gO=some ⟨1,iv (lz N (pC p))⟩:=hx1 gO _ bCO hgn
 clear hst hx1 hTC bCO sC aS0 hS0 h4 hp
 refine aO ?_
 refine aB ?_
 simp[Pg.v,h.aS]
 refine aG (fun s:aLH=> [(0,.ptr p.v),(5,.loc gT 6 0 0),(7,.lsl gO 1 0 N),(41,.int .i64 n),(42,.int .i64 s.q)]) (fun s=>s.b) (fun s=>s.q≤n∧Stg n m (eQ p n m) (wO (pC p)) rows (s.q+1) s.fr s.t∧TT s.b ⟨gT,gR,gB,gF,ids⟩ (bV n m (eQ p n m) rows s.t s.fr)∧(s.b gO=some ⟨1,iv s.ob⟩∧s.ob.length=N)∧ ∀x y,bl x=some y→s.b x=some y) (fun s=>n - s.q) _ ⟨0,t1,fr1,lz N (pC p),b1⟩ ⟨Nat.zero_le _,hS1,hT1,⟨b1O,by simp⟩,aLX⟩ ⟨rfl,by simp[Pg.v,h.aS],Sub.refl _⟩ ?_
 clear hS1 hT1 b1O aLX
 rintro⟨q,t,fr,ob,b⟩ ⟨hq,hS,hT,⟨hbO,hol⟩,hbl⟩
 simp only at hq hS hT hbO hol hbl
 have wq:IntKind.i64.wrap ((q:Int)+1)=(q:Int)+1:=i64_in (by omega) (by omega)
 refine aE ?_
 simp
 refine aE ?_
 simp
 refine⟨fun hqn=> ?_,fun hqn=> ?_⟩
 ·refine aO (aX ?_)
  refine aE ?_
  simp
  refine aO ?_
  refine Hg _ rfl rfl ?_
  simp
  refine Sm (g:=gO) (n:=N) (e:=3) (u:= .int .i64 0) (cs:=ob.map (V.int .i64)) (by simp) hgO (by simp[hbO,hiv]) (by simp[hol]) (by simp) (by simp) ?_
  have e0:uns (List.replicate N (V.int .i64 0))=iv (lz N fun _=>0):=by rw[←Y1];simp[uns]
  rw[e0]
  simp
  refine aB ?_
  have hqN:q<N:=by omega
  simp[hqN,Nh]
  have hle:(lz N fun c=>if c=q then(-1:Int) else 0)=lz N (uX q):=rfl
  rw[hle]
  obtain⟨b2,hb2⟩: ∃b2,b2=upd b gO (some ⟨1,iv (lz N (uX q))⟩):=⟨_,rfl⟩
  rw[←hb2]
  have b2O:b2 gO=some ⟨1,iv (lz N (uX q))⟩:=by rw[hb2];simp
  have hT2:TT b2 ⟨gT,gR,gB,gF,ids⟩ (bV n m (eQ p n m) rows t fr):=hT.eG fun x y hx hy=>by rw[hb2,aK _ _ _ _ (fun e=>hgn (by rw[←e];exact hx))];exact hy
  have b2l: ∀x y,bl x=some y→b2 x=some y:=fun x y hx=>by
   rw[hb2,aK _ _ _ _ (fun e=>by rw[e,blO] at hx;cases hx)];exact hbl x y hx
  clear hb2
  have hst:=fun K'=>Ai (bl:=b2) (K:=K') n m (eQ p n m) rows ⟨gT,gR,gB,gF,ids⟩ t fr (wO (pC p)) (q+1) (uX q) gO hml hnl mQ hS (Un _ q) (fun c=>by unfold uX;split<;>decide) (fun c hc=>by unfold uX;rw[if_neg (by omega)]) hT2 (by rw[hN];exact b2O) hgO hgn
  rw[hN] at hst
  refine hst _ (fun b3 t3 fr3 hS3 hT3 hx3=> ?_) (fun b3 e=>by omega)
  simp
  refine aB ?_
  simp[wq,aA]
  refine⟨⟨q+1,t3,fr3,lz N (uX q),b3⟩,⟨by simp only;omega,hS3,hT3,⟨hx3 gO _ b2O hgn,by simp⟩,fun x y hx=>hx3 x y (b2l x y hx) fun hm2=>by have:=hfr x hm2;rw[this] at hx;cases hx⟩,by simp only;omega,rfl,by simp[h.aS],Sub.refl _⟩
 ·have hqe:q=n:=by omega
  subst hqe
  have hB:Lp.sW q m (eQ p q m) N (wO (pC p)) (Lp.xb m N t):=by rw[←hN];exact hS.sel.done hS.mid.Ou.1 hS.mid.Ou.2
  have eo:=Lp.tS hB
  rw[←hN] at eo
  rw[eo]
  have hD:Lp.Den (Lp.lid 1000 m) q (Lp.xb m N t):=Lp.Np hS.mid.inv.z (by omega)
  simp only[Cp]
  have e1:fxs q (fun c=>if c<q then Lp.xb m (q+m) t c else 0)=fxs q (Lp.xb m N t):=vT fun c hc=>by rw[if_pos hc,hN]
  have e2:Lp.dot q (wO (pC p)) (fun c=>if c<q then Lp.xb m (q+m) t c else 0)=Lp.dot q (wO (pC p)) (Lp.xb m N t):=Lp.vR fun c hc=>by rw[if_pos hc,hN]
  rw[e1,e2]
  clear hB eo e1 e2
  obtain⟨xs,hxs⟩: ∃xs,Lp.xb m N t=xs:=⟨_,rfl⟩
  have bT:b gT=_:=hT.hd
  have bB:b gB=_:=hT.ba
  have bG:b gR=_:=hT.fE.top
  have hil:=hT.fE.len
  simp only[bV] at bT bB bG hil
  rw[hN] at bT
  have hrl:=mQ.len
  refine aB ?_
  simp[Pg.v,h.aS]
  refine⟨by omega,by unfold maxLen;omega,fun gx hgx hbx=> ?_⟩
  have xT: ¬ gx=gT:=fun e=>by rw[e,bT] at hbx;cases hbx
  have xR: ¬ gx=gR:=fun e=>by rw[e,bG] at hbx;cases hbx
  have xB: ¬ gx=gB:=fun e=>by rw[e,bB] at hbx;cases hbx
  have xi:gx∉ids:=fun hm2=>by
   obtain⟨j,hj⟩:=List.mem_iff_getElem?.1 hm2
   rw[hT.fE.row j gx hj] at hbx;cases hbx
  have Mu: ∀X,Sub bl (upd b gx X):=fun X x y hx=>by
   have:=hbl x y hx
   rw[aK _ _ _ _ (fun e=>by rw[e,hbx] at this;cases this)];exact this
  refine aG (fun k:Nat=> [(0,.ptr p.v),(5,.loc gT 6 0 0),(9,.lsl gx 1 0 q),(59,.int .i64 q),(60,.int .i64 k)]) (fun k=>upd b gx (some ⟨1,fxp q k⟩)) (fun k=>k≤q) (fun k=>q - k) _ 0 (Nat.zero_le _) ⟨rfl,by simp[Pg.v,h.aS],sub_eq (by rw[Qm])⟩ ?_
  intro k hk
  have wk:IntKind.i64.wrap ((k:Int)+1)=(k:Int)+1:=i64_in (by omega) (by omega)
  refine aB ?_
  simp
  refine⟨fun hkq=> ?_,fun hkq=> ?_⟩
  ·refine aD (C1 0 (by decide)) ?_
   simp[hkq]
   simp[wk,aA,show((0:Int):Rat)=0 from rfl,Tt hkq]
   refine⟨k+1,by omega,by omega,rfl,by simp[h.aS],sub_eq rfl⟩
  have hkq:k=q:=by omega
  subst hkq
  rw[Wn]
  simp[xT,Ne.symm xT,bT]
  refine aG (fun i:Nat=> [(0,.ptr p.v),(5,.loc gT 6 0 0),(9,.lsl gx 1 0 k),(71,.lsl gB 1 0 rows.length),(72,.int .i64 rows.length),(73,.int .i64 i)]) (fun i=>upd b gx (some ⟨1,fxs k (xUp N rows t i)⟩)) (fun i=>i≤rows.length) (fun i=>rows.length - i) _ 0 (Nat.zero_le _) ⟨rfl,by simp[Pg.v,h.aS],sub_eq rfl⟩ ?_
  intro i hi
  have wi:IntKind.i64.wrap ((i:Int)+1)=(i:Int)+1:=i64_in (by omega) (by omega)
  refine aE ?_
  simp
  refine aE ?_
  simp
  refine⟨fun hir=> ?_,fun hir=> ?_⟩
  ·refine aO (aX ?_)
   refine aE ?_
   simp[Ne.symm xB,bB,hir]
   obtain⟨gi,hgi,yD,yH,mU⟩:=hT.fE.at i (by simp only[bV];exact hir)
   simp only[bV] at mU
   have hgj: ∀h,ids[i]'h=gi:=fun h=>by rw[List.getElem?_eq_getElem h] at hgi;exact Option.some.inj hgi
   have xgi: ¬ gi=gx:=fun e=>xi (e▸yD)
   have hbk:t.bs (atR rows i)<k:=hS.mid.low _ (cK hir)
   have aMW:(t.bs (atR rows i):Int)<k:=by omega
   have aUT:(N:Int)<(k:Int)+m+1:=by omega
   have hdz:=Lp.sQ hS.mid.inv.z
   have aTH:=Lp.Yn hS.mid.inv.z
   have aSB:=Lp.Yk hS.mid.inv.z (mQ.lt (cK hir)) (show N<k+m+1 by omega)
   have hzc:=Lp.gS hS.mid.inv.z (mQ.lt (cK hir)) (show N<k+m+1 by omega)
   obtain⟨zx,hzx⟩: ∃zx,Lp.zt m (eQ p k m) t (atR rows i) N=zx:=⟨_,rfl⟩
   obtain⟨dx,hdx⟩: ∃dx,Lp.dz m (eQ p k m) t=dx:=⟨_,rfl⟩
   rw[hdx] at hdz aTH hzc
   simp only[hdx] at bT
   rw[hzx] at aSB hzc
   have uQ:=Lp.oJ hml
   obtain⟨td,htd⟩: ∃td,(10:Nat)^66=td:=⟨_,rfl⟩
   have h24:td<LB^24:=by rw[←htd];decide+kernel
   rw[htd] at uQ
   have hln:(lim zx.natAbs).length≤300000:=Nat.le_trans (aL.2 (Nat.lt_of_le_of_lt (show zx.natAbs≤td by omega) h24)) (by decide)
   have hld:(lim dx.natAbs).length≤300000:=Nat.le_trans (aL.2 (Nat.lt_of_le_of_lt (show dx.natAbs≤td by omega) h24)) (by decide)
   have G2:=wF zx dx.natAbs (by omega) hln hld
   have hmk:mkRat zx dx.natAbs=t.X (atR rows i) N:=by
    have e1:((dx.natAbs:Nat):Rat)=(dx:Rat):=by
     rw[←Rat.intCast_natCast,Int.natAbs_of_nonneg (by omega)]
    have e2:(0:Rat)<(dx:Rat):=Rat.intCast_pos.2 hdz
    rw[Rat.mkRat_eq_div,e1,hzc]
    grind
   rw[hmk] at G2
   clear htd h24 uQ
   refine dC aM [0,1,2,3,4,5,6,7,8,9,10,11,12,13,14,15,16,17,18,19,20,21] 1 22 (by kernel_rfl) ?_
   simp[Ne.symm xT,Ne.symm xR,bT,bG,hir,hgj,mU,xgi,hil,show N<k+m+1 by omega,aUT,hbk,aMW,hzx]
   refine aN G2 ?_
   simp[hbk,aMW]
   refine cU (i:=22) (by kernel_rfl) rfl rfl rfl ?_
   have hfv:V.ptr (rq (t.X (atR rows i) N)).c=fv (some (t.X (atR rows i) N)):=rfl
   rw[hfv]
   simp[hbk,Up]
   refine Dy ?_
   simp
   refine aB ?_
   simp[wi,aA]
   refine⟨i+1,by omega,by omega,rfl,by simp[h.aS],sub_eq ?_⟩
   funext x
   simp only[aC]
   split
   ·congr 2
    exact vT fun c _=>At hS.mid.inv.z.ti mQ hir c
   ·rfl
  have hie:i=rows.length:=by omega
  subst hie
  have exs:fxs k (xUp N rows t rows.length)=fxs k xs:=vT fun c hc=>by
   have:=Hw (N:=N) mQ (fun j hj hn=>(hS.mid.inv.dead j hj hn).1) hc
   rw[this,hxs]
  rw[exs]
  refine aD (C1 0 (by decide)) ?_
  simp[show((0:Int):Rat)=0 from rfl]
  rw[hxs] at hD
  have hCi: ∀c,c<k→(pC p c).natAbs≤1000:=fun c _=>jE h.cm c
  have Xc:=hD.sum (W:=1000) hCi (by decide)
  have h72:(k+1)*(1000*Lp.lid 1000 m)≤10^72:=Nat.le_trans (Nat.mul_le_mul (show k+1≤101 by omega) (Nat.mul_le_mul_left _ (Lp.oJ hml))) (by decide+kernel)
  have h66:Lp.lid 1000 m≤10^72:=Nat.le_trans (Lp.oJ hml) (by decide+kernel)
  have hfS: ∀j,j≤k→few 100000 (Lp.S j fun c=>(pC p c:Rat)*xs c):=fun j hj=>Cj (Lp.fP (Xc j hj) h72)
  have hfx: ∀c,c<k→few 100000 (xs c):=fun c hc=>Cj (Lp.fP (hD.sm hc) h66)
  have hfC: ∀c,few 100000 (pC p c:Rat):=fun c=>tV (k:=24) (fits_int (by have:=jE h.cm c;unfold pC;omega)) (by decide)
  have hfm: ∀c,c<k→few 100000 (xs c*(pC p c:Rat)):=fun c hc=>Cj (Lp.fP (Lp.Nm (Lp.fP (hD.sm hc) (Lp.oJ hml)) (Lp.aC2 (hCi c hc) (by decide))) (by decide+kernel))
  clear Xc h72 h66
  refine aG (fun j:Nat=> [(0,.ptr p.v),(9,.lsl gx 1 0 k),(102,.lsl gx 1 0 k),(103,.int .i64 k),(104,.int .i64 j),(13,fv (some (Lp.S j fun c=>(pC p c:Rat)*xs c)))]) (fun _=>upd b gx (some ⟨1,fxs k xs⟩)) (fun j=>j≤k) (fun j=>k - j) _ 0 (Nat.zero_le _) ⟨rfl,by simp[Lp.S],Sub.refl _⟩ ?_
  intro j hj
  have wj:IntKind.i64.wrap ((j:Int)+1)=(j:Int)+1:=i64_in (by omega) (by omega)
  refine aE ?_
  simp
  refine aE ?_
  simp
  refine⟨fun hjk=> ?_,fun hjk=> ?_⟩
  ·refine aO (aX ?_)
   refine aB ?_
   simp[hjk,Pg.v,h.c]
   refine aD (C1 (pC p j) (by have:=hCi j hjk;omega)) ?_
   simp
   refine aD (r:=fv (some (xs j*(pC p j:Rat)))) (Lt _ _ (hfx j hjk) (hfC j)) ?_
   simp
   have aM9:(Lp.S j fun c=>(pC p c:Rat)*xs c)+xs j*(pC p j:Rat)=Lp.S (j+1) fun c=>(pC p c:Rat)*xs c:=by rw[Lp.S];grind
   have hpl:=Bh _ _ (hfS j (by omega)) (hfm j hjk)
   rw[aM9] at hpl
   refine aD (r:=fv (some (Lp.S (j+1) fun c=>(pC p c:Rat)*xs c))) hpl ?_
   simp
   refine aB ?_
   simp[wj,aA]
   refine⟨j+1,by omega,by omega,rfl,by simp[Pg.v,h.c],Sub.refl _⟩
  ·have hje:j=k:=by omega
   subst hje
   rw[hxs]
   have hf1:frz (dropB (upd b gx (some ⟨1,fxs j xs⟩)) bl) 1 (.lsl gx 1 0 j)=some (.sl (fxs j xs)):=cY hgx (by
    cases hv:bl gx with
    | none => rfl
    | some y => have := hbl gx y hv; rw [hbx] at this; cases this) (bA _ _ _) (by simp) (aC1 _ _)
   refine aJ [.int .i64 0,.lsl gx 1 0 j,fv (some (Lp.dot j (wO (pC p)) xs))] 2 (by simp;rfl) ?_ (Mu _)
   simp only[retV]
   rw[P4]
   simp only[List.mapM_cons,List.mapM_nil,hf1,Q8]
   simp[frz]

noncomputable def Em (n : Nat) (C : Nat → Rat) : Option (Option (Nat → Rat)) → V
 | none => .agg [.int .i64 2, .sl [], .bool false, .sl [], .sl []]
 | some none => .agg [.int .i64 3, .sl [], .bool false, .sl [], .sl []]
 | some (some x) => .agg (.int .i64 0 :: .sl (rqs n x) :: (rq (Lp.dot n C x)).c)
theorem Ra {p:Pg} {n m:Nat} (h:PgN p n m) (c:Nat):Lp.isInt (wO (pC p) c)∧ -((1000:Nat):Rat)≤wO (pC p) c∧wO (pC p) c≤((1000:Nat):Rat):=by
 have:(pC p c).natAbs≤1000:=jE h.cm c
 refine⟨⟨_,rfl⟩,?_,?_⟩
 ·rw[show -((1000:Nat):Rat)=((-1000:Int):Rat) by decide+kernel];exact Rat.intCast_le_intCast.2 (by omega)
 ·rw[show((1000:Nat):Rat)=((1000:Int):Rat) by decide+kernel];exact Rat.intCast_le_intCast.2 (by omega)
theorem Tv {p:Pg} {n m:Nat} (h:PgN p n m) {c:Nat} (hc:n≤c):wO (pC p) c=0:=by
 show((pC p c:Int):Rat)=0
 rw[show pC p c=0 by unfold pC;rw[List.getD_eq_getElem?_getD,List.getElem?_eq_none (by have:=h.cl;omega)];rfl];rfl
theorem aAX {n m b:Nat} {t:Lp.Tab} {w:Nat→Rat} (hz: ∀i,i<m→ ¬ t.bs i<n→t.X i b=0) (hw:w b=0): -Lp.rc m w t b=Lp.dot n w (Lp.xb m b t):=by
 have:Lp.dot n w (Lp.xb m b t)=Lp.S m fun i=>t.X i b*w (t.bs i):=by
  unfold Lp.dot Lp.xb
  exact Lp.yL t.bs (fun j=>t.X j b) w hz
 rw[this]
 unfold Lp.rc
 rw[hw];grind
theorem Dm {bl:Int→Option Blk} {K:V→(Int→Option Blk)→Prop} (p:Pg) (n m:Nat) (h:PgN p n m) (g:SG) (rows:List Nat) (U:Lp.Tab) (hr:Rows m rows) (hI:oY n m (eQ p n m) rows U) (G2: ∀i,i∈rows→U.bs i<n) (hS:SS bl g (snV rows n (n+m) m (wO (pC p)) U))
  (hT: ∀b' t,oY n m (eQ p n m) rows t→(∀i,i∈rows→t.bs i<n)→Lp.sW n m (eQ p n m) (n+m) (wO (pC p)) (Lp.xb m (n+m) t)→SS b' g (snV rows n (n+m) m (wO (pC p)) t)→(∀x y,bl x=some y→x∉g.all→b' x=some y)→K (.bool true) b')
  (hF: ∀b',Lp.Unb n m (eQ p n m) (n+m) (wO (pC p))→(∃x,Lp.jR n m (eQ p n m) (n+m) x)→(∀x y,bl x=some y→x∉g.all→b' x=some y)→K (.bool false) b'):
  bY Tryz.prog 190 [.loc g.T 4 0 0,.bool true] bl K:=by
 have hml:=h.ml
 have hnl:=h.nl
 have R:Lp.uU n m (n+m) (n+1) n (n+m+1) (Lp.wl (wO (pC p))) (fun c=>c<n) rows (Lp.okL m n (wO (pC p))):=Lp.Xh (by omega) (by omega)
 obtain⟨e,h1,h2,h3⟩:=R.ends hI
 have hlw:=R.low (fun c hc=>hc) h3 G2 e (Nat.le_refl _)
 have hIe:=h3 e (Nat.le_refl _)
 have Kk:=Lp.zB hIe hlw h1
 have hR:Oa n m n (eQ p n m) rows true (wO (pC p)) (Lp.okL m n (wO (pC p))):=by
  refine⟨hml,hnl,by omega,hr,fun T hT i hi hn=>(hT.dead i hi hn).1,fun c _=>Ra h c,fun T hT j hj hb hok=> ?_⟩
  obtain⟨q,hq,e1⟩:=hb
  obtain⟨z,_,g2,_⟩:=hok
  have e2:=Lp.lT hT.z.ti (Lp.wl (wO (pC p)) z) (hr.lt (cK hq))
  simp only at e1
  rw[e1] at e2
  simp only at g2
  rw[e2] at g2
  exact absurd g2 (by decide)
 refine l10Run_cp hR g U e (fun T hT j hj hnb=> ?_) h1 h2 h3 hS (fun b' hf hS' hx=> ?_) (fun b' k hk hl hx=> ?_)
 ·have hV:=hR.view hT
  have hco:(snV rows n (n+m) m (wO (pC p)) T).co j=Lp.rc m (wO (pC p)) T j:=by
   show Lp.rc m (wO (pC p)) T (if j<n then j else n+m)=_
   rw[if_pos hj]
  exact⟨_,Lp.Kf,Q4 hV j hj hnb hco⟩
 ·rcases Kk with ⟨_,g2⟩| ⟨⟨k,g1,_⟩,_⟩
  ·exact hT b' _ hIe hlw g2 hS' hx
  ·rw[hf] at g1;cases g1
 ·rcases Kk with ⟨g1,_⟩| ⟨_,g2⟩
  ·rw[hk] at g1;cases g1
  ·exact hF b' g2 ⟨_,Lp.tX hIe.z.ti hIe.nn (hIe.zero hlw)⟩ hx
theorem Ut {bl:Int→Option Blk} {k:Int} {v x:V} {a:Bool} {b c:List (List V)} (hc:V.cl v=false) (h:frz bl 1 v=some x):frz bl 2 (.agg [.int .i64 k,v,.bool a,.sl b,.sl c])=some (.agg [.int .i64 k,x,.bool a,.sl b,.sl c]):=by
 rw[frz,if_neg (by simp only[List.all_cons,hc];simp)]
 simp[List.mapM_cons,h,frz]
structure aM6 where
 j:Nat
 gX:Int
 b:Int→Option Blk
set_option maxHeartbeats 2000000 in
theorem Ak (p:Pg) (n m:Nat) (h:PgN p n m):RO Tryz.prog 123 [.agg p.v] (Em n (wO (pC p)) (Lp.opt n m (eQ p n m) (n+m) (wO (pC p)))):=by
 have hml:=h.ml
 have hnl:=h.nl
 refine aH Tryz.func123 rfl rfl (by rw[Tryz.ntmps123];simp) fun bl=> ?_
 rw[Tryz.ntmps123,Tryz.results123]
 refine aE ?_
 simp[Pg.v]
 intro g1 hg1 hb1
 intro g2 hg2 Zl hb2
 obtain⟨b0,hb0⟩: ∃b0,b0=upd bl g2 (some ⟨5,[[.int .i64 0,.nils,.bool false,.nils,.nils]]⟩):=⟨_,rfl⟩
 refine cX 1 1 (.ptr p.v) b0 (by rw[hb0];intro z b hz;simp only[aC] at hz ⊢;grind) (by simp[frz,dropB,hb0,hb1,Zl,Ne.symm Zl,V.cl,Pg.v]) ?_
 refine fG [(1,.ptr p.v),(2,.loc g2 5 0 0)] 87 b0 ⟨rfl,by simp[Pg.v],Sub.refl _⟩ ?_
 have s0:Sub bl b0:=fun x y hx=>by rw[hb0,aK _ _ _ _ (fun e=>by rw[e,hb2] at hx;cases hx)];exact hx
 have b02:b0 g2=some ⟨5,[[.int .i64 0,.nils,.bool false,.nils,.nils]]⟩:=by rw[hb0];simp
 clear hb0 hb1 hg1 Zl
 refine aE ?_
 simp[Pg.v]
 refine Y4 p n m h fun b g hS hal hsb=> ?_
 simp
 refine aE ?_
 simp
 refine Ln p n m h g hS fun b' T r h4 hS' hx=> ?_
 have hV:oO ((snV (List.range m) (n+m) (n+m) m (Lp.aZ n m) T).co (n+m)):=by
  show oO (Lp.rc m (Lp.aZ n m) T (if n+m<n+m then n+m else n+m))
  exact Lp.fP (h4.inv.z.rc (fun c _=>uV n m c) (c:=if n+m<n+m then n+m else n+m) (by split<;>omega) (by decide)) (uO hml)
 have hco:(snV (List.range m) (n+m) (n+m) m (Lp.aZ n m) T).co (n+m)=Lp.rc m (Lp.aZ n m) T (n+m):=by
  show Lp.rc m (Lp.aZ n m) T (if n+m<n+m then n+m else n+m)=_
  rw[if_neg (by omega)]
 obtain⟨co,hcD⟩: ∃co,(snV (List.range m) (n+m) (n+m) m (Lp.aZ n m) T).co=co:=⟨_,rfl⟩
 rw[hcD] at hV hco
 obtain⟨N,hN⟩: ∃N,n+m=N:=⟨_,rfl⟩
 have bT:b' g.T=some ⟨4,[[.int .i64 N,.lsl g.R 1 0 m,.lsl g.B 1 0 m,.lsl g.C 3 0 (N+1)]]⟩:=by
  have:=hS'.hd
  simp only[snV,List.length_range] at this
  rw[←hN];exact this
 have bC:b' g.C=some ⟨3,rqs (N+1) co⟩:=by
  rw[←hN,←hcD];exact hS'.cst
 rw[hN] at hV hco
 have l3: ∀q:Rat,(rq q).c.length=3:=fun _=>rfl
 have t3: ∀q:Rat,(rq q).c.take 3=(rq q).c:=fun _=>rfl
 have hN1:(N:Int)<(N:Int)+1:=by omega
 have W1:Sub b0 b':=fun x y hx2=>hx x y (hsb x y hx2) fun hm2=>by have:=hal x hm2;rw[this] at hx2;cases hx2
 have dM:Sub bl b':=fun x y hx2=>W1 x y (s0 x y hx2)
 have b'2:=W1 _ _ b02
 simp
 refine fG [(1,.ptr p.v),(2,.loc g2 5 0 0),(3,.loc g.T 4 0 0)] 87 b' ⟨rfl,by simp[Pg.v],Sub.refl _⟩ ?_
 refine aO (aO ?_)
 refine bU aM (by kernel_rfl) ?_
 simp[bT,bC,hN1,l3,t3]
 refine aN (gK (cE hV)) ?_
 simp
 refine aB ?_
 simp
 refine⟨fun hne=> ?_,fun heq=> ?_⟩
 ·have hno: ¬ Lp.rc m (Lp.aZ n m) T (n+m)=0:=fun e=>by
   rw[hN] at e
   rw[e] at hco
   exact hne hco
  rw[Lp.C9 (h4.no hno)]
  simp[b'2]
  exact aJ [.agg [.int .i64 2,.nils,.bool false,.nils,.nils]] 1 (by simp) (by simp[frz,Em,V.cl]) fun x y hx=>by
   show upd b' g2 _ x=some y
   rw[aK _ _ _ _ (fun e=>by rw[e,hb2] at hx;cases hx)]
   exact dM x y hx
 have hp0:Lp.rc m (Lp.aZ n m) T (n+m)=0:=by rw[hN,←hco];exact heq
 refine aE ?_
 simp
 have lv:5≤p.v.length:=Nat.le_refl 5
 have tv:p.v.take 5=p.v:=rfl
 rw[tv]
 refine⟨lv,R0 p n m h g T h4 hp0 hS' fun b1 g' hS1 aK0 hx1=> ?_⟩
 have hI1:=(Lp.kC (h4.kY hp0) (show n≤n+m+1 by omega) m (Nat.le_refl _)).inv
 have hr1:=wH n m (Lp.kicks n T m)
 have hw1: ∀i,i∈Lp.bE n (Lp.kicks n T m) m→(Lp.kicks n T m).bs i<n:=fun i hi=>(Lp.lX.1 hi).2
 obtain⟨U,hU⟩: ∃U,Lp.kicks n T m=U:=⟨_,rfl⟩
 rw[hU] at hI1 hr1 hw1 hS1
 obtain⟨rows,rQ⟩: ∃rows,Lp.bE n U m=rows:=⟨_,rfl⟩
 rw[rQ] at hI1 hr1 hw1 hS1
 have gb: ∀x,x∈g.all→b0 x=none:=hal
 have hg2:g2∉g.all:=fun hm2=>by rw[gb g2 hm2] at b02;cases b02
 have aK8:Sub b0 b1:=fun x y hx2=>hx1 x y (W1 x y hx2) fun hm2=>by rw[gb x hm2] at hx2;cases hx2
 have al1: ∀x,x∈g'.all→b0 x=none:=fun x hm2=>by
  cases hv:b0 x with
  | none => rfl
  | some y => have := aK0 x hm2; rw [W1 x y hv] at this; cases this
 simp
 clear hU aK0 hx1 hS' hx hS hal hsb hV hco hcD bT bC dM W1 b'2 heq h4 hp0 gb hg2
 refine aO ?_
 refine aB ?_
 simp
 refine Dm p n m h g' rows U hr1 hI1 hw1 hS1 (fun b2 t hI2 hw2 aNB hS2 hx2=> ?_) (fun b2 hU2 hF2 hx2=> ?_)
 rotate_left
 ·obtain⟨x,hx⟩:=hF2
  rw[Lp.A9 hU2 hx]
  have Js:Sub b0 b2:=fun x y hx=>hx2 x y (aK8 x y hx) fun hm2=>by rw[al1 x hm2] at hx;cases hx
  have b22:=Js _ _ b02
  simp[b22]
  exact aJ [.agg [.int .i64 3,.nils,.bool false,.nils,.nils]] 1 (by simp) (by simp[frz,Em,V.cl]) fun x y hx=>by
   show upd b2 g2 _ x=some y
   rw[aK _ _ _ _ (fun e=>by rw[e,hb2] at hx;cases hx)]
   exact Js x y (s0 x y hx)
 rw[Lp.tS aNB]
 have Js:Sub b0 b2:=fun x y hx=>hx2 x y (aK8 x y hx) fun hm2=>by rw[al1 x hm2] at hx;cases hx
 simp
 have aS4:=hI2.z.ti
 have hz2:=hI2.zero hw2
 have Cw:=aAX (n:=n) (b:=n+m) hz2 (Tv h (show n≤n+m by omega))
 have hV:oO ((snV rows n (n+m) m (wO (pC p)) t).co n):=by
  show oO (Lp.rc m (wO (pC p)) t (if n<n then n else n+m))
  exact Lp.fP (hI2.z.rc (fun c _=>Ra h c) (c:=if n<n then n else n+m) (by split<;>omega) (by decide)) (uO hml)
 have hco:(snV rows n (n+m) m (wO (pC p)) t).co n=Lp.rc m (wO (pC p)) t (n+m):=by
  show Lp.rc m (wO (pC p)) t (if n<n then n else n+m)=_
  rw[if_neg (by omega)]
 obtain⟨l,hl⟩: ∃l,rows.length=l:=⟨_,rfl⟩
 obtain⟨gT,gR,gB,gC,ids⟩:=g'
 obtain⟨Z,hZ⟩: ∃Z,(snV rows n (n+m) m (wO (pC p)) t).Z=Z:=⟨_,rfl⟩
 obtain⟨co,hcD⟩: ∃co,(snV rows n (n+m) m (wO (pC p)) t).co=co:=⟨_,rfl⟩
 rw[hcD] at hV hco
 obtain⟨n1,hn1⟩: ∃n1,n+1=n1:=⟨_,rfl⟩
 have bT:b2 gT=some ⟨4,[[.int .i64 n,.lsl gR 1 0 l,.lsl gB 1 0 l,.lsl gC 3 0 n1]]⟩:=by
  have:=hS2.hd
  simp only[snV,hl,hn1] at this
  exact this
 have bC:b2 gC=some ⟨3,rqs n1 co⟩:=by
  rw[←hn1,←hcD];exact hS2.cst
 have bB:b2 gB=some ⟨1,iv (lb l fun q=>t.bs (atR rows q))⟩:=by
  have:=hS2.ba
  simp only[snV,hl] at this
  exact this
 have bR:b2 gR=some ⟨1,ids.map fun x=> [.lsl x 3 0 n1]⟩:=by
  have:=hS2.top
  simp only[snV,hn1] at this
  exact this
 have hnn:(n:Int)<n1:=by omega
 have aLY:n<n1:=by omega
 have b22:=Js _ _ b02
 have hn4:=vE (some (co n)) (okS (cE hV))
 refine fG [(1,.ptr p.v),(2,.loc g2 5 0 0),(4,.loc gT 4 0 0)] 87 b2 ⟨rfl,by simp[Pg.v],Sub.refl _⟩ ?_
 refine iD (fun g5:Int=> [(1,.ptr p.v),(2,.loc g2 5 0 0),(4,.loc gT 4 0 0),(5,.loc g5 5 0 0)]) (fun g5=>upd b2 g5 (some ⟨5,[.int .i64 0:: .nils::(rq (-co n)).c]⟩)) (fun g5=>0≤g5∧b2 g5=none) 87 ?_ ?_
 ·refine eR aM b2 (Sub.refl _) [0,1,2,3,4,5,6,7,8,9,10] 3 13 (by kernel_rfl) ?_
  simp[bT,bC,hnn,aLY,l3,t3]
  refine aN (v:= .agg (ro (some (-co n))).c) hn4 ?_
  simp[RT.c]
  refine Dw 11 12 false false ?_ ?_
  ·simp
   refine Dq 12 false ?_
   simp
   intro g5 hg5 hb5
   refine⟨fun x y hx=>(by rw[aK _ _ _ _ (fun e=>by rw[e,hb5] at hx;cases hx)];exact hx),Dq 13 true ?_⟩
   simp
   refine Dd ?_
   simp[aI]
   exact⟨g5,⟨hg5,hb5⟩,rfl,by simp,sub_eq (by simp[RT.c])⟩
  ·simp
   intro g5 hg5 hb5
   refine⟨fun x y hx=>(by rw[aK _ _ _ _ (fun e=>by rw[e,hb5] at hx;cases hx)];exact hx),Dq 11 false ?_⟩
   simp
   refine⟨fun x y hx=>(by rw[aK _ _ _ _ (fun e=>by rw[e,hb5] at hx;cases hx)];exact hx),Dq 13 true ?_⟩
   simp
   refine Dd ?_
   simp[aI]
   exact⟨g5,⟨hg5,hb5⟩,rfl,by simp,sub_eq (by simp[RT.c])⟩
 rintro g5 ⟨hg5,hb5⟩
 have hvq:(rq (-co n)).c=(rq (Lp.dot n (wO (pC p)) fun c=>if c<n then Lp.xb m (n+m) t c else 0)).c:=by
  rw[hco,Cw,Lp.vR (x:=Lp.xb m (n+m) t) (y:=fun c=>if c<n then Lp.xb m (n+m) t c else 0) fun c hc=>by rw[if_pos hc]]
 obtain⟨vq,aNP⟩: ∃vq,Lp.dot n (wO (pC p)) (fun c=>if c<n then Lp.xb m (n+m) t c else 0)=vq:=⟨_,rfl⟩
 rw[aNP] at hvq
 rw[hvq]
 simp only[RT.c]
 refine cQ (g:=g5) (s:=5) (els:= [[.int .i64 0,.nils,.bool (rq vq).neg,.sl (iv (rq vq).m),.sl (iv (rq vq).d)]]) 0 1 3 (by simp) rfl rfl fun gX hgX hX5=> ?_
 simp[hX5] at hgX
 obtain⟨b3,hb3⟩: ∃b3,b3=upd (upd b2 g5 (some ⟨5,[[.int .i64 0,.lsl gX 3 0 0,.bool (rq vq).neg,.sl (iv (rq vq).m),.sl (iv (rq vq).d)]]⟩)) gX (some ⟨3,[]⟩):=⟨_,rfl⟩
 have b35:b3 g5=some ⟨5,[[.int .i64 0,.lsl gX 3 0 0,.bool (rq vq).neg,.sl (iv (rq vq).m),.sl (iv (rq vq).d)]]⟩:=by rw[hb3];simp[Ne.symm hX5]
 have b3X:b3 gX=some ⟨3,rqs 0 fun _=>0⟩:=by rw[hb3];simp[rqs]
 have s3:Sub b2 b3:=fun x y hx=>by
  have x1:x≠g5:=fun e=>by rw[e,hb5] at hx;cases hx
  have x2:x≠gX:=fun e=>by rw[e,hgX] at hx;cases hx
  rw[hb3];simp[x1,x2,hx]
 refine fG [(1,.ptr p.v),(2,.loc g2 5 0 0),(4,.loc gT 4 0 0),(5,.loc g5 5 0 0)] 87 b3 ⟨rfl,by simp,by rw[hb3];exact sub_eq (by simp)⟩ ?_
 clear hb3
 refine aO ?_
 refine aB ?_
 simp
 refine aG (fun q:aM6=> [(1,.ptr p.v),(2,.loc g2 5 0 0),(4,.loc gT 4 0 0),(5,.loc g5 5 0 0),(6,.int .i64 q.j)]) (fun q=>q.b) (fun q=>q.j≤n∧q.b g5=some ⟨5,[[.int .i64 0,.lsl q.gX 3 0 q.j,.bool (rq vq).neg,.sl (iv (rq vq).m),.sl (iv (rq vq).d)]]⟩∧q.b q.gX=some ⟨3,rqs q.j fun _=>0⟩∧(q.gX≠g5∧b2 q.gX=none∧(0≤q.gX∨q.j=0))∧Sub b2 q.b) (fun q=>n - q.j) _ ⟨0,gX,b3⟩ ⟨Nat.zero_le _,b35,b3X,⟨hX5,hgX,.inr rfl⟩,s3⟩ ⟨rfl,by simp,Sub.refl _⟩ ?_
 clear s3 b35 b3X hgX hX5
 rintro⟨j,gX,b⟩ ⟨hj,bL5,bX,⟨nX5,Xbl,aNF⟩,hsb⟩
 simp only at hj bL5 bX nX5 Xbl aNF hsb
 have wj:IntKind.i64.wrap ((j:Int)+1)=(j:Int)+1:=i64_in (by omega) (by omega)
 refine aO ?_
 refine aB ?_
 simp[Pg.v,h.aS]
 refine⟨fun hjn=> ?_,fun hjn=> ?_⟩
 ·refine aO (aX ?_)
  have hR0:=dP 0 (by decide)
  refine eR aM (rem b gX) (eH b gX) [0,1,2] 4 6 (by kernel_rfl) ?_
  simp[Ne.symm nX5,bL5]
  refine aN hR0 ?_
  simp
  refine Dq 3 false ?_
  simp[RT.c]
  intro g4 hg4 hb4
  have n45:g4≠g5:=fun e=>by rw[e,bL5] at hb4;cases hb4
  have n4X:g4≠gX:=fun e=>by rw[e,bX] at hb4;cases hb4
  have wY: ∀X,Sub (rem b gX) (upd b g4 X):=fun X z y hz=>by
   rw[aF] at hz
   rw[aC]
   grind
  refine⟨wY _,Dq 4 false ?_⟩
  have tkC:(rqs j fun _=>(0:Rat)).take j=rqs j fun _=>0:=List.take_of_length_le (by simp)
  simp[n4X,Ne.symm n4X,appV,elsV,Int.not_lt.2 hg4,bX,tkC]
  have hsn:(rqs j fun _=>(0:Rat))++ [[V.bool (rq 0).neg,.sl (iv (rq 0).m),.sl (iv (rq 0).d)]]=rqs (j+1) fun _=>0:=by rw[kJ];rfl
  rw[hsn]
  refine⟨by omega,fun gN hgN hbN=> ?_⟩
  have nN:gN≠g5∧gN≠g4:=by
   by_cases e:gN=gX
   ·subst e
    exact⟨nX5,Ne.symm n4X⟩
   ·obtain⟨q1,q2⟩:=hbN e
    exact⟨fun e=>(by rw[e,bL5] at q2;cases q2),q1⟩
  obtain⟨nN5,nN4⟩:=nN
  have blN:b2 gN=none:=by
   by_cases e:gN=gX
   ·rw[e];exact Xbl
   ·cases hv:b2 gN with
    | none => rfl
    | some y => have := hsb gN y hv; rw [(hbN e).2] at this; cases this
  have jG: ∀X Y,Sub (rem b gX) (upd (rem (upd b g4 X) gX) gN Y):=fun X Y z y hz=>by
   rw[aF] at hz
   rw[aC,aF,aC]
   grind
  have mK: ∀X Y Z,Sub (upd (upd (rem b gX) gN Y) g5 Z) (upd (upd (rem (upd b g4 X) gX) gN Y) g5 Z):=fun X Y Z z y hz=>by
   simp only[aC,aF] at hz ⊢
   grind
  refine⟨jG _ _,Dq 5 false ?_⟩
  simp
  refine⟨jG _ _,Dq 6 true ?_⟩
  simp[Ne.symm nN5,Ne.symm nX5,n45,Ne.symm n45,bL5]
  refine Dd ?_
  simp
  refine aB ?_
  simp[wj,aA]
  obtain⟨b4,kQ⟩: ∃b4,b4=upd (upd (rem b gX) gN (some ⟨3,rqs (j+1) fun _=>0⟩)) g5 (some ⟨5,[[.int .i64 0,.lsl gN 3 0 (j+1),.bool (rq vq).neg,.sl (iv (rq vq).m),.sl (iv (rq vq).d)]]⟩):=⟨_,rfl⟩
  refine⟨⟨j+1,gN,b4⟩,⟨by simp only;omega,by rw[kQ];simp,by rw[kQ];simp[nN5],⟨nN5,blN,.inl hgN⟩,fun x y hx=> ?_⟩,by simp only;omega,rfl,by simp[Pg.v,h.aS],by rw[kQ];exact mK _ _ _⟩
  have x1:x≠g5:=fun e=>by rw[e,hb5] at hx;cases hx
  have x2:x≠gN:=fun e=>by rw[e,blN] at hx;cases hx
  have x3:x≠gX:=fun e=>by rw[e,Xbl] at hx;cases hx
  simp only
  rw[kQ];simp[x1,x2,x3];exact hsb x y hx
 have hje:j=n:=by omega
 subst hje
 simp
 have b5:b gT=_:=hsb _ _ bT
 have b5B:b gB=_:=hsb _ _ bB
 have b5R:b gR=_:=hsb _ _ bR
 have hil:ids.length=l:=by have:=hS2.len;simp only[snV,hl] at this;exact this
 have hll:l≤m:=by rw[←hl];exact hr1.len
 have oX: ∀x y,b2 x=some y→x≠gX:=fun x y hx e=>by rw[e,Xbl] at hx;cases hx
 have o5: ∀x y,b2 x=some y→x≠g5:=fun x y hx e=>by rw[e,hb5] at hx;cases hx
 have xT:=oX _ _ bT
 have xB:=oX _ _ bB
 have xR:=oX _ _ bR
 refine aO ?_
 refine aB ?_
 simp[b5]
 refine aG (fun q:Nat=> [(2,.loc g2 5 0 0),(4,.loc gT 4 0 0),(5,.loc g5 5 0 0),(60,.lsl gB 1 0 l),(61,.int .i64 l),(62,.int .i64 q)]) (fun q=>upd b gX (some ⟨3,rqs j (xUp (j+m) rows t q)⟩)) (fun q=>q≤l) (fun q=>l - q) _ 0 (Nat.zero_le _) ⟨rfl,by simp,sub_eq (by
  funext x;simp only[aC];split
  ·rename_i e
   rw[e,bX];rfl
  ·rfl)⟩ ?_
 intro q hq
 have wq:IntKind.i64.wrap ((q:Int)+1)=(q:Int)+1:=i64_in (by omega) (by omega)
 refine aE ?_
 simp
 refine aE ?_
 simp
 refine⟨fun hql=> ?_,fun hql=> ?_⟩
 ·have Oc:(q:Int)<l:=by omega
  obtain⟨gi,hgi⟩: ∃gi,ids[q]? =some gi:=⟨_,List.getElem?_eq_getElem (show q<ids.length by omega)⟩
  have hgj: ∀h,ids[q]'h=gi:=fun h=>by rw[List.getElem?_eq_getElem h] at hgi;exact Option.some.inj hgi
  have hgm:=List.mem_of_getElem? hgi
  have yH:0≤gi:=hS2.pos gi hgm
  have b2i:b2 gi=some ⟨3,rqs n1 (Z q)⟩:=by
   have:=hS2.row q gi hgi
   rw[hZ] at this
   rw[←hn1];exact this
  have xi:=oX _ _ b2i
  have bi:b gi=_:=hsb _ _ b2i
  have hqm:=cK (rows:=rows) (show q<rows.length by rw[hl];exact hql)
  have hbl:t.bs (atR rows q)<j:=hw2 _ hqm
  have hZq:Z q j=t.X (atR rows q) (j+m):=by
   rw[←hZ]
   show t.X (atR rows q) (if j<j then j else j+m)=_
   rw[if_neg (by omega)]
  have htq:oO (Z q j):=by
   rw[hZq];exact Lp.fP (hI2.z.sm (hr1.lt hqm) (by omega)) (pN hml)
  refine aO (aX ?_)
  refine aE ?_
  simp[Ne.symm xB,xB,b5B,hql,Oc]
  obtain⟨bc,hbc⟩: ∃bc,bc=upd b gX (some ⟨3,rqs j (xUp (j+m) rows t q)⟩):=⟨_,rfl⟩
  have bcX:bc gX=some ⟨3,rqs j (xUp (j+m) rows t q)⟩:=by rw[hbc];simp
  have bcx: ∀x,x≠gX→bc x=b x:=fun x hx=>by rw[hbc,aK _ _ _ _ hx]
  have bc5:=(bcx g5 (Ne.symm nX5)).trans bL5
  have bcT:=(bcx gT xT).trans b5
  have bcR:=(bcx gR xR).trans b5R
  have bci:=(bcx gi xi).trans bi
  rw[←hbc]
  have htl:=cE htq
  have hcp:=Eu (rq (Z q j)) (Nat.le_trans htl.1 (by decide)) (Nat.le_trans htl.2 (by decide))
  obtain⟨kk,hkk⟩: ∃kk,t.bs (atR rows q)=kk:=⟨_,rfl⟩
  rw[hkk] at hbl
  have Wv:(kk:Int)<j:=by omega
  refine eR aM (rem bc gX) (eH bc gX) [0,1,2,3,4,5,6,7,8,9,10,11,12,13,14,15,16,17] 1 18 (by kernel_rfl) ?_
  simp[nX5,Ne.symm nX5,xT,xR,xi,bc5,bcT,bcR,bci,hql,Oc,hil,hgj,hnn,aLY,l3,t3,hkk,hbl,Wv]
  refine aN hcp ?_
  simp[hkk,hbl,Wv]
  refine Dq 18 true ?_
  simp[bcX,hbl,RT.c]
  refine Dd ?_
  simp
  refine aB ?_
  simp[wq,aA]
  have rI:(rqs j (xUp (j+m) rows t q)).set kk (ro (some (Z q j))).c=rqs j (xUp (j+m) rows t (q+1)):=by
   rw[yO _ _ hbl]
   refine bN fun c _=> ?_
   rw[←hkk,hZq]
   exact At aS4 hr1 (by rw[hl];exact hql) c
  refine⟨q+1,by omega,by omega,rfl,by simp,?_⟩
  rw[←rI]
  intro z y hz
  by_cases e:z=gX
  ·subst e
   rw[bA] at hz
   simpa [RT.c,oC] using hz
  ·rw[aK _ _ _ _ e] at hz
   have:=bcx z e
   simp[e,this,hz]
 ·have hqe:q=l:=by omega
  subst hqe
  have hxa:rqs j (xUp (j+m) rows t q)=rqs j fun c=>if c<j then Lp.xb m (j+m) t c else 0:=bN fun c hc=>by
   rw[if_pos hc,←hl];exact Hw hr1 (fun i hi hn=>(hI2.dead i hi hn).1) hc
  rw[hxa]
  have b6:b g2=_:=hsb _ _ b22
  have x2:=oX _ _ b22
  have x25:=o5 _ _ b22
  refine aB ?_
  simp[nX5,Ne.symm nX5,x2,Ne.symm x2,x25,Ne.symm x25,bL5,b6]
  have blb:Sub bl b:=fun x y hx=>hsb x y (Js x y (s0 x y hx))
  have blX:bl gX=none:=by
   cases hv:bl gX with
   | none => rfl
   | some y => have := Js gX y (s0 gX y hv); rw [Xbl] at this; cases this
  refine aJ [.agg [.int .i64 0,.lsl gX 3 0 j,.bool (rq vq).neg,.sl (iv (rq vq).m),.sl (iv (rq vq).d)]] 2 (by simp) ?_ fun x y hx=> ?_
  ·have hfX: ∀B:Int→Option Blk,B gX=some ⟨3,rqs j fun c=>if c<j then Lp.xb m (j+m) t c else 0⟩→frz (dropB B bl) 1 (.lsl gX 3 0 j)=some (.sl (rqs j fun c=>if c<j then Lp.xb m (j+m) t c else 0)):=fun B hB=>by
    by_cases e:gX<0
    ·rcases aNF with g | g
     ·omega
     ·rw[g];unfold frz;rw[if_pos e];rfl
    ·exact cY (by omega) blX hB (by simp) (Ee _ _)
   rw[show Em j (wO (pC p)) (some (some fun c=>if c<j then Lp.xb m (j+m) t c else 0))= .agg [.int .i64 0,.sl (rqs j fun c=>if c<j then Lp.xb m (j+m) t c else 0),.bool (rq vq).neg,.sl (iv (rq vq).m),.sl (iv (rq vq).d)] by rw[←aNP];rfl]
   exact Ut rfl (hfX _ (by
    show upd (upd b gX _) g2 _ gX=_
    rw[aK _ _ _ _ (Ne.symm x2),bA]))
  ·show upd (upd b gX _) g2 _ x=some y
   rw[aK _ _ _ _ (fun e=>by rw[e,hb2] at hx;cases hx),aK _ _ _ _ (fun e=>by rw[e,blX] at hx;cases hx)]
   exact blb x y hx

theorem Ry (s:Str):(aQ s.js).length≤s.js.length:=by
 unfold aQ bS
 rw[List.length_map]
 exact Nat.le_trans (List.length_filter_le _ _) (by simp)
theorem aOF {s:Str} (h:SOk s):nR s≤12:=by have:=Ry s;have:=h.nj;unfold nR;omega
theorem Yy {s:Str} (h:SOk s):nC s≤16:=by
 have:=jD s.ms s.ms.length;have:=h.nm
 unfold nC aS;omega
theorem Qw {l:List Int} {n:Nat} (h: ∀i,i<l.length→ -100≤lat l i∧lat l i≤100):(lat l n).natAbs≤100:=by
 by_cases hn:n<l.length
 ·have:=h n hn;omega
 ·have:lat l n=0:=by simp[lat,hn]
  rw[this];decide
theorem Og {s:Str} {l:List Int} (h:LOk s l): ∀x,x∈right s l→x.natAbs≤100:=by
 intro x hx
 unfold right at hx
 obtain⟨j, -,hx⟩:=List.mem_flatMap.1 hx
 have h1:=Qw (n:=(2*j).toNat) h.f
 have h2:=Qw (n:=(2*j+1).toNat) h.f
 rcases List.mem_cons.1 hx with rfl | hx
 ·omega
 ·have:=List.mem_singleton.1 hx;subst this;omega
theorem aAE {s:Str} (h:SOk s) (i c:Nat) (hc:c<nC s):(ent s i c).natAbs≤100:=by
 obtain⟨-,h2⟩:=pP s c hc
 have h3:=qP h (i*s.ms.length+(jA s c).1.toNat)
 unfold ent
 rw[Int.natAbs_mul]
 rcases h2 with e | e<;>rw[e]<;>simp<;>omega
theorem Zx {s:Str} (h:SOk s): ∀x,x∈aTo s (nR s*nC s)→x.natAbs≤100:=by
 intro x hx
 unfold aTo at hx
 obtain⟨t,ht,rfl⟩:=List.mem_map.1 hx
 have ht':t<nR s*nC s:=by simpa using ht
 refine aAE h _ _ (Nat.mod_lt _ ?_)
 rcases Nat.eq_zero_or_pos (nC s) with e | e
 ·rw[e] at ht';omega
 ·exact e
theorem tW {s:Str} {l:List Int} (h:LOk s l):PgN (dQ s l) (nC s) (nR s):=by
 have h1:=aOF h.sok
 have h2:=Yy h.sok
 refine⟨rfl,rfl,by simp[dQ],gV s l,by simp[dQ],fun x hx=> ?_,fun x hx=> ?_,fun x hx=> ?_,by omega,by omega⟩
 ·have:=Zx h.sok x hx;omega
 ·have:=Og h x hx;omega
 ·have:x=0:=by
   simp only[dQ] at hx
   exact(List.mem_replicate.1 hx).2
  rw[this];decide

theorem yI (s:Str) (l:List Int) (hL:LOk s l):RO Tryz.prog 72 [.ptr s.c,.sl (iv l),.int .i64 0,.int .i64 0] (.agg (dQ s l).v):=by
 have:=fU 2 (yJ s l hL) (Ws _)
 rwa [aDL] at this
noncomputable def aT5 (s : Str) (l : List Int) : Bool := Ve (nC s) (nR s) (eQ (dQ s l) (nC s) (nR s))
noncomputable def aXH (s : Str) (l : List Int) : Bool := lOk s l && aT5 s l

def xl (n:Nat) (x:Nat→Rat):List (Option Rat):=(List.range n).map fun c=>some (x c)
@[simp] theorem aGE (n : Nat) (x : Nat → Rat) : (xl n x).length = n := by simp [xl]
theorem aCT (n:Nat) (x:Nat→Rat):fxs n x=fvs (xl n x):=by simp[fvs,xl,fxs]
theorem Tg {n k:Nat} (x:Nat→Rat) (h:k≤n):(fxs n x).take k=fvs (xl k x):=by
 rw[←aCT]
 unfold fxs
 rw[←List.map_take,List.take_range,Nat.min_eq_left h]
theorem B0 {p:Pg} {n m:Nat} (h:PgN p n m) {x:Nat→Rat} (ho:Lp.opt n m (eQ p n m) (n+m) (wO (pC p))=some (some x)) (c:Nat):fits (x c):=by
 rcases Lp.answers (wO (pC p)) h.init with ⟨e,_⟩| ⟨e,_⟩| ⟨y,e,_,hd,h0⟩
 ·rw[ho] at e;cases e
 ·rw[ho] at e;cases e
 ·rw[ho] at e
  have e:=Option.some.inj (Option.some.inj e)
  subst e
  by_cases hc:c<n
  ·exact cE (Lp.fP (hd.sm hc) (pN h.ml))
  ·rw[h0 c (by omega)];exact fits_int (n:=0) (by decide)
theorem Gz {n:Nat} {x:Nat→Rat} (h: ∀c,fits (x c)):okL (xl n x):=fun y hy=>by
 obtain⟨c,_,rfl⟩:=List.mem_map.1 hy
 exact okS (h c)
def wP (s:Str) (n:Nat):Option (Option (Nat→Rat))→V
 | some (some x) => .tup [.sl (fvs (gU s.ms (xl (nC s) x) (nC s))), .sl ((fxs n x).drop (nC s)), .bool true]
 | _ => .tup [.sl [], .sl [], .bool false]
theorem Jr (s:Str) (hm:s.ms.length≤8) (p:Pg) (n m:Nat) (h:PgN p n m) (hn:nC s≤n):RO Tryz.prog 71 [.ptr s.c,.agg p.v] (wP s n (Lp.opt n m (eQ p n m) (n+m) (wO (pC p)))):=by
 have hS:=So p n m h
 obtain⟨o,ho⟩: ∃o,Lp.opt n m (eQ p n m) (n+m) (wO (pC p))=o:=⟨_,rfl⟩
 have uJ:=fun x (e:o=some (some x))=>B0 h (ho.trans e)
 rw[ho] at hS ⊢
 have hlen:(aS s.ms).length=nC s:=rfl
 refine aH Tryz.func71 rfl rfl (by rw[Tryz.ntmps71];simp) fun bl=> ?_
 rw[Tryz.ntmps71,Tryz.results71]
 refine aE ?_
 simp[Pg.v]
 intro g hg hbg
 refine cX 1 3 (.ptr p.v) bl (by intro z b hz;simp only[aC] at hz ⊢;grind) (by simp[frz,dropB,hbg,V.cl,Pg.v]) ?_
 refine aE ?_
 simp[Pg.v]
 refine aD hS ?_
 rcases o with _ | _ | x
 ·simp[Cp]
  refine aB ?_
  simp
  exact aJ [.nils,.nils,.bool false] 1 (by simp) (by simp[frz,V.cl,wP]) (Sub.refl _)
 ·simp[Cp]
  refine aB ?_
  simp
  exact aJ [.nils,.nils,.bool false] 1 (by simp) (by simp[frz,V.cl,wP]) (Sub.refl _)
 ·have hF:=Uy s (xl (nC s) x) hm (Gz (uJ x rfl)) (by simp[nC])
  rw[hlen] at hF
  simp[Cp]
  refine aO ?_
  refine aB ?_
  simp
  refine aB ?_
  simp
  refine aD (sY s hm) ?_
  simp[hlen]
  have hcl: ∀y,y∈fxs n x→1=y.length:=fun y hy=>by
   obtain⟨c,_,rfl⟩:=List.mem_map.1 hy
   rfl
  have hni:(nC s:Int)≤n:=by omega
  refine bU aM (by kernel_rfl) ?_
  simp[sliV,hni,hn,Tg x hn]
  refine⟨hcl,aN hF ?_⟩
  have htk:(fxs n x).take n=fxs n x:=List.take_of_length_le (by simp)
  simp[sliV,hni,hn,htk]
  refine⟨hcl,?_⟩
  have e:retV [.sl (fvs (gU s.ms (xl (nC s) x) (nC s))),.sl ((fxs n x).drop (nC s)),.bool true]=wP s n (some (some x)):=rfl
  exact aJ [.sl (fvs (gU s.ms (xl (nC s) x) (nC s))),.sl ((fxs n x).drop (nC s)),.bool true] 1 (by simp) (by rw[e];simp[frz,V.cl,wP]) (Sub.refl _)
noncomputable def sP (s : Str) : Option (Option (Nat → Rat)) → List (Option Rat)
 | some (some x) => gU s.ms (xl (nC s) x) (nC s)
 | _ => [none]
noncomputable def nZ (s : Str) (l : List Int) : List (Option Rat) :=
 if lOk s l=true then sP s (Lp.opt (nC s) (nR s) (eQ (dQ s l) (nC s) (nR s)) (nC s+nR s) (wO (pC (dQ s l)))) else [none]
theorem Oz {n:Nat} {x:Nat→Rat} (h: ∀c,fits (x c)):cO (cL (xl n x))=xl n x:=by
 unfold cO cL xl
 rw[List.map_map,List.map_map]
 exact List.map_congr_left fun c _=>E1 (okS (h c))
theorem Ro {n:Nat} {x:Nat→Rat} (h: ∀c,fits (x c)):lL (cL (xl n x))=true:=by
 rw[wQ (Gz h)]
 simp[cH,xl]
theorem Tn {s:Str} (hs:sOk s=true) {x:Nat→Rat} (h: ∀c,fits (x c)):uN s (cL (xl (nC s) x))=gU s.ms (xl (nC s) x) (nC s):=by
 have hk:rW s (cL (xl (nC s) x))=true:=by
  unfold rW
  rw[hs,Ro h]
  simp[nC]
 unfold uN
 rw[if_pos hk,Oz h];rfl
theorem Tp {s:Str} (hs:SOk s) {o:Option (Option (Nat→Rat))} (h: ∀x,o=some (some x)→ ∀c,fits (x c)):okL (sP s o)∧(sP s o).length≤24:=by
 have:=hs.nm
 rcases o with _ | _ | x
 ·exact⟨uP,by simp[sP]⟩
 ·exact⟨uP,by simp[sP]⟩
 ·exact⟨yP s.ms (Gz (h x rfl)) _,by show(gU _ _ _).length≤24;rw[eV];omega⟩
theorem Vg {s:Str} {l:List Int} (h:lOk s l=true):sOk s=true:=by
 unfold lOk at h
 rw[Bool.and_eq_true] at h
 exact h.1
theorem Q5 (s:Str) (l:List Int):okL (nZ s l)∧(nZ s l).length≤24:=by
 unfold nZ
 by_cases h:lOk s l=true
 ·rw[if_pos h]
  exact Tp (qF h).sok fun x e=>B0 (tW (qF h)) e
 ·rw[if_neg h];exact⟨uP,by simp⟩
theorem Ko (s:Str) (hs:s.sz) (hk:sOk s=true) {x:Nat→Rat} (h: ∀c,fits (x c)):RO Tryz.prog 135 [.agg s.c,.sl (rqs (nC s) x)] (.tup [.sl (rv (stQ (sP s (some (some x))))),.bool (cH (sP s (some (some x))))]):=by
 have hn:nC s≤16:=Yy (Q9 hk)
 have:=pL s (cL (xl (nC s) x)) hs.js hs.ms hs.nm (J2 (Gz h) (by simp;omega))
 rw[Tn hk h] at this
 rw[aBO]
 exact this
theorem rK (s:Str) (l:List Int) (hs:s.sz) (hl:l.length≤1048576):RO Tryz.prog 60 [.agg s.c,.sl (iv l)] (.tup [.sl (rv (stQ (nZ s l))),.bool (cH (nZ s l))]):=by
 have hno: ∀q,q= [none]→(stQ q= []∧cH q=false):=fun q e=>by subst e;exact⟨rfl,rfl⟩
 refine aH Tryz.func60 rfl rfl (by rw[Tryz.ntmps60];simp) fun bl=> ?_
 rw[Tryz.ntmps60,Tryz.results60]
 refine aE ?_
 simp[Str.c]
 intro g hg hbg
 refine cX 1 2 (.ptr s.c) bl (by intro z b hz;simp only[aC] at hz ⊢;grind) (by simp[frz,dropB,hbg,V.cl,Str.c]) ?_
 refine aB ?_
 simp[Str.c]
 refine aD (F7 s l hs.js hs.ms hs.nm (by omega)) ?_
 simp
 refine⟨fun h=> ?_,fun h=> ?_⟩
 ·have hz:nZ s l= [none]:=by unfold nZ;rw[if_neg (by simp[h])]
  rw[hz]
  exact aJ [.nils,.bool false] 1 (by simp) (by simp[frz,V.cl,stQ,cH,rv,cL]) (Sub.refl _)
 have hz:nZ s l=sP s (Lp.opt (nC s) (nR s) (eQ (dQ s l) (nC s) (nR s)) (nC s+nR s) (wO (pC (dQ s l)))):=by unfold nZ;rw[if_pos h]
 have hS:=Ak (dQ s l) (nC s) (nR s) (tW (qF h))
 have uJ:=fun x (e:Lp.opt (nC s) (nR s) (eQ (dQ s l) (nC s) (nR s)) (nC s+nR s) (wO (pC (dQ s l)))=some (some x))=>B0 (tW (qF h)) e
 rw[hz]
 obtain⟨p,hp⟩: ∃p,dQ s l=p:=⟨_,rfl⟩
 have hL:=I3 s l (qF h)
 rw[hp] at hS hL uJ ⊢
 obtain⟨o,ho⟩: ∃o,Lp.opt (nC s) (nR s) (eQ p (nC s) (nR s)) (nC s+nR s) (wO (pC p))=o:=⟨_,rfl⟩
 rw[ho] at hS uJ ⊢
 refine aD hL ?_
 simp
 refine aD hS ?_
 rcases o with _ | _ | x
 ·simp[Em]
  intro g6 hg6 hb6
  exact aJ [.nils,.bool false] 1 (by simp) (by simp[frz,V.cl,sP,stQ,cH,rv,cL]) (by simp[hb6])
 ·simp[Em]
  intro g6 hg6 hb6
  exact aJ [.nils,.bool false] 1 (by simp) (by simp[frz,V.cl,sP,stQ,cH,rv,cL]) (by simp[hb6])
 ·have hD:=Ko s hs (Vg h) (uJ x rfl)
  simp[Em,RT.c]
  intro g6 hg6 hb6
  refine aD hD ?_
  simp
  exact aJ [.sl (rv (stQ (sP s (some (some x))))),.bool (cH (sP s (some (some x))))] 1 (by simp) (by simp[frz,V.cl]) (by simp[hb6])
theorem kT (s:Str) (l:List Int) (hs:s.sz) (hl:l.length≤1048576):NW Tryz.prog 16 [.agg s.c,.sl (iv l)] (dV (stQ (nZ s l)) (cH (nZ s l))):=by
 obtain⟨hok,hlen⟩:=Q5 s l
 refine iQ Tryz.func16 rfl rfl (by rw[Tryz.ntmps16];simp) fun bl=> ?_
 rw[Tryz.ntmps16,Tryz.results16]
 refine aE ?_
 simp[Str.c]
 intro g hg hbg
 refine cX 1 2 (.ptr s.c) bl (by intro z b hz;simp only[aC] at hz ⊢;grind) (by simp[frz,dropB,hbg,V.cl,Str.c]) ?_
 refine aB ?_
 simp[Str.c]
 refine aD (zI s l hs.js hs.ms hs.nm (by omega)) ?_
 simp
 refine⟨fun h=> ?_,fun h=> ?_⟩
 ·have hz:nZ s l= [none]:=by unfold nZ;rw[if_neg (by simp[h])]
  rw[hz]
  exact fJ [.nils,.bool false] [] (by simp) (yQ _) (by simp) (Sub.refl _)
 have hz:nZ s l=sP s (Lp.opt (nC s) (nR s) (eQ (dQ s l) (nC s) (nR s)) (nC s+nR s) (wO (pC (dQ s l)))):=by unfold nZ;rw[if_pos h]
 have hT:=Jr s (qF h).sok.nm (dQ s l) (nC s) (nR s) (tW (qF h)) (Nat.le_refl _)
 have hF:=yI s l (qF h)
 rw[hz] at hok hlen ⊢
 obtain⟨o,ho⟩: ∃o,Lp.opt (nC s) (nR s) (eQ (dQ s l) (nC s) (nR s)) (nC s+nR s) (wO (pC (dQ s l)))=o:=⟨_,rfl⟩
 rw[ho] at hT hok hlen ⊢
 obtain⟨p,hp⟩: ∃p,dQ s l=p:=⟨_,rfl⟩
 rw[hp] at hT hF
 refine aD hF ?_
 simp
 refine aD hT ?_
 rcases o with _ | _ | x
 ·simp[wP]
  exact fJ [.nils,.bool false] [] (by simp) (yQ _) (by simp) (Sub.refl _)
 ·simp[wP]
  exact fJ [.nils,.bool false] [] (by simp) (yQ _) (by simp) (Sub.refl _)
 ·simp[wP]
  refine fK (Ld (sP s (some (some x))) hok (by omega)) fun v gs b' o f fr=> ?_
  obtain⟨w,rfl,ow,w1,w2⟩:=Ta o
  simp
  exact fJ [w,.bool (cH (sP s (some (some x))))] gs (by simp) o (fun x hx=>f x hx) (fun x y hy=>cP f fr hy)
theorem rL (s:Str) (l:List Int) (hs:s.sz) (hl:l.length≤1048576):RO Tryz.prog 16 [.agg s.c,.sl (iv l)] (.tup [.sl (rv (stQ (nZ s l))),.bool (cH (nZ s l))]):=by
 have:=fU 3 (kT s l hs hl) (aAJ _ _ 0)
 rwa [aMP] at this
end Go.Proofs.YticmgmemnpcbbaaGreat.Vm

namespace Go.Proofs.YticmgmemnpcbbaaGreat.Vm
open Go Go.Proofs
set_option linter.unusedSimpArgs false
set_option linter.unusedVariables false
theorem law_DensitiesOf_ro (s:Str) (l:List Int) (hs:s.sz) (hl:l.length≤140737488351232):RO Tryz.prog 11 [.agg s.c,.sl (iv l)] (.bool true):=by
 refine aH Tryz.func11 rfl rfl (by rw[Tryz.ntmps11];simp) fun bl=> ?_
 rw[Tryz.ntmps11,Tryz.results11]
 refine aB ?_
 simp[Str.c]
 intro gx0 aJ7 aND
 have kp:=Xj (bl:=bl) aND (some ⟨2,[[.sl (jv s.js),.sl (mv s.ms)]]⟩)
 have eO:upd bl gx0 (some ⟨2,[[.sl (jv s.js),.sl (mv s.ms)]]⟩) gx0=some ⟨2,[[.sl (jv s.js),.sl (mv s.ms)]]⟩:=by simp
 have sb1:Sub bl (upd bl gx0 (some ⟨2,[[.sl (jv s.js),.sl (mv s.ms)]]⟩)):=fun x y hx=>kp x y ((Sub.refl _) x y hx)
 generalize upd bl gx0 (some ⟨2,[[.sl (jv s.js),.sl (mv s.ms)]]⟩)=b1 at *
 clear kp
 refine⟨fun h=> ?_,fun hl1=> ?_⟩
 ·exact aJ [_] 0 rfl rfl sb1
 have hl2:l.length≤1048576:=by omega
 refine aD (B9 s _ (by omega) hs.js hs.ms hs.nm) ?_
 try simp[eO]
 refine⟨fun h=> ?_,fun hzs=> ?_⟩
 ·exact aJ [_] 0 rfl rfl sb1
 obtain⟨l1s,l2s,l3s⟩:=Ol (s:=s) (left:=1048576) (by omega) (by omega)
 have aWH: -1≤(tL s 1048576)∧(tL s 1048576)≤1048576:=by omega
 have jss:s.js.length≤1048576:=by omega
 have mss:s.ms.length≤1048576:=by omega
 have ts:=G0 s jss mss
 have tl:=Jt l hl2
 have hS:=rK s l ⟨hs.js,hs.ms,hs.nm⟩ (by omega)
 have hI:=kT s l ⟨hs.js,hs.ms,hs.nm⟩ (by omega)
 have hJ:=rL s l ⟨hs.js,hs.ms,hs.nm⟩ (by omega)
 have wl:=Va (Q5 s l).1 (by have:=(Q5 s l).2;omega)
 generalize cH (nZ s l)=ob at hS hI hJ
 generalize stQ (nZ s l)=w at hS hI hJ wl
 obtain⟨wq,ws⟩:=wl
 have we:=Iu w wq
 refine aD ts ?_
 try simp[eO]
 refine aD tl ?_
 try simp[eO]
 refine aD hS ?_
 try simp[eO]
 refine fK (E3 s jss mss) fun va0 ga0 cb0 ot fa0 aKH=> ?_
 obtain⟨Qh,Pq,rfl,oa0,c1,c2,c3,c4⟩:=Tw ot
 clear ot
 have Jv:gx0∉ga0:=fun hh=>by have hz:=fa0 _ hh;rw[eO] at hz;cases hz
 have aC0: ∀x,x∈ga0→bl x=none:=fun x hx=>bZ sb1 (fa0 x hx)
 have eO:=cP fa0 aKH eO
 have aTM:Sub bl cb0:=fun x y hx=>cP fa0 aKH (sb1 x y hx)
 try simp[eO,c1,c2,c3,c4]
 intro gx1 aW8 Gy
 have L8:gx0≠gx1:=fun e=>by rw[←e,eO] at Gy;cases Gy
 try simp[L8,Ne.symm L8,eO]
 have kp:=Xj (bl:=cb0) Gy (some ⟨2,[[Qh,Pq]]⟩)
 have iG:upd cb0 gx1 (some ⟨2,[[Qh,Pq]]⟩) gx1=some ⟨2,[[Qh,Pq]]⟩:=by simp
 have sb2:Sub bl (upd cb0 gx1 (some ⟨2,[[Qh,Pq]]⟩)):=fun x y hx=>kp x y (aTM x y hx)
 generalize upd cb0 gx1 (some ⟨2,[[Qh,Pq]]⟩)=b2 at *
 have eO:=kp _ _ eO
 have Jx:gx1∉ga0:=oa0.not Gy
 have oa0:=oa0.eG (bl':=b2) fun x _ y hy=>kp x y hy
 clear kp
 try simp[eO,iG,c1,c2,c3,c4]
 refine fK (Ki l hl2) fun va1 ga1 cb1 oa1 fa1 Vo=> ?_
 obtain⟨c1,c2⟩:=oa1.one
 have Lg:gx0∉ga1:=fun hh=>by have hz:=fa1 _ hh;rw[eO] at hz;cases hz
 have Kt:gx1∉ga1:=fun hh=>by have hz:=fa1 _ hh;rw[iG] at hz;cases hz
 have M6: ∀x,x∈ga1→x∉ga0:=fun x hx=>oa0.not (fa1 x hx)
 have aDA: ∀x,x∈ga1→bl x=none:=fun x hx=>bZ sb2 (fa1 x hx)
 have eO:=cP fa1 Vo eO
 have iG:=cP fa1 Vo iG
 have oa0:=oa0.eG (bl':=cb1) fun x _ y hy=>cP fa1 Vo hy
 have aKK:Sub bl cb1:=fun x y hx=>cP fa1 Vo (sb2 x y hx)
 try simp[eO,iG,c1,c2]
 refine Fi 3 (ys:= [.agg s.c,.sl (iv l)]) (by simp[Hd oa0 1,qG oa1 2];try simp[frz]) hI (aJR _ _) fun vr gr d0 oT fr0 Nv=> ?_
 obtain⟨w0,rfl,oR,p1,p2⟩:=Ta oT
 clear oT
 have Sw:gx0∉gr:=fun hh=>by have hz:=fr0 _ hh;rw[eO] at hz;cases hz
 have Pz:gx1∉gr:=fun hh=>by have hz:=fr0 _ hh;rw[iG] at hz;cases hz
 have W6: ∀x,x∈gr→x∉ga0:=fun x hx=>oa0.not (fr0 x hx)
 have V2: ∀x,x∈gr→x∉ga1:=fun x hx=>oa1.not (fr0 x hx)
 have aIO: ∀x,x∈gr→bl x=none:=fun x hx=>bZ aKK (fr0 x hx)
 have eO:=cP fr0 Nv eO
 have iG:=cP fr0 Nv iG
 have oa0:=oa0.eG (bl':=d0) fun x _ y hy=>cP fr0 Nv hy
 have oa1:=oa1.eG (bl':=d0) fun x _ y hy=>cP fr0 Nv hy
 have sd0:Sub bl d0:=fun x y hx=>cP fr0 Nv (aKK x y hx)
 try simp[eO,iG,p1,p2]
 refine bD [(2,.loc gx0 2 0 0),(1,.sl (iv l)),(8,.loc gx1 2 0 0),(9,va1),(6,.sl (rv w)),(7,.bool ob),(10,w0),(11,.bool ob)] _ d0 51 (.bool false) ⟨rfl,by simp,Sub.refl _⟩ rfl ?_ ?_
 ·simp[eO,iG]
  refine aT 3 (ys:= [.sl (rv w),.sl (rv w)]) (by simp[O0 oR 1];simp[frz]) we rfl ?_
  simp
 try simp[eO,iG]
 refine bU aM (by kernel_rfl) ?_
 simp[eO,iG]
 refine aN ts ?_
 try simp
 refine aDF 3 (D5 s s hs.js hs.ms) (by simp[Hd oa0 1];simp[frz,Str.c,V.cl]) rfl ?_
 try simp[eO,iG]
 refine aD tl ?_
 try simp[eO,iG]
 refine aT 3 (ys:= [.sl (iv l),.sl (iv l)]) (by simp[qG oa1 2];simp[frz]) (vK l l hl) rfl ?_
 try simp[eO,iG]
 have bd0:(mkN 1 s)≤4611686018427387000:=by simp only[mkN];omega
 refine vZ s 1 _ ga0 oa0 bd0 fun mb0 oa0 k0=> ?_
 have eO:=k0 gx0 Jv _ eO
 have iG:=k0 gx1 Jx _ iG
 have oa1:=oa1.eG (bl':=mb0) fun x hx y hy=>k0 x (M6 x hx) y hy
 have oR:=oR.eG (bl':=mb0) fun x hx y hy=>k0 x (W6 x hx) y hy
 have aTB:Sub bl mb0:=fun x y hx=>k0 x (fun h=>by rw[aC0 x h] at hx;cases hx) y (sd0 x y hx)
 try simp[eO,iG]
 have bd1:((mkN 1 s)+l.length)≤4611686018427387000:=by simp only[mkN];omega
 refine T7 l (mkN 1 s) _ ga1 oa1 bd1 fun mb1 oa1 k1=> ?_
 have eO:=k1 gx0 Lg _ eO
 have iG:=k1 gx1 Kt _ iG
 have oa0:=oa0.eG (bl':=mb1) fun x hx y hy=>k1 x (fun hh=>M6 x hh hx) y hy
 have oR:=oR.eG (bl':=mb1) fun x hx y hy=>k1 x (V2 x hx) y hy
 have aTL:Sub bl mb1:=fun x y hx=>k1 x (fun h=>by rw[aDA x h] at hx;cases hx) y (aTB x y hx)
 try simp[eO,iG]
 have hKN: ¬ ((((mkN 1 s):Nat):Int)+((l.length:Nat):Int)<0):=by omega
 refine bD [(2,.loc gx0 2 0 0),(1,.sl (iv l)),(8,.loc gx1 2 0 0),(9,va1),(6,.sl (rv w)),(7,.bool ob),(10,w0),(11,.bool ob),(12,.int .i64 (((mkN 1 s)+l.length):Nat))] _ mb1 80 (.bool false) ⟨rfl,by simp,Sub.refl _⟩ rfl ?_ ?_
 ·simp[eO,iG,hKN]
  refine aT 3 (ys:= [.sl (rv w),.sl (rv w)]) (by simp[O0 oR 1];simp[frz]) we rfl ?_
  simp
 try simp[eO,iG]
 have bw:fI 1 w≤4611686018427387000:=by have:=wq.1;rw[lF];omega
 refine Aq w 1 _ gr oR bw fun f0 oR kr=> ?_
 have eO:=kr gx0 Sw _ eO
 have iG:=kr gx1 Pz _ iG
 have oa0:=oa0.eG (bl':=f0) fun x hx y hy=>kr x (fun hh=>W6 x hh hx) y hy
 have oa1:=oa1.eG (bl':=f0) fun x hx y hy=>kr x (fun hh=>V2 x hh hx) y hy
 have sf0:Sub bl f0:=fun x y hx=>kr x (fun h=>by rw[aIO x h] at hx;cases hx) y (aTL x y hx)
 have hh:=Bl w 1 bw
 have bP: ¬ (fI 1 w:Int)<0:=by omega
 try simp[eO,iG,bP]
 refine aT 3 (ys:= [.sl (rv (mkQs 1 w)),.int .i64 1]) (by simp[O0 oR 1];simp[frz]) hh rfl ?_
 try simp[eO,iG,bP]
 refine aD ts ?_
 try simp[eO,iG]
 refine aD tl ?_
 try simp[eO,iG]
 refine aD hJ ?_
 try simp[eO,iG]
 refine bD [(2,.loc gx0 2 0 0),(1,.sl (iv l)),(8,.loc gx1 2 0 0),(9,va1),(6,.sl (rv w)),(7,.bool ob),(10,w0),(11,.bool ob),(13,.int .i64 (fI 1 w:Nat)),(15,.sl (rv w)),(16,.bool ob)] _ f0 108 (.bool false) ⟨rfl,by simp,Sub.refl _⟩ rfl ?_ ?_
 ·simp[eO,iG,hKN]
  refine aD we ?_
  simp
 try simp[eO,iG]
 refine aT 3 (ys:= [.sl (rv (mkQs 1 w)),.int .i64 1]) (by simp[O0 oR 1];simp[frz]) hh rfl ?_
 try simp[eO,iG,bP]
 exact aJ [_] 0 rfl rfl sf0
end Go.Proofs.YticmgmemnpcbbaaGreat.Vm

namespace Go.Proofs.YticmgmemnpcbbaaGreat.lawDensitiesOf
open Go Go.RowKit Go.ChangeShapes Go.WideShapes Vm
theorem body (xs:List V) (h:tA Tryz.prog Tryz.f11.params.toList xs):RO Tryz.prog 11 xs (.bool true):=by
 rw[Tryz.params11] at h
 obtain⟨c0,ys,rfl,h0,h⟩:=N0 h
 obtain⟨c1,ys,rfl,h1,h⟩:=N0 h
 obtain rfl:=Pu h
 obtain⟨x0,rfl,y0⟩:=Io h0
 obtain⟨x1,rfl,y1,z1⟩:=Rm h1
 rw[Cq Tryz.underlying71,Lv Tryz.underlying27]
 exact law_DensitiesOf_ro x0 x1 ⟨y0.js,y0.ms,y0.names⟩ (by omega)
set_option maxRecDepth 100000 in
theorem lifted (os:Os) (started:os.Started) (H:Type) (enc:TypeId×Value→H):
  ReturnsInHanded {} Tryz.checked os 11 .any (Rows.fnExactDensitiesOfSpec.pre6 enc Tryz.prog Tryz.f11 Rows.fnExactDensitiesOfRow.domain false) (Rows.fnExactDensitiesOfSpec.post enc Tryz.prog Tryz.f11 false true false false):=by
 refine returnsInHanded_of_change_sized (C:=Tryz.checked) own started (by kernel_rfl) Tryz.func11
  (ChangeSpec.witness6 (enc:=enc) (C:=Tryz.checked) false ⟨#[], #[.agg #[.slice none 0 0,.slice none 0 0],.slice none 0 0],[]⟩ 8 (by kernel_rfl) (by kernel_rfl) (by kernel_rfl) (by kernel_rfl)) ?_
 intro W base args ds gs before Cw hW aWA hsz _
 refine law_calls (tb:=4) rfl rfl Tryz.underlying4 laidOut (by kernel_rfl) (fun ds hds=> ?_) body W base args ds gs before Cw hW hsz
 rw[Tryz.params11] at hds
 first
  | (match ds, hds with | [a], _ => rfl)
  | (match ds, hds with | [a, b], _ => rfl)
  | (match ds, hds with | [a, b, c], _ => rfl)
  | (match ds, hds with | [a, b, c, d], _ => rfl)
  | (match ds, hds with | [a, b, c, d, e], _ => rfl)
  | (match ds, hds with | [a, b, c, d, e, f], _ => rfl)
theorem nG :Rows.fnExactDensitiesOfRow.holds Tryz.pinned (OpenSpec.ofChange Rows.fnExactDensitiesOfSpec):=
 OpenClaim.holds_of_wide 11 Tryz.f11 rfl rfl rfl rfl rfl rfl rfl ⟨rfl,rfl,rfl,rfl,rfl⟩ rfl rfl rfl rfl rfl (by kernel_rfl) Tryz.func11 (facts (by kernel_rfl))
  (of_decide_eq_true (by kernel_rfl)) (by unfold Func.isWrapper;first | (rw[if_pos (by decide+kernel)];kernel_rfl)| (rw[if_neg (by decide+kernel)];exact⟨rfl,rfl⟩))
  (fun os started H enc _=>lifted os started H enc)
theorem proved :Rows.FnExactDensitiesOfSaid:=nG
#print axioms proved
end Go.Proofs.YticmgmemnpcbbaaGreat.lawDensitiesOf
