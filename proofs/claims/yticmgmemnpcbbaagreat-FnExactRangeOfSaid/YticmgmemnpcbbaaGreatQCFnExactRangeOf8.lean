import Derived.Test.YticmgmemnpcbbaaGreatQCFnExactRangeOf7

namespace Go.Proofs.YticmgmemnpcbbaaGreat.Vm
open Go Go.RowKit Go.Proofs
set_option linter.unusedSimpArgs false
set_option linter.unusedVariables false
theorem Ou {b:Int→Option Blk} {g:Int} {l:List Int} (h0:0≤g) (h:b g=some ⟨1,iv l⟩) (m:Nat):frz b (m+1) (.lsl g 1 0 l.length)=some (.sl (iv l)):=by
 have h1:=jC (n:=m) h0 h
 rw[iH (mZ _),show(iv l).length=l.length by simp] at h1
 rw[h1];rfl
def wO (O:Nat→Int):Nat→Rat:=fun c=>(O c:Rat)
def fO (N:Nat) (fr:Nat→Bool):Nat→Prop:=fun c=>c<N∧fr c=true
structure aMY where
 j:Nat
 a:Bool
 b:Int→Option Blk
noncomputable def frK (m : Nat) (O : Nat → Int) (t : Lp.Tab) (fr : Nat → Bool) (k : Nat) : Nat → Bool := open Classical in fun c => if c < k then fr c && !decide (Lp.rc m (wO O) t c < 0) else fr c
theorem Ra (m:Nat) (O:Nat→Int) (t:Lp.Tab) (fr:Nat→Bool):frK m O t fr 0=fr:=by funext c;unfold frK;rw[if_neg (by omega)]
theorem Di {N k:Nat} (f:Nat→Bool) (v:Bool) (h:k<N):(lv N f).set k [.bool v]=lv N (fun c=>if c=k then v else f c):=by
 apply List.ext_getElem
 ·simp
 ·intro t h1 h2
  simp only[List.getElem_set,Ue]
  by_cases e:k=t
  ·subst e;simp
  ·rw[if_neg e,if_neg (Ne.symm e)]
theorem aBB {r:Nat} {bs:Nat→Nat} {k:Nat} :(k:Int)∈lb r bs ↔ ∃p,p<r∧bs p=k:=by
 unfold lb
 constructor
 ·intro h
  obtain⟨p,hp,e⟩:=List.mem_map.1 h
  exact⟨p,by simpa using hp,by omega⟩
 ·rintro⟨p,hp,e⟩
  exact List.mem_map.2 ⟨p,by simpa using hp,by rw[e]⟩
theorem wP {bl:Int→Option Blk} {K:V→(Int→Option Blk)→Prop} (n m:Nat) (E:Nat→Nat→Rat) (rows:List Nat) (g:TG) (t:Lp.Tab) (fr:Nat→Bool) (O:Nat→Int) (gO:Int) (e:Nat)
  (hm:m≤17) (hn:n+m≤100) (hr:Rows m rows) (hO: ∀c,(O c).natAbs≤1000) (hO0:(∀i,i<m→i∈rows)∨ ∀c,n≤c→O c=0)
  (h1:Lp.nx (n+m) (n+m) rows (Lp.okW m (wO O) (fO (n+m) fr)) (Lp.orb (Lp.nx (n+m) (n+m) rows (Lp.okW m (wO O) (fO (n+m) fr))) t e)=none)
  (h2: ∀e',e'<e→(Lp.nx (n+m) (n+m) rows (Lp.okW m (wO O) (fO (n+m) fr)) (Lp.orb (Lp.nx (n+m) (n+m) rows (Lp.okW m (wO O) (fO (n+m) fr))) t e')).isSome=true)
  (hI: ∀e',e'≤e→nT n m E rows (Lp.orb (Lp.nx (n+m) (n+m) rows (Lp.okW m (wO O) (fO (n+m) fr))) t e'))
  (hTT:TT bl g (bZ n m E rows t fr)) (hgO:bl gO=some ⟨1,iv (lz (n+m) O)⟩) (hg0:0≤gO) (hgn:gO∉g.all)
  (hT: ∀b',Lp.fstP (Lp.okW m (wO O) (fO (n+m) fr) (Lp.orb (Lp.nx (n+m) (n+m) rows (Lp.okW m (wO O) (fO (n+m) fr))) t e)) (n+m)=none→
    TT b' g (bZ n m E rows (Lp.orb (Lp.nx (n+m) (n+m) rows (Lp.okW m (wO O) (fO (n+m) fr))) t e) (frK m O (Lp.orb (Lp.nx (n+m) (n+m) rows (Lp.okW m (wO O) (fO (n+m) fr))) t e) fr (n+m)))→
    (∀x y,bl x=some y→x∉g.all→b' x=some y)→K (.bool true) b')
  (hF: ∀b' k,Lp.fstP (Lp.okW m (wO O) (fO (n+m) fr) (Lp.orb (Lp.nx (n+m) (n+m) rows (Lp.okW m (wO O) (fO (n+m) fr))) t e)) (n+m)=some k→Lp.leave (Lp.orb (Lp.nx (n+m) (n+m) rows (Lp.okW m (wO O) (fO (n+m) fr))) t e) (n+m) k rows=none→
    TT b' g (bZ n m E rows (Lp.orb (Lp.nx (n+m) (n+m) rows (Lp.okW m (wO O) (fO (n+m) fr))) t e) fr)→(∀x y,bl x=some y→x∉g.all→b' x=some y)→K (.bool false) b'):
  bW Tryz.prog 205 [.loc g.T 6 0 0,.lsl gO 1 0 (n+m)] bl K:=by
 obtain⟨nxf,hnx⟩: ∃f,Lp.nx (n+m) (n+m) rows (Lp.okW m (wO O) (fO (n+m) fr))=f:=⟨_,rfl⟩
 rw[hnx] at h1 h2 hI hT hF
 obtain⟨N,hN⟩: ∃N,n+m=N:=⟨_,rfl⟩
 have hlz:(lz N O).length=N:=by simp
 have Wr: ∀t,nT n m E rows t→ ∀i,i<m→i∉rows→O (t.bs i)=0:=fun t h i hi hn=>by
  rcases hO0 with g1 | g1
  ·exact absurd (g1 i hi) hn
  ·exact g1 _ (h.dead i hi hn).1
 have aT4: ∀b t f,TT b g (bZ n m E rows t f)→ ∀q,frz b (q+4) (.loc g.T 6 0 0)=some (.ptr (bZ n m E rows t f).c):=fun b t f h q=>h.frz q
 have Xr: ∀t f k,nT n m E rows t→k<N→RO Tryz.prog 256 [.ptr (bZ n m E rows t f).c,.sl (iv (lz N O)),.int .i64 k] (.int .i64 (gTo (fun p c=>Lp.zt m E t (atR rows p) c) (Lp.dz m E t) (fun p=>t.bs (atR rows p)) O k rows.length).sign):=fun t f k h hk=>by
  have:=Uv rows.length (n+m) (fun p c=>Lp.zt m E t (atR rows p) c) (Lp.dz m E t) (fun p=>t.bs (atR rows p)) f O k (Hg h hm hn hr) hO (by omega) fun p hp=>h.lt _ (hr.lt (cM hp))
  rw[hN] at this
  rw[show(bZ n m E rows t f).c=lS rows.length N (fun p c=>Lp.zt m E t (atR rows p) c) (Lp.dz m E t) (fun p=>t.bs (atR rows p)) f by rw[←hN];rfl]
  exact this
 have aKL: ∀t f k,nT n m E rows t→k<N→RO Tryz.prog 257 [.ptr (bZ n m E rows t f).c,.int .i64 k] (.int .i64 (oI (lvZ (fun p c=>Lp.zt m E t (atR rows p) c) N k (fun p=>t.bs (atR rows p)) rows.length))):=fun t f k h hk=>by
  have:=Du rows.length (n+m) (fun p c=>Lp.zt m E t (atR rows p) c) (Lp.dz m E t) (fun p=>t.bs (atR rows p)) f k (Hg h hm hn hr) (by omega)
  rw[hN] at this
  rw[show(bZ n m E rows t f).c=lS rows.length N (fun p c=>Lp.zt m E t (atR rows p) c) (Lp.dz m E t) (fun p=>t.bs (atR rows p)) f by rw[←hN];rfl]
  exact this
 have aJY: ∀(t:Lp.Tab) (k:Nat),RO Tryz.prog 255 [.sl (iv (lb rows.length fun p=>t.bs (atR rows p))),.int .i64 k] (.bool (decide ((k:Int)∈lb rows.length fun p=>t.bs (atR rows p)))):=fun t k=>uY _ k (by rw[Lf];have:=hr.len;omega)
 have aG3: ∀(t:Lp.Tab) (k:Nat),nT n m E rows t→((k:Int)∈lb rows.length fun p=>t.bs (atR rows p))→Lp.rc m (wO O) t k=0:=fun t k h hk=>by
  obtain⟨p,hp,e⟩:=aBB.1 hk
  rw[←e];exact Lp.kY h.z.ti _ (hr.lt (cM hp))
 have hsg: ∀t k,nT n m E rows t→k<N→_:=fun t k h hk=>Iy h hr O k (show k<n+m+1 by omega) (Wr t h)
 rw[hN]
 rw[hN] at hgO
 refine bO Tryz.func205 rfl rfl (by rw[Tryz.ntmps205];simp) ?_
 rw[Tryz.ntmps205,Tryz.results205]
 refine aE ?_
 simp
 refine aE ?_
 simp
 refine aJ (fun q:aMY=> [(0,.loc g.T 6 0 0),(1,.lsl gO 1 0 N),(4,.bool false),(5,.bool q.a)]) (fun q=>q.b) (fun q=>q.j≤e∧TT q.b g (bZ n m E rows (Lp.orb nxf t q.j) fr)∧(∀x y,bl x=some y→x∉g.all→q.b x=some y)∧(q.a=false→q.j=e∧Lp.fstP (Lp.okW m (wO O) (fO N fr) (Lp.orb nxf t e)) N=none)) (fun q=>2*(e - q.j)+if q.a=true then 1 else 0) _ ⟨0,true,bl⟩ ⟨Nat.zero_le _,hTT,fun _ _ h _=>h,fun h=>by cases h⟩ ⟨rfl,by simp,Sub.refl _⟩ ?_
 rintro⟨j,a,b⟩ ⟨hj,hTb,hfb,hab⟩
 simp only at hj hTb hfb hab
 have hbO:=hfb _ _ hgO hgn
 have aJ1: ∀q,frz b (q+1) (.lsl gO 1 0 N)=some (.sl (iv (lz N O))):=fun q=>by have:=Ou hg0 hbO q;rwa [hlz] at this
 obtain⟨tj,htj⟩: ∃tj,Lp.orb nxf t j=tj:=⟨_,rfl⟩
 have hIj:=hI j hj
 rw[htj] at hTb hIj
 have bT:b g.T=_:=hTb.hd
 have bF:b g.F=_:=hTb.fre
 have z4T:frz b 4 (.loc g.T 6 0 0)=some (.ptr (bZ n m E rows tj fr).c):=aT4 b tj fr hTb 0
 have z4O:frz b 4 (.lsl gO 1 0 N)=some (.sl (iv (lz N O))):=aJ1 3
 have z1B:frz b 1 (.lsl g.B 1 0 rows.length)=some (.sl (iv (lb rows.length fun p=>tj.bs (atR rows p)))):=hTb.aIL 0
 simp only[bZ,hN] at bT bF
 cases a with
 | true =>
   refine aE ?_
   simp
   refine aT ?_
   refine aC ?_
   simp[bT]
   refine aJ (fun k:Nat=> [(0,.loc g.T 6 0 0),(1,.lsl gO 1 0 N),(4,.bool false),(5,.bool false),(13,.int .i64 N),(14,.int .i64 k)]) (fun _=>b) (fun k=>k≤N∧ ∀c,c<k→ ¬ Lp.okW m (wO O) (fO N fr) tj c) (fun k=>N - k) _ 0 ⟨Nat.zero_le _,fun c hc=>absurd hc (Nat.not_lt_zero _)⟩ ⟨rfl,by simp,Sub.refl _⟩ ?_
   rintro k ⟨hk,L8⟩
   have wk:IntKind.i64.wrap ((k:Int)+1)=(k:Int)+1:=i64_in (by omega) (by omega)
   refine aE ?_
   simp
   refine aE ?_
   simp
   refine⟨fun hkN=> ?_,fun hkN=> ?_⟩
   ·refine aN (aT ?_)
    refine aE ?_
    simp
    refine aE ?_
    simp
    have hs:=hsg tj k hIj hkN
    have hG:=Xr tj fr k hIj hkN
    have hC:=aJY tj k
    have hcb:=aG3 tj k hIj
    generalize gTo (fun p c=>Lp.zt m E tj (atR rows p) c) (Lp.dz m E tj) (fun p=>tj.bs (atR rows p)) O k rows.length=G at hs hG
    refine bQ [(0,.loc g.T 6 0 0),(1,.lsl gO 1 0 N),(4,.bool false),(5,.bool false),(6,.int .i64 k),(13,.int .i64 N),(14,.int .i64 k)] _ b 39 (.bool (open Classical in decide (¬ Lp.okW m (wO O) (fO N fr) tj k))) ⟨rfl,by simp,Sub.refl _⟩ rfl ?_ ?_
    ·cases hfk:fr k with
     | false =>
       have hno: ¬ Lp.okW m (wO O) (fO N fr) tj k:=fun h=>by have:=h.1.2;rw[hfk] at this;cases this
       simp[bT,bF,hkN,hfk,hno]
     | true =>
       simp[bT,bF,hkN,hfk]
       refine aU 1 (ys:= [.sl (iv (lb rows.length fun p=>tj.bs (atR rows p))),.int .i64 k]) (by simp[z1B];simp[frz]) hC rfl ?_
       simp
       refine⟨fun hin hok=> ?_,fun hnin=> ?_⟩
       ·have:=hok.2
        rw[hcb hin] at this;exact absurd this (by decide)
       ·refine aU 4 (ys:= [.ptr (bZ n m E rows tj fr).c,.sl (iv (lz N O)),.int .i64 k]) (by simp[z4T,z4O];simp[frz]) hG rfl ?_
        simp
        have:Lp.okW m (wO O) (fO N fr) tj k ↔ 0<G:=by
         unfold Lp.okW fO
         rw[hs.1]
         exact⟨fun h=>h.2,fun h=>⟨⟨hkN,hfk⟩,h⟩⟩
        rw[this]
        by_cases hg:0<G
        ·simp[hg]
        ·simp[hg];omega
    simp
    refine⟨fun hno=> ?_,fun hok=> ?_⟩
    ·refine aC ?_
     simp[wk,aB]
     refine⟨k+1,⟨by omega,fun c hc=> ?_⟩,by omega,rfl,by simp,Sub.refl _⟩
     by_cases ec:c=k
     ·rw[ec];exact hno
     ·exact L8 c (by omega)
    have R3:Lp.fstP (Lp.okW m (wO O) (fO N fr) tj) N=some k:=Lp.dI.2 ⟨hkN,hok,L8⟩
    have hLv:=aKL tj fr k hIj hkN
    have hll:=Z5 hIj hr k (by omega) rows.length (Nat.le_refl _)
    rw[List.take_length,hN] at hll
    refine aE ?_
    simp
    refine aU 4 (ys:= [.ptr (bZ n m E rows tj fr).c,.int .i64 k]) (by simp[z4T];simp[frz]) hLv rfl ?_
    simp
    cases hlv:lvZ (fun p c=>Lp.zt m E tj (atR rows p) c) N k (fun p=>tj.bs (atR rows p)) rows.length with
    | none =>
      rw[hlv] at hll
      have hnn:nxf tj=none:=by
       rw[←hnx]
       cases hs2:Lp.nx (n+m) (n+m) rows (Lp.okW m (wO O) (fO (n+m) fr)) tj with
       | none => rfl
       | some q =>
         obtain⟨q1,q2⟩:=Lp.qZ.1 hs2
         rw[hN,R3] at q1
         cases q1
         rw[hN,hll] at q2;cases q2
      have hje:j=e:=by
       by_cases hlt:j<e
       ·have:=h2 j hlt
        rw[htj,hnn] at this;cases this
       ·omega
      subst hje
      rw[htj] at hF
      rw[hN] at hF
      refine aC ?_
      simp[oI]
      rw[bH]
      exact⟨[.bool false],by simp,hF b k R3 hll hTb hfb⟩
    | some p =>
      rw[hlv] at hll
      have hp:=C0 hlv
      have cL: ¬ (p:Int)<0:=by omega
      have hnn:nxf tj=some (atR rows p,k):=by
       rw[←hnx]
       exact Lp.qZ.2 ⟨by rw[hN];exact R3,by rw[hN];exact hll⟩
      have hje:j<e:=by
       by_cases hlt:j<e
       ·exact hlt
       ·have:j=e:=by omega
        rw[this] at htj
        rw[htj,hnn] at h1;cases h1
      have aSX:Lp.orb nxf t (j+1)=Lp.piv tj (atR rows p) k:=by
       rw[Lp.orb,htj,hnn]
      have hx:tj.X (atR rows p) k≠0:=by
       have:=((Lp.lB tj N k rows).2 _ hll).2.1
       grind
      obtain⟨Y,hY,hYT⟩:=Rm hIj hr hp (show k<n+m by omega) hx fr
      refine aE ?_
      simp[oI,cL]
      refine aE ?_
      simp
      refine Bx g (bZ n m E rows tj fr) p k Y hTb (Hg hIj hm hn hr) hp (show k<n+m by omega) hY fun b' hT' hf'=> ?_
      simp
      refine aC ?_
      simp[aB]
      refine⟨⟨j+1,true,b'⟩,⟨by simp only;omega,?_,fun x y hx hn=>hf' x y (hfb x y hx hn) hn,fun h=>by cases h⟩,by simp only[if_true];omega,rfl,by simp,Sub.refl _⟩
      simp only
      rw[aSX]
      exact hYT b' g hT'
   ·have Zm:k=N:=by omega
    subst Zm
    have R3:Lp.fstP (Lp.okW m (wO O) (fO k fr) tj) k=none:=Lp.eO.2 L8
    have hnn:nxf tj=none:=by
     rw[←hnx,hN]
     unfold Lp.nx
     rw[R3]
    have hje:j=e:=by
     by_cases hlt:j<e
     ·have:=h2 j hlt
      rw[htj,hnn] at this;cases this
     ·omega
    subst hje
    simp[aB]
    exact⟨⟨j,false,b⟩,⟨Nat.le_refl _,by simp only;rw[htj];exact hTb,hfb,fun _=>⟨rfl,by rw[htj];exact R3⟩⟩,by simp,rfl,by simp,Sub.refl _⟩
 | false =>
   obtain⟨hje,R3⟩:=hab rfl
   subst hje
   rw[htj] at hT R3
   rw[hN] at hT
   clear hF h1 h2
   have aUC:=hgO
   refine aE ?_
   simp
   refine aE ?_
   simp[bT]
   refine aJ (fun q:Bm=> [(0,.loc g.T 6 0 0),(1,.lsl gO 1 0 N),(53,.int .i64 N),(54,.int .i64 q.j)]) (fun q=>q.b) (fun q=>q.j≤N∧TT q.b g (bZ n m E rows tj (frK m O tj fr q.j))∧(∀x y,bl x=some y→x∉g.all→q.b x=some y)) (fun q=>N - q.j) _ ⟨0,b⟩ ⟨Nat.zero_le _,by simp only;rw[Ra];exact hTb,hfb⟩ ⟨rfl,by simp,Sub.refl _⟩ ?_
   clear hbO aJ1 bT bF z4T z4O z1B hTb hfb hgO
   rintro⟨k,b⟩ ⟨hk,hTb,hfb⟩
   simp only at hk hTb hfb
   have wk:IntKind.i64.wrap ((k:Int)+1)=(k:Int)+1:=i64_in (by omega) (by omega)
   have hbO:=hfb _ _ aUC hgn
   have z4O:frz b 4 (.lsl gO 1 0 N)=some (.sl (iv (lz N O))):=by have:=Ou hg0 hbO 3;rwa [hlz] at this
   have z4T:frz b 4 (.loc g.T 6 0 0)=some (.ptr (bZ n m E rows tj (frK m O tj fr k)).c):=hTb.frz 0
   have z1B:frz b 1 (.lsl g.B 1 0 rows.length)=some (.sl (iv (lb rows.length fun p=>tj.bs (atR rows p)))):=hTb.aIL 0
   have bT:b g.T=_:=hTb.hd
   have bF:b g.F=_:=hTb.fre
   simp only[bZ,hN] at bT bF
   refine aE ?_
   simp
   refine aE ?_
   simp
   refine⟨fun hkN=> ?_,fun hkN=> ?_⟩
   ·refine aN (aT ?_)
    refine aE ?_
    simp
    refine aE ?_
    simp
    have hs:=hsg tj k hIj hkN
    have hG:=Xr tj (frK m O tj fr k) k hIj hkN
    have hC:=aJY tj k
    have hcb:=aG3 tj k hIj
    have hfk:frK m O tj fr k k=fr k:=by unfold frK;rw[if_neg (by omega)]
    generalize gTo (fun p c=>Lp.zt m E tj (atR rows p) c) (Lp.dz m E tj) (fun p=>tj.bs (atR rows p)) O k rows.length=G at hs hG
    refine bQ [(0,.loc g.T 6 0 0),(1,.lsl gO 1 0 N),(8,.int .i64 k),(53,.int .i64 N),(54,.int .i64 k)] _ b 79 (.bool (open Classical in fr k && decide (Lp.rc m (wO O) tj k<0))) ⟨rfl,by simp,Sub.refl _⟩ rfl ?_ ?_
    ·cases hfk2:fr k with
     | false =>
       rw[hfk2] at hfk
       simp[bT,bF,hkN,hfk]
     | true =>
       rw[hfk2] at hfk
       simp[bT,bF,hkN,hfk]
       refine aU 1 (ys:= [.sl (iv (lb rows.length fun p=>tj.bs (atR rows p))),.int .i64 k]) (by simp[z1B];simp[frz]) hC rfl ?_
       simp
       have e2:Lp.rc m (wO O) tj k<0 ↔ G<0:=hs.2.symm
       by_cases hin:(k:Int)∈lb rows.length fun p=>tj.bs (atR rows p)
       ·have: ¬ Lp.rc m (wO O) tj k<0:=by rw[hcb hin];decide
        simp[hin,this]
       ·simp[hin]
        refine aU 4 (ys:= [.ptr (bZ n m E rows tj (frK m O tj fr k)).c,.sl (iv (lz N O)),.int .i64 k]) (by simp[z4T,z4O];simp[frz]) hG rfl ?_
        simp
        rw[e2]
    have Z9: ∀c,frK m O tj fr (k+1) c=if c=k then(open Classical in fr k && !decide (Lp.rc m (wO O) tj k<0)) else frK m O tj fr k c:=fun c=>by
     unfold frK
     by_cases e1:c=k
     ·subst e1;rw[if_pos (by omega),if_pos rfl]
     ·rw[if_neg e1]
      by_cases e2:c<k
      ·rw[if_pos (by omega),if_pos e2]
      ·rw[if_neg (by omega),if_neg e2]
    have nds:=hTb.nd
    simp
    refine aC ?_
    simp
    refine⟨fun h1 h2=> ?_,fun hno=> ?_⟩
    ·simp[bT,bF,hkN]
     refine aC ?_
     simp[wk,aB]
     have e1:(lv N (frK m O tj fr k)).set k [.bool false]=lv N (frK m O tj fr (k+1)):=by
      rw[Di _ _ hkN]
      unfold lv
      refine List.map_congr_left fun c _=> ?_
      rw[Z9 c]
      show [V.bool (if c=k then false else frK m O tj fr k c)]=_
      by_cases e:c=k
      ·rw[if_pos e,if_pos e];simp[h1,h2]
      ·rw[if_neg e,if_neg e]
     rw[e1]
     refine⟨⟨k+1,upd b g.F (some ⟨1,lv N (frK m O tj fr (k+1))⟩)⟩,⟨by simp only;omega,?_,fun x y hx hn=> ?_⟩,by simp only;omega,rfl,by simp,Sub.refl _⟩
     ·simp only[List.nodup_cons,List.mem_cons,not_or] at nds
      obtain⟨⟨nTR,nTB,nTF,nTi⟩,⟨nRB,nRF,nRi⟩,⟨nBF,nBi⟩,nFi,_⟩:=nds
      show TT (upd b g.F (some ⟨1,lv N (frK m O tj fr (k+1))⟩)) g (bZ n m E rows tj (frK m O tj fr (k+1)))
      refine⟨hTb.fE.bI fun x y hx hy=> ?_,?_,?_,?_,hTb.pT,hTb.pR,hTb.pB,hTb.pF,hTb.nd⟩
      ·rw[aG _ _ _ _ (by rintro rfl;rcases hx with hx | hx;exact nRF hx.symm;exact nFi hx)];exact hy
      ·rw[aG _ _ _ _ nTF];exact hTb.hd
      ·rw[aG _ _ _ _ nBF];exact hTb.ba
      ·simp[bZ,hN]
     ·simp only
      rw[aG _ _ _ _ (by rintro rfl;exact hn (by simp[TG.all]))];exact hfb x y hx hn
    ·refine aC ?_
     simp[wk,aB]
     refine⟨⟨k+1,b⟩,⟨by simp only;omega,?_,hfb⟩,by simp only;omega,rfl,by simp,Sub.refl _⟩
     have e1:frK m O tj fr (k+1)=frK m O tj fr k:=by
      funext c
      rw[Z9 c]
      by_cases e:c=k
      ·subst e
       rw[if_pos rfl,hfk]
       cases hfc:fr c with
       | false => rfl
       | true => have := hno hfc; simp; grind
      ·rw[if_neg e]
     simp only
     rw[e1];exact hTb
   ·have Zm:k=N:=by omega
    subst Zm
    refine aC ?_
    simp
    rw[bH]
    exact⟨[.bool true],by simp,hT b R3 hTb hfb⟩

def fR (n m:Nat) (t:Lp.Tab) (j:Nat):List Nat:=Lp.bK n t j++(List.range (m - j)).map (j+ ·)
theorem uI {n m j:Nat} (t:Lp.Tab) (hj:j≤m):fR n m t j=(List.range m).filter fun x=>decide (j≤x)|| decide (t.bs x<n):=by
 obtain⟨d,rfl⟩: ∃d,m=j+d:=⟨m - j,by omega⟩
 rw[List.range_add,List.filter_append]
 unfold fR Lp.bK
 rw[show j+d - j=d by omega]
 congr 1
 ·refine List.filter_congr fun x hx=> ?_
  have:x<j:=by simpa using hx
  rw[decide_eq_false (show ¬ j≤x by omega),Bool.false_or]
 ·symm
  rw[List.filter_eq_self]
  intro x hx
  obtain⟨y,_,rfl⟩:=List.mem_map.1 hx
  simp
theorem Ck {n m j:Nat} (t:Lp.Tab) (hj:j≤m):Rows m (fR n m t j):=⟨_,uI t hj⟩
theorem K9 {n m j x:Nat} {t:Lp.Tab} (hj:j≤m):x∈fR n m t j ↔ x<m∧(j≤x∨t.bs x<n):=by
 rw[uI t hj,List.mem_filter]
 simp
theorem Ld (n m j:Nat) (t:Lp.Tab):(fR n m t j).length=(Lp.bK n t j).length+(m - j):=by simp[fR]
theorem Rp {n m j:Nat} {t:Lp.Tab} (hj:j<m):atR (fR n m t j) (Lp.bK n t j).length=j:=by
 unfold atR fR
 rw[List.getD_eq_getElem?_getD,List.getElem?_append_right (Nat.le_refl _),Nat.sub_self,List.getElem?_eq_getElem (by simp;omega)]
 simp
theorem Fl (n m:Nat) (t:Lp.Tab):fR n m t 0=List.range m:=by
 have e:(fun x=>0+x)=(id:Nat→Nat):=by funext x;simp
 unfold fR Lp.bK
 simp only[Nat.sub_zero,List.range_zero,List.filter_nil,List.nil_append]
 rw[show(List.range m).map (0+ ·)=(List.range m).map id from congrArg (fun f=>(List.range m).map f) e,List.map_id]
theorem Lg (n m:Nat) (t:Lp.Tab):fR n m t m=Lp.bK n t m:=by simp[fR]
theorem vO (n j:Nat) (t:Lp.Tab):Lp.bK n t (j+1)=if t.bs j<n then Lp.bK n t j++ [j] else Lp.bK n t j:=by
 unfold Lp.bK
 rw[List.range_succ,List.filter_append]
 by_cases h:t.bs j<n<;>simp[h]
theorem Fb {n j:Nat} {t t':Lp.Tab} (h: ∀x,x<j→t.bs x=t'.bs x):Lp.bK n t j=Lp.bK n t' j:=by
 unfold Lp.bK
 exact List.filter_congr fun x hx=>by rw[h x (by simpa using hx)]
theorem zJ {n m j:Nat} {t t':Lp.Tab} (hj:j<m) (h: ∀x,x<j→t.bs x=t'.bs x) (hb:t'.bs j<n):fR n m t' (j+1)=fR n m t j∧(Lp.bK n t' (j+1)).length=(Lp.bK n t j).length+1:=by
 have e:(List.range (m - j)).map (j+ ·)=j::(List.range (m - (j+1))).map (j+1+ ·):=by
  rw[show m - j=(m - (j+1))+1 by omega,List.range_succ_eq_map,List.map_cons,List.map_map]
  congr 1
  exact List.map_congr_left fun x _=>by simp;omega
 have e2:Lp.bK n t' (j+1)=Lp.bK n t j++ [j]:=by rw[vO,if_pos hb,Fb h]
 unfold fR
 rw[e2,e]
 simp
theorem Ee {n m j:Nat} {t:Lp.Tab} (hj:j<m) (hb: ¬ t.bs j<n):fR n m t (j+1)=(fR n m t j).take (Lp.bK n t j).length++(fR n m t j).drop ((Lp.bK n t j).length+1)∧Lp.bK n t (j+1)=Lp.bK n t j:=by
 have e:(List.range (m - j)).map (j+ ·)=j::(List.range (m - (j+1))).map (j+1+ ·):=by
  rw[show m - j=(m - (j+1))+1 by omega,List.range_succ_eq_map,List.map_cons,List.map_map]
  congr 1
  exact List.map_congr_left fun x _=>by simp;omega
 have e2:Lp.bK n t (j+1)=Lp.bK n t j:=by rw[vO,if_neg hb]
 refine⟨?_,e2⟩
 unfold fR
 rw[e2,e,List.take_append_of_le_length (Nat.le_refl _),List.take_length,List.drop_append,List.drop_eq_nil_of_le (by omega),Nat.add_sub_cancel_left]
 rfl
theorem Jy {n m j:Nat} {E:Nat→Nat→Rat} {t:Lp.Tab} (h:Lp.G3 n m (n+m+1) 1000 E j t) (hj:j≤m):nT n m E (fR n m t j) t:=
 ⟨h.z,h.nn,fun i hi=>((K9 hj).1 hi).1,fun i hi hn=>by
   have: ¬ (j≤i∨t.bs i<n):=fun h=>hn ((K9 hj).2 ⟨hi,h⟩)
   have hb: ¬ t.bs i<n:=fun h=>this (.inr h)
   exact⟨by omega,h.zero i hi hb,h.done i (by omega) hb⟩,h.lt⟩
theorem Hl (rows:List Nat) (i p:Nat) (hi:i<rows.length) (hp:p<rows.length - 1):atR (rows.take i++rows.drop (i+1)) p=atR rows (if p<i then p else p+1):=by
 unfold atR
 rw[List.getD_eq_getElem?_getD,List.getD_eq_getElem?_getD]
 congr 1
 by_cases h:p<i
 ·rw[if_pos h,List.getElem?_append_left (by simp;omega),List.getElem?_take,if_pos h]
 ·rw[if_neg h,List.getElem?_append_right (by simp;omega),List.length_take,Nat.min_eq_left (by omega),List.getElem?_drop,show i+1+(p - i)=p+1 by omega]
theorem S5 {α:Type} (l:List α) (i p:Nat) (hi:i<l.length):(l.take i++l.drop (i+1))[p]? =if p<i then l[p]? else l[p+1]? :=by
 by_cases h:p<i
 ·rw[if_pos h,List.getElem?_append_left (by simp;omega),List.getElem?_take,if_pos h]
 ·rw[if_neg h,List.getElem?_append_right (by simp;omega),List.length_take,Nat.min_eq_left (by omega),List.getElem?_drop,show i+1+(p - i)=p+1 by omega]
theorem TT.cut {b b':Int→Option Blk} {g:TG} {n m:Nat} {E:Nat→Nat→Rat} {rows:List Nat} {t:Lp.Tab} {fr:Nat→Bool} (h:TT b g (bZ n m E rows t fr)) {i:Nat} (hi:i<rows.length) (gR gB:Int)
  (hR:b' gR=some ⟨1,(g.ids.take i++g.ids.drop (i+1)).map fun g=> [.lsl g 2 0 (n+m+1)]⟩) (hB:b' gB=some ⟨1,(iv (lb rows.length fun p=>t.bs (atR rows p))).take i++(iv (lb rows.length fun p=>t.bs (atR rows p))).drop (i+1)⟩)
  (hT:b' g.T=some ⟨6,[[.lsl gR 1 0 (rows.length - 1),.bool (decide (Lp.dz m E t<0)),.sl (iv (lim (Lp.dz m E t).natAbs)),.lsl gB 1 0 (rows.length - 1),.int .i64 (n+m:Nat),.lsl g.F 1 0 (n+m)]]⟩)
  (hF:b' g.F=b g.F) (hid: ∀x,x∈g.ids→b' x=b x) (nR:gR<0→rows.length - 1=0) (nB:gB<0→rows.length - 1=0) (hd:(g.T::gR::gB::g.F::g.ids).Nodup):
  TT b' ⟨g.T,gR,gB,g.F,g.ids.take i++g.ids.drop (i+1)⟩ (bZ n m E (rows.take i++rows.drop (i+1)) t fr):=by
 have hl:=h.fE.len
 simp only[bZ] at hl
 have jG: ∀x,x∈g.ids.take i++g.ids.drop (i+1)→x∈g.ids:=fun x hx=>by
  rcases List.mem_append.1 hx with hx | hx
  ·exact List.mem_of_mem_take hx
  ·exact List.mem_of_mem_drop hx
 have hrl:(rows.take i++rows.drop (i+1)).length=rows.length - 1:=by simp;omega
 have hil:(g.ids.take i++g.ids.drop (i+1)).length=rows.length - 1:=by simp;omega
 have hsl:(g.ids.take i++g.ids.drop (i+1)).Sublist g.ids:=by
  conv=>rhs;rw[←List.take_append_drop i g.ids]
  refine List.Sublist.append (List.Sublist.refl _) ?_
  rw[←List.drop_drop]
  exact List.drop_sublist _ _
 refine⟨⟨by simp only[bZ];rw[hil,hrl],hR,fun p x hp=> ?_,fun x hx=>h.fE.pos x (jG x hx),fun p q x hp hq=> ?_,fun hm=> ?_⟩,?_,?_,?_,h.pT,?_,?_,h.pF,?_⟩
 ·have hlt:p<rows.length - 1:=by rw[←hil];exact(List.getElem?_eq_some_iff.1 hp).1
  rw[hid x (jG x (List.mem_of_getElem? hp))]
  rw[S5 _ _ _ (by omega)] at hp
  simp only[bZ]
  rw[Hl _ _ _ hi hlt]
  split at hp
  ·rename_i h1;rw[if_pos h1];exact h.fE.row p x hp
  ·rename_i h1;rw[if_neg h1];exact h.fE.row (p+1) x hp
 ·rw[S5 _ _ _ (by omega)] at hp hq
  split at hp<;>split at hq
  ·exact h.fE.inj p q x hp hq
  ·have:=h.fE.inj p (q+1) x hp hq;omega
  ·have:=h.fE.inj (p+1) q x hp hq;omega
  ·have:=h.fE.inj (p+1) (q+1) x hp hq;omega
 ·simp only[List.nodup_cons,List.mem_cons,not_or] at hd
  exact hd.2.1.2.2 (jG _ hm)
 ·simp only[bZ];rw[hrl];exact hT
 ·simp only[bZ];rw[hB]
  congr 2
  apply List.ext_getElem?
  intro p
  rw[S5 _ _ _ (by simpa using hi),hrl]
  by_cases hp:p<rows.length - 1
  ·have e1:=Hl rows i p hi hp
   rw[List.getElem?_eq_getElem (show p<(iv (lb (rows.length - 1) fun p=>t.bs (atR (rows.take i++rows.drop (i+1)) p))).length by simpa using hp),nP,yE,e1]
   split
   ·rename_i h1
    rw[List.getElem?_eq_getElem (by simp;omega),nP,yE]
   ·rename_i h1
    rw[List.getElem?_eq_getElem (by simp;omega),nP,yE]
  ·rw[if_neg (by omega),List.getElem?_eq_none (by simp;omega),List.getElem?_eq_none (by simp;omega)]
 ·simp only[bZ];rw[hF];exact h.fre
 ·simp only[bZ];rw[hrl];exact nR
 ·simp only[bZ];rw[hrl];exact nB
 ·simp only[List.nodup_cons,List.mem_cons,not_or] at hd ⊢
  obtain⟨⟨a1,a2,a3,a4⟩,⟨b1,b2,b3⟩,⟨c1,c2⟩,d1,d2⟩:=hd
  exact⟨⟨a1,a2,a3,fun h=>a4 (jG _ h)⟩,⟨b1,b2,fun h=>b3 (jG _ h)⟩,⟨c1,fun h=>c2 (jG _ h)⟩,fun h=>d1 (jG _ h),List.Pairwise.sublist hsl d2⟩

theorem Hn {b:Int→Option Blk} {g:Int} {els:List (List V)} {L i:Nat} (h0:0≤g) (hb:b g=some ⟨1,els⟩) (hl:els.length=L) (hi:i+1≤L):
  ∃x,(if(i:Int)+1=0 then some (V.lsl g 1 0 L) else if(i:Int)+1=(L:Int) then some (V.sl []) else some (V.lsl g 1 (i+1) (L - (i+1))))=some x∧elsV b 1 x=some (els.drop (i+1)):=by
 rw[if_neg (by omega)]
 by_cases h:i+1=L
 ·rw[if_pos (by omega)]
  refine⟨_,rfl,?_⟩
  rw[List.drop_eq_nil_of_le (by omega)]
  simp[elsV]
 ·rw[if_neg (by omega)]
  refine⟨_,rfl,?_⟩
  simp only[elsV]
  rw[if_neg (by omega),hb]
  simp only
  rw[if_pos (by simp;omega),List.take_of_length_le (by simp;omega)]
structure aNV where
 j:Nat
 g:TG
 b:Int→Option Blk
set_option maxHeartbeats 1000000 in
theorem Rv {bl:Int→Option Blk} {K:V→(Int→Option Blk)→Prop} (n m:Nat) (E:Nat→Nat→Rat) (g:TG) (t:Lp.Tab) (fr:Nat→Bool) (hm:m≤17) (hn:n+m≤100) (hk0:Lp.G3 n m (n+m+1) 1000 E 0 t) (hTT:TT bl g (bZ n m E (List.range m) t fr))
  (hK: ∀b' g',g'.T=g.T→g'.F=g.F→TT b' g' (bZ n m E (Lp.bK n (Lp.kicks n t m) m) (Lp.kicks n t m) fr)→(∀x,x∈g'.all→x∈g.all∨bl x=none)→(∀x y,bl x=some y→x∉g.all→b' x=some y)→K (.tup []) b'):
  bW Tryz.prog 206 [.loc g.T 6 0 0,.int .i64 n] bl K:=by
 have hkk:=Lp.jP hk0 (show n≤n+m+1 by omega)
 refine bO Tryz.func206 rfl rfl (by rw[Tryz.ntmps206];simp) ?_
 rw[Tryz.ntmps206,Tryz.results206]
 refine aC ?_
 simp
 refine aJ (fun q:aNV=> [(0,.loc g.T 6 0 0),(1,.int .i64 n),(4,.int .i64 (Lp.bK n (Lp.kicks n t q.j) q.j).length)]) (fun q=>q.b) (fun q=>q.j≤m∧TT q.b q.g (bZ n m E (fR n m (Lp.kicks n t q.j) q.j) (Lp.kicks n t q.j) fr)∧q.g.T=g.T∧q.g.F=g.F∧(∀x,x∈q.g.all→x∈g.all∨bl x=none)∧(∀x y,bl x=some y→x∉g.all→q.b x=some y)) (fun q=>m - q.j) _ ⟨0,g,bl⟩ ⟨Nat.zero_le _,by simp only[Lp.kicks];rw[Fl];exact hTT,rfl,rfl,fun x hx=> .inl hx,fun _ _ h _=>h⟩ ⟨rfl,by simp[Lp.bK],Sub.refl _⟩ ?_
 rintro⟨j,⟨gT,gR,gB,gF,ids⟩,b⟩ ⟨hj,hTb,rfl,rfl,hal,hfb⟩
 simp only at hj hTb hal hfb
 obtain⟨tj,htj⟩: ∃tj,Lp.kicks n t j=tj:=⟨_,rfl⟩
 have hkj:=hkk j hj
 rw[htj] at hTb hkj
 have hI:=Jy hkj hj
 have hR:=Ck (n:=n) tj hj
 have hlen:=Ld n m j tj
 have hrl:=hR.len
 have bT:b g.T=_:=hTb.hd
 have bB:b gB=_:=hTb.ba
 have bG:b gR=_:=hTb.fE.top
 simp only[bZ] at bT bB bG
 have oV: ∀(q:Nat),Lp.kicks n t (j+1)=Lp.kN n tj j:=fun _=>by rw[Lp.kicks,htj]
 obtain⟨i,hi⟩: ∃i,(Lp.bK n tj j).length=i:=⟨_,rfl⟩
 rw[hi] at hlen
 have wi:IntKind.i64.wrap ((i:Int)+1)=(i:Int)+1:=i64_in (by omega) (by omega)
 refine aE ?_
 simp[bT,htj,hi]
 refine⟨fun hlt=> ?_,fun hlt=> ?_⟩
 ·have hjm:j<m:=by omega
  have hat:=Rp (n:=n) (t:=tj) hjm
  rw[hi] at hat
  have hiR:i<(fR n m tj j).length:=by omega
  obtain⟨gi,hgi,xK,xS,mP⟩:=hTb.fE.at i (by simp only[bZ];exact hiR)
  simp only[bZ] at mP
  refine aT ?_
  refine aE ?_
  simp[bT,bB,hiR,hat]
  refine⟨fun hbj=> ?_,fun hbj=> ?_⟩
  ·have ek:Lp.kicks n t (j+1)=tj:=by
    rw[oV 0];unfold Lp.kN;rw[if_pos hbj]
   obtain⟨e1,e2⟩:=zJ (n:=n) (t:=tj) (t':=tj) hjm (fun _ _=>rfl) hbj
   simp[wi,aB]
   refine⟨⟨j+1,⟨g.T,gR,gB,g.F,ids⟩,b⟩,⟨by simp only;omega,by simp only;rw[ek,e1];exact hTb,rfl,rfl,hal,hfb⟩,by simp only;omega,rfl,?_,Sub.refl _⟩
   simp[ek,e2,hi]
  have hnb: ¬ tj.bs j<n:=by omega
  have hzs: ∀c,c<n+m+1→_:=fun c hc=>Lp.qN hkj.z hjm hc
  refine aE ?_
  simp
  refine aC ?_
  simp
  refine aJ (fun k:Nat=> [(0,.loc g.T 6 0 0),(1,.int .i64 n),(4,.int .i64 i),(5,.int .i64 k)]) (fun _=>b) (fun k=>k≤n∧ ∀c,c<k→ ¬ tj.X j c≠0) (fun k=>n - k) _ 0 ⟨Nat.zero_le _,fun c hc=>absurd hc (Nat.not_lt_zero _)⟩ ⟨rfl,by simp,Sub.refl _⟩ ?_
  rintro k ⟨hk,cD⟩
  have wk:IntKind.i64.wrap ((k:Int)+1)=(k:Int)+1:=i64_in (by omega) (by omega)
  refine aC ?_
  simp
  refine bQ [(0,.loc g.T 6 0 0),(1,.int .i64 n),(4,.int .i64 i),(5,.int .i64 k)] _ b 40 (.bool (decide (k<n∧Lp.zt m E tj j k=0))) ⟨rfl,by simp,Sub.refl _⟩ rfl ?_ ?_
  ·by_cases hkn:k<n
   ·have e3:(k:Int)<(n:Int)+m+1:=by omega
    simp[hkn,bT,bG,hiR,hgi,mP,hat,show k<n+m+1 by omega,e3]
    refine aD (lZ _) ?_
    simp[Int.sign_eq_zero_iff_zero]
    by_cases h0:Lp.zt m E tj j k=0<;>simp[h0]
   ·simp[hkn]
  simp
  refine⟨fun hkn h0=> ?_,fun hno=> ?_⟩
  ·simp[wk,aB]
   refine⟨k+1,⟨by omega,fun c hc=> ?_⟩,by omega,rfl,by simp,Sub.refl _⟩
   by_cases ec:c=k
   ·rw[ec];exact(hzs k (by omega)).2.1 h0
   ·have:=cD c (by omega);grind
  ·refine⟨fun hkn=> ?_,fun hkn=> ?_⟩
   ·have hx:tj.X j k≠0:=fun h0=>hno hkn ((hzs k (by omega)).2.2 h0)
    have ek:Lp.kicks n t (j+1)=Lp.piv tj j k:=by
     rw[oV 0];unfold Lp.kN;rw[if_neg hnb,Lp.dI.2 ⟨hkn,hx,cD⟩]
    obtain⟨Y,hY,hYT⟩:=Rm hI hR hiR (show k<n+m by omega) (by rw[hat];exact hx) fr
    rw[hat] at hYT
    obtain⟨e1,e2⟩:=zJ (n:=n) (t:=tj) (t':=Lp.piv tj j k) hjm (fun x hx=>(Lp.dA tj k (show x≠j by omega)).symm) (by rw[Lp.dQ];exact hkn)
    refine Bx ⟨g.T,gR,gB,g.F,ids⟩ (bZ n m E (fR n m tj j) tj fr) i k Y hTb (Hg hI hm hn hR) hiR (show k<n+m by omega) hY fun b' hT' hf'=> ?_
    simp[wi,aB]
    refine⟨⟨j+1,⟨g.T,gR,gB,g.F,ids⟩,b'⟩,⟨by simp only;omega,by simp only;rw[ek,e1];exact hYT b' _ hT',rfl,rfl,hal,fun x y hx hn=> ?_⟩,by simp only;omega,rfl,?_,Sub.refl _⟩
    ·have h1:=hfb x y hx hn
     refine hf' x y h1 fun hm2=> ?_
     rcases hal x hm2 with h2 | h2
     ·exact hn h2
     ·rw[h2] at hx;cases hx
    ·simp[ek,e2,hi]
   ·have ek:Lp.kicks n t (j+1)=tj:=by
     rw[oV 0];unfold Lp.kN;rw[if_neg hnb,Lp.eO.2 fun c hc=>cD c (by omega)]
    obtain⟨e1,e2⟩:=Ee (n:=n) (t:=tj) hjm hnb
    rw[hi] at e1
    have nds:=hTb.nd
    simp only[List.nodup_cons,List.mem_cons,not_or] at nds
    obtain⟨⟨nTR,nTB,nTF,nTi⟩,⟨nRB,nRF,nRi⟩,⟨nBF,nBi⟩,nFi,Ur⟩:=nds
    have hil:=hTb.fE.len
    simp only[bZ] at hil
    generalize hL:(fR n m tj j).length=L at *
    refine dD aM (rem b gR) (cW b gR) [0,1,2,3,4,5,6,7,8,9,10,11,12,13] 4 17 (by kernel_rfl) ?_
    have q1:i≤L:=by omega
    have q2:i+1≤L:=by omega
    have q3:(i:Int)≤L:=by omega
    have q4:(i:Int)+1≤L:=by omega
    have q5:0≤(i:Int)+1:=by omega
    have q6:((i:Int)+1).toNat=i+1:=by omega
    have aI9:0≤gR:=by
     rcases Int.lt_or_le gR 0 with h9 | h9
     ·have:=hTb.pR h9;simp only[bZ] at this;omega
     ·exact h9
    obtain⟨x1,hx1,hx2⟩:=Hn (b:=b) (g:=gR) (els:=ids.map fun g=> [V.lsl g 2 0 (n+m+1)]) (L:=L) (i:=i) aI9 bG (by simp[hil]) q2
    simp[nTR,bT,wi,sliV,q1,q2,q3,q4,q5,q6,aI9,hx1]
    refine Dq 14 false ?_
    simp[appV,hx2,bG,hil]
    rw[if_pos q1,←List.map_take,←List.map_drop,←List.map_append]
    have hcl:(ids.take i++ids.drop (i+1)).length=L - 1:=by simp;omega
    generalize A4:ids.take i++ids.drop (i+1)=nids at hcl
    simp[hcl]
    refine⟨by omega,fun gN hgN hbN=> ?_⟩
    have gY: ∀X,Sub (rem b gR) (upd (rem b gR) gN X):=fun X z y hz=>by
     rw[aF] at hz
     rw[aA,aF]
     grind
    have nNT: ¬ gN=g.T:=fun e=>by have:=hbN (by rw[e];exact nTR);rw[e,bT] at this;cases this
    have nNB: ¬ gN=gB:=fun e=>by have:=hbN (by rw[e];exact Ne.symm nRB);rw[e,bB] at this;cases this
    have bF:b g.F=_:=hTb.fre
    have nNF: ¬ gN=g.F:=fun e=>by have:=hbN (by rw[e];exact Ne.symm nRF);rw[e,bF] at this;cases this
    have nNi:gN∉ids:=fun hm2=>by
     obtain⟨q,hq⟩:=List.mem_iff_getElem?.1 hm2
     have:=hbN fun e=>nRi (e▸hm2)
     rw[hTb.fE.row q gN hq] at this;cases this
    refine⟨gY _,Dq 15 false ?_⟩
    simp
    refine⟨gY _,Dq 16 false ?_⟩
    simp
    refine⟨gY _,Dq 17 true ?_⟩
    simp[Ne.symm nNT,nTR,bT]
    refine Dd ?_
    obtain⟨b1,hb1⟩: ∃b1,b1=upd (upd (rem b gR) gN (some ⟨1,nids.map fun g=> [.lsl g 2 0 (n+m+1)]⟩)) g.T (some ⟨6,[[.lsl gN 1 0 (L - 1),.bool (decide (Lp.dz m E tj<0)),.sl (iv (lim (Lp.dz m E tj).natAbs)),.lsl gB 1 0 L,.int .i64 (n+m:Nat),.lsl g.F 1 0 (n+m)]]⟩):=⟨_,rfl⟩
    have c1T:b1 g.T=some ⟨6,[[.lsl gN 1 0 (L - 1),.bool (decide (Lp.dz m E tj<0)),.sl (iv (lim (Lp.dz m E tj).natAbs)),.lsl gB 1 0 L,.int .i64 (n+m:Nat),.lsl g.F 1 0 (n+m)]]⟩:=by rw[hb1];simp
    have c1N:b1 gN=some ⟨1,nids.map fun g=> [.lsl g 2 0 (n+m+1)]⟩:=by rw[hb1];simp[nNT]
    have c1: ∀x,x≠g.T→x≠gN→x≠gR→b1 x=b x:=fun x x1 x2 x3=>by rw[hb1,aG _ _ _ _ x1,aG _ _ _ _ x2,aF,if_neg x3]
    have c1B:b1 gB=b gB:=c1 gB (Ne.symm nTB) (Ne.symm nNB) (Ne.symm nRB)
    rw[bB] at c1B
    refine cX [(0,.loc g.T 6 0 0),(1,.int .i64 n),(4,.int .i64 i),(5,.int .i64 k)] 86 b1 ⟨rfl,by simp,by rw[hb1];exact sub_eq rfl⟩ ?_
    clear hb1
    have aG2:0≤gB:=by
     rcases Int.lt_or_le gB 0 with h9 | h9
     ·have:=hTb.pB h9;simp only[bZ] at this;omega
     ·exact h9
    obtain⟨bas,Mp⟩: ∃x,iv (lb L fun p=>tj.bs (atR (fR n m tj j) p))=x:=⟨_,rfl⟩
    have hbl:bas.length=L:=by rw[←Mp];simp
    rw[Mp] at c1B
    refine dD aM (rem b1 gB) (cW b1 gB) [0,1,2,3,4,5,6,7,8,9,10,11,12,13] 4 17 (by kernel_rfl) ?_
    obtain⟨x2,hx3,hx4⟩:=Hn (b:=b1) (g:=gB) (els:=bas) (L:=L) (i:=i) aG2 c1B hbl q2
    simp[nTB,c1T,wi,sliV,q1,q2,q3,q4,q5,q6,aG2,hx3]
    refine Dq 14 false ?_
    simp[appV,hx4,c1B,hbl]
    rw[if_pos q1]
    have Sc:(bas.take i++bas.drop (i+1)).length=L - 1:=by simp;omega
    generalize hnb2:bas.take i++bas.drop (i+1)=nbas at Sc
    simp[Sc]
    refine⟨by omega,fun gM hgM hbM=> ?_⟩
    have lG: ∀X,Sub (rem b1 gB) (upd (rem b1 gB) gM X):=fun X z y hz=>by
     rw[aF] at hz
     rw[aA,aF]
     grind
    have mMT: ¬ gM=g.T:=fun e=>by have:=hbM (by rw[e];exact nTB);rw[e,c1T] at this;cases this
    have mMN: ¬ gM=gN:=fun e=>by have:=hbM (by rw[e];exact nNB);rw[e,c1N] at this;cases this
    have c1F:b1 g.F=b g.F:=c1 g.F (Ne.symm nTF) (Ne.symm nNF) (Ne.symm nRF)
    have mMF: ¬ gM=g.F:=fun e=>by have:=hbM (by rw[e];exact Ne.symm nBF);rw[e,c1F,bF] at this;cases this
    have c1i: ∀x,x∈ids→b1 x=b x:=fun x hx=>c1 x (fun e=>nTi (e▸hx)) (fun e=>nNi (e▸hx)) (fun e=>nRi (e▸hx))
    have mMi:gM∉ids:=fun hm2=>by
     obtain⟨q,hq⟩:=List.mem_iff_getElem?.1 hm2
     have:=hbM fun e=>nBi (e▸hm2)
     rw[c1i gM hm2,hTb.fE.row q gM hq] at this;cases this
    refine⟨lG _,Dq 15 false ?_⟩
    simp
    refine⟨lG _,Dq 16 false ?_⟩
    simp
    refine⟨lG _,Dq 17 true ?_⟩
    simp[Ne.symm mMT,nTB,c1T]
    refine Dd ?_
    simp[aB]
    obtain⟨b2,hb2⟩: ∃b2,b2=(upd (upd (rem b1 gB) gM (some ⟨1,nbas⟩)) g.T (some ⟨6,[[.lsl gN 1 0 (L - 1),.bool (decide (Lp.dz m E tj<0)),.sl (iv (lim (Lp.dz m E tj).natAbs)),.lsl gM 1 0 (L - 1),.int .i64 (n+m:Nat),.lsl g.F 1 0 (n+m)]]⟩)):=⟨_,rfl⟩
    have hbF:b2 g.F=b g.F:=by rw[hb2];simp[Ne.symm nTF,Ne.symm mMF,Ne.symm nBF,c1F]
    have aSE:b2 gN=some ⟨1,nids.map fun g=> [.lsl g 2 0 (n+m+1)]⟩:=by rw[hb2];simp[nNT,Ne.symm mMN,nNB,c1N]
    have aRY:b2 gM=some ⟨1,nbas⟩:=by rw[hb2];simp[mMT]
    have aU4:b2 g.T=some ⟨6,[[.lsl gN 1 0 (L - 1),.bool (decide (Lp.dz m E tj<0)),.sl (iv (lim (Lp.dz m E tj).natAbs)),.lsl gM 1 0 (L - 1),.int .i64 (n+m:Nat),.lsl g.F 1 0 (n+m)]]⟩:=by rw[hb2];simp
    have aTZ: ∀x,x∈ids→b2 x=b x:=fun x hx=>by
     have x1:x≠g.T:=fun e=>nTi (e▸hx)
     have x2:x≠gM:=fun e=>mMi (e▸hx)
     have x3:x≠gB:=fun e=>nBi (e▸hx)
     rw[hb2,aG _ _ _ _ x1,aG _ _ _ _ x2,aF,if_neg x3];exact c1i x hx
    have aUT: ∀x,x≠g.T→x≠gM→x≠gB→b2 x=b1 x:=fun x x1 x2 x3=>by rw[hb2,aG _ _ _ _ x1,aG _ _ _ _ x2,aF,if_neg x3]
    have aJS:=hTb.cut (b':=b2) (i:=i) (by rw[hL];exact q2) gN gM (by rw[aSE,A4]) (by rw[aRY];simp only[hL,Mp,hnb2]) (by rw[aU4,hL]) hbF aTZ
     (fun h9=>by rcases hgN with h8 | h8;omega;rw[hL,←hcl,h8];rfl) (fun h9=>by rcases hgM with h8 | h8;omega;rw[hL,←Sc,h8];rfl)
     (by simp only[List.nodup_cons,List.mem_cons,not_or];exact⟨⟨Ne.symm nNT,Ne.symm mMT,nTF,nTi⟩,⟨Ne.symm mMN,nNF,nNi⟩,⟨mMF,mMi⟩,nFi,Ur⟩)
    rw[←e1] at aJS
    refine⟨⟨j+1,⟨g.T,gN,gM,g.F,ids.take i++ids.drop (i+1)⟩,b2⟩,⟨by simp only;omega,by simp only;rw[ek];exact aJS,rfl,rfl,fun x hx=> ?_,fun x y hx hn=> ?_⟩,by simp only;omega,rfl,by simp[ek,e2,hi],by rw[hb2];exact sub_eq rfl⟩
    ·have hT2:=hal g.T (by simp[TG.all])
     have hF2:=hal g.F (by simp[TG.all])
     have aSD:bl gN=none∨gN∈g.all:=by
      by_cases e:gN=gR
      ·rcases hal gR (by simp[TG.all]) with h9 | h9
       ·exact .inr (e▸h9)
       ·exact .inl (e▸h9)
      ·cases hv:bl gN with
       | none => exact .inl rfl
       | some y =>
         by_cases B3:gN∈g.all
         ·exact .inr B3
         ·have:=hfb gN y hv B3
          rw[hbN e] at this;cases this
     have aSQ:bl gM=none∨gM∈g.all:=by
      by_cases e:gM=gB
      ·rcases hal gB (by simp[TG.all]) with h9 | h9
       ·exact .inr (e▸h9)
       ·exact .inl (e▸h9)
      ·by_cases e3:gM=gR
       ·rcases hal gR (by simp[TG.all]) with h9 | h9
        ·exact .inr (e3▸h9)
        ·exact .inl (e3▸h9)
       ·cases hv:bl gM with
        | none => exact .inl rfl
        | some y =>
          by_cases B3:gM∈g.all
          ·exact .inr B3
          ·have h8:=hfb gM y hv B3
           have h7:=hbM e
           rw[c1 gM mMT mMN e3,h8] at h7;cases h7
     simp only[TG.all,List.mem_cons] at hx
     rcases hx with rfl | rfl | rfl | rfl | hx
     ·exact hT2
     ·exact aSD.symm
     ·exact aSQ.symm
     ·exact hF2
     ·exact hal x (by
       simp only[TG.all,List.mem_cons]
       refine .inr (.inr (.inr (.inr ?_)))
       rcases List.mem_append.1 hx with hx | hx
       ·exact List.mem_of_mem_take hx
       ·exact List.mem_of_mem_drop hx)
    ·have h9:=hfb x y hx hn
     have hne: ∀z,z∈TG.all ⟨g.T,gR,gB,g.F,ids⟩→x≠z:=fun z hz e=>by
      rcases hal z hz with h8 | h8
      ·exact hn (e▸h8)
      ·rw[e,h8] at hx;cases hx
     have xT:=hne g.T (by simp[TG.all])
     have xR:=hne gR (by simp[TG.all])
     have xB:=hne gB (by simp[TG.all])
     have xN:x≠gN:=fun e=>by
      have:=hbN fun e2=>xR (e.trans e2)
      rw[←e,h9] at this;cases this
     have xM:x≠gM:=fun e=>by
      have:=hbM fun e2=>xB (e.trans e2)
      rw[←e,c1 x xT xN xR,h9] at this;cases this
     simp only
     rw[aUT x xT xM xB,c1 x xT xN xR]
     exact h9
 ·have hjm:j=m:=by omega
  subst hjm
  rw[Lg] at hTb
  rw[htj] at hK
  rw[iV]
  exact⟨[],by simp,hK b ⟨g.T,gR,gB,g.F,ids⟩ rfl rfl hTb hal hfb⟩

structure PgN (p : Pg) (n m : Nat) : Prop where
 rows:p.rows=m
 bD:p.bD=n
 al:p.a.length=m*n
 bl:p.b.length=m
 cl:p.c.length=n
 am: ∀x,x∈p.a→x.natAbs≤1000
 bm: ∀x,x∈p.b→x.natAbs≤1000
 cm: ∀x,x∈p.c→x.natAbs≤1000
 ml:m≤17
 nl:n+m≤100
def pA (p:Pg) (n i j:Nat):Int:=p.a.getD (i*n+j) 0
def pB (p:Pg) (i:Nat):Int:=p.b.getD i 0
def pC (p:Pg) (j:Nat):Int:=p.c.getD j 0
theorem iM {l:List Int} (h: ∀x,x∈l→x.natAbs≤1000) (i:Nat):(l.getD i 0).natAbs≤1000:=by
 rw[List.getD_eq_getElem?_getD]
 cases hx:l[i]? with
 | none => simp
 | some x => exact h x (List.mem_of_getElem? hx)
theorem C6 (l:List Int):l=lz l.length fun i=>l.getD i 0:=by
 apply List.ext_getElem
 ·simp
 ·intro i h1 h2
  simp[lz,List.getD_eq_getElem?_getD,h1]
theorem PgN.b {p:Pg} {n m:Nat} (h:PgN p n m):p.b=lz m (pB p):=by rw[←h.bl];exact C6 p.b
theorem PgN.c {p:Pg} {n m:Nat} (h:PgN p n m):p.c=lz n (pC p):=by rw[←h.cl];exact C6 p.c
theorem PgN.row {p:Pg} {n m i:Nat} (h:PgN p n m) (hi:i<m):((iv p.a).take (i*n+n)).drop (i*n)=iv (lz n (pA p n i)):=by
 have hl:i*n+n≤p.a.length:=by
  rw[h.al]
  have:=Nat.mul_le_mul_right n (show i+1≤m by omega)
  rwa [Nat.add_mul,Nat.one_mul] at this
 apply List.ext_getElem
 ·simp;omega
 ·intro j h1 h2
  have hj:j<n:=by simpa using h2
  simp only[List.getElem_drop,List.getElem_take,nP,yK,pA]
  rw[List.getD_eq_getElem?_getD,List.getElem?_eq_getElem (by omega)]
  rfl
def sgB (p:Pg) (i:Nat):Int:=if pB p i<0 then -1 else 1
def eZ (p:Pg) (n m i c:Nat):Int:=if c<n then sgB p i*pA p n i c else if c=n+m then sgB p i*pB p i else if c=n+i then 1 else 0
def eQ (p:Pg) (n m:Nat):Nat→Nat→Rat:=fun i c=>(eZ p n m i c:Rat)
theorem Qv {p:Pg} {n m:Nat} (h:PgN p n m) (i c:Nat):(eZ p n m i c).natAbs≤1000:=by
 have hs:(sgB p i).natAbs=1:=by unfold sgB;split<;>rfl
 unfold eZ
 split
 ·rw[Int.natAbs_mul,hs,Nat.one_mul];exact iM h.am _
 ·split
  ·rw[Int.natAbs_mul,hs,Nat.one_mul];exact iM h.bm _
  ·split<;>decide
theorem PgN.init {p:Pg} {n m:Nat} (h:PgN p n m):Lp.Init n m 1000 (eQ p n m):=by
 refine⟨⟨fun i c _ _=>⟨_,rfl⟩,fun i c _ _=> ?_⟩,fun i j hi hj=> ?_,fun i hi=> ?_⟩
 ·have:=Qv h i c
  constructor
  ·rw[show -((1000:Nat):Rat)=((-1000:Int):Rat) from rfl]
   exact Rat.intCast_le_intCast.2 (by omega)
  ·rw[show((1000:Nat):Rat)=((1000:Int):Rat) from rfl]
   exact Rat.intCast_le_intCast.2 (by omega)
 ·unfold eQ eZ
  rw[if_neg (by omega),if_neg (by omega)]
  by_cases e:i=j
  ·rw[if_pos (by omega),if_pos e];rfl
  ·rw[if_neg (by omega),if_neg e];rfl
 ·have:0≤eZ p n m i (n+m):=by
   unfold eZ sgB
   rw[if_neg (by omega),if_pos rfl]
   split
   ·omega
   ·omega
  exact Rat.intCast_le_intCast.2 this
theorem aLT {p:Pg} {n m:Nat} (h:PgN p n m):Lp.vol m (eQ p n m) (Lp.kH n (eQ p n m))=1:=by
 show Lp.det m (fun j i=>eQ p n m i (n+j))=1
 exact Lp.Dj m _ fun j i hj hi=>by
  rw[h.init.art i j hi hj]
  by_cases e:j=i
  ·rw[if_pos e,if_pos e.symm]
  ·rw[if_neg e,if_neg (Ne.symm e)]
theorem Xy :Lp.kB 1=1:=by unfold Lp.kB;decide
theorem dz0 {p:Pg} {n m:Nat} (h:PgN p n m):Lp.dz m (eQ p n m) (Lp.kH n (eQ p n m))=1:=by
 unfold Lp.dz;rw[aLT h,Xy];rfl
theorem zt0 {p:Pg} {n m:Nat} (h:PgN p n m) (i c:Nat):Lp.zt m (eQ p n m) (Lp.kH n (eQ p n m)) i c=eZ p n m i c:=by
 unfold Lp.zt
 rw[aLT h,Xy,Rat.mul_one]
 show(eQ p n m i c).num=_
 unfold eQ
 simp

def wk :V→V
 | .nils => .sl []
 | x => x
theorem aAP {x:V} (h:x.one=true):(wk x).one=true:=by
 cases x<;>first | exact h | rfl
theorem aBN {F:Nat→Prop} {w:World} {x:V} {v:Value} (h:Rep F w x v):Rep F w (wk x) v:=by
 cases x with
 | nils => cases h; exact .sl0 none 0 (fun _ => rfl)
 | _ => exact h
theorem aIO {P:Program} {c:Code} {K:Ex→St→Prop} {σ:St} {g:Int} {s:Nat} {els:List (List V)} (hb:σ.bl g=some ⟨s,els⟩)
  (h:AW P c K ⟨σ.n,σ.sl,upd σ.bl g (some ⟨s,els.map fun e=>e.map wk⟩)⟩):AW P c K σ:=by
 intro w0 M F a w hs
 have hm:=hs.mem
 refine h w0 M F a w ⟨⟨hm.os,hm.tape,hm.output,hm.size,hm.frame,hm.jA,hm.fr,?_,fun x b hx h0=> ?_,fun x b hx=> ?_⟩,hs.size,hs.sl,hs.defers⟩
 ·obtain⟨n,hn⟩:=hm.fin
  refine⟨n,fun x hx=> ?_⟩
  have:=hn x hx
  show upd _ _ _ x=none
  by_cases hxg:x=g
  ·subst hxg;rw[hb] at this;cases this
  ·rw[aG _ _ _ _ hxg];exact this
 ·by_cases hxg:x=g
  ·subst hxg;exact hm.own x _ hb h0
  ·simp only at hx
   rw[aG _ _ _ _ hxg] at hx
   exact hm.own x b hx h0
 ·by_cases hxg:x=g
  ·subst hxg
   simp only at hx
   rw[aY] at hx
   cases hx
   have hB:=hm.blk x _ hb
   unfold cY at hB ⊢
   split at hB
   ·rename_i cL
    rw[if_pos cL];simp only at hB ⊢;rw[hB];rfl
   ·rename_i cL
    rw[if_neg cL]
    obtain⟨h1,cs,t,h2,h3,h4⟩:=hB
    refine⟨h1,cs,t,h2,by simpa using h3,fun k e he=> ?_⟩
    simp only[List.getElem?_map] at he
    cases he0:els[k]? with
    | none => rw [he0] at he; cases he
    | some e0 =>
      rw[he0] at he;cases he
      obtain⟨h5,h6⟩:=h4 k e0 he0
      refine⟨by simpa using h5,fun j y hy=> ?_⟩
      rw[List.getElem?_map] at hy
      cases hy0:e0[j]? with
      | none=>rw[hy0] at hy;cases hy
      | some y0=>
        rw[hy0] at hy;cases hy
        obtain⟨h7,v,h8,h9⟩:=h6 j y0 hy0
        exact⟨aAP h7,v,h8,aBN h9⟩
  ·simp only at hx
   rw[aG _ _ _ _ hxg] at hx
   exact hm.blk x b hx
theorem aR8 :biC 0= [.bool false,.sl []]:=by
 simp[bV,aX,iv]
theorem Uy (n:Nat):(List.replicate n [V.bool false,.nils]).map (fun e=>e.map wk)=zv n fun _=>0:=by
 rw[List.map_replicate]
 apply List.ext_getElem
 ·simp
 ·intro i h1 h2
  simp[zv,aR8,wk]
theorem Nn {N i:Nat} (f:Nat→Int) (v:Int) (h:i<N):(zv N f).set i (biC v)=zv N fun c=>if c=i then v else f c:=by
 apply List.ext_getElem
 ·simp
 ·intro j h1 h2
  rw[List.getElem_set,P7,P7]
  by_cases e:i=j
  ·rw[if_pos e,if_pos e.symm]
  ·rw[if_neg e,if_neg (Ne.symm e)]
theorem P5 (r:Nat) (bs:Nat→Nat):lb (r+1) bs=lb r bs++ [(bs r:Int)]:=by simp[lb,List.range_succ]
theorem TT.start {b:Int→Option Blk} {T R B F:Int} {t:TN} (hr:t.r=0) (hR:b R=some ⟨1,[]⟩) (hB:b B=some ⟨1,[]⟩) (hT:b T=some ⟨6,[[.lsl R 1 0 0,.bool (decide (t.d<0)),.sl (iv (lim t.d.natAbs)),.lsl B 1 0 0,.int .i64 t.n,.lsl F 1 0 t.n]]⟩)
  (hF:b F=some ⟨1,lv t.n t.fr⟩) (pT:0≤T) (pF:0≤F) (nd: [T,R,B,F].Nodup):TT b ⟨T,R,B,F,[]⟩ t:=
 ⟨⟨hr.symm,hR,fun i g h=>(by cases h),fun g h=>(by cases h),fun i j g h=>(by cases h),fun h=>(by cases h)⟩,by simp only[hr];exact hT,by simp only[hr];exact hB,hF,pT,fun _=>hr,fun _=>hr,pF,nd⟩
theorem TT.snoc {b b':Int→Option Blk} {g:TG} {t:TN} (h:TT b g t) (gN gM gr:Int) (hR:b' gN=some ⟨1,(g.ids++ [gr]).map fun g=> [.lsl g 2 0 (t.n+1)]⟩) (hB:b' gM=some ⟨1,iv (lb (t.r+1) t.bs)⟩)
  (hT:b' g.T=some ⟨6,[[.lsl gN 1 0 (t.r+1),.bool (decide (t.d<0)),.sl (iv (lim t.d.natAbs)),.lsl gM 1 0 (t.r+1),.int .i64 t.n,.lsl g.F 1 0 t.n]]⟩) (hF:b' g.F=b g.F) (hi: ∀x,x∈g.ids→b' x=b x)
  (hr:b' gr=some ⟨2,zv (t.n+1) (t.Z t.r)⟩) (h0:0≤gr) (hN:0≤gN) (hM:0≤gM) (nd:(g.T::gN::gM::g.F::(g.ids++ [gr])).Nodup):
  TT b' ⟨g.T,gN,gM,g.F,g.ids++ [gr]⟩ ⟨t.r+1,t.n,t.Z,t.d,t.bs,t.fr⟩:=by
 have hl:=h.fE.len
 have key: ∀(i:Nat) (x:Int),(g.ids++ [gr])[i]? =some x→(i<t.r∧g.ids[i]? =some x)∨(i=t.r∧x=gr):=fun i x hx=>by
  by_cases e:i<t.r
  ·rw[List.getElem?_append_left (by omega)] at hx;exact .inl ⟨e,hx⟩
  ·rw[List.getElem?_append_right (by omega)] at hx
   have:i - g.ids.length=0:=by
    rcases Nat.eq_zero_or_pos (i - g.ids.length) with h | h
    ·exact h
    ·rw[List.getElem?_eq_none (by simp;omega)] at hx;cases hx
   rw[this] at hx;cases hx
   exact .inr ⟨by omega,rfl⟩
 have nd2:=nd
 simp only[List.nodup_cons,List.mem_cons,not_or] at nd2
 obtain⟨-,⟨-, -,nNi⟩, -, -,ndi⟩:=nd2
 have hgr:gr∉g.ids:=fun hm=>by
  rw[List.nodup_append] at ndi
  exact ndi.2.2 gr hm gr (by simp) rfl
 refine⟨⟨by simp[hl],hR,fun i x hx=> ?_,fun x hx=> ?_,fun i j x hx hy=> ?_,nNi⟩,hT,hB,?_,h.pT,fun hn=>absurd hn (by simp only;omega),fun hn=>absurd hn (by simp only;omega),h.pF,nd⟩
 ·rcases key i x hx with ⟨hlt,hx⟩| ⟨rfl,rfl⟩
  ·rw[hi x (List.mem_of_getElem? hx)];exact h.fE.row i x hx
  ·exact hr
 ·rcases List.mem_append.1 hx with hx | hx
  ·exact h.fE.pos x hx
  ·rw[List.mem_singleton.1 hx];exact h0
 ·rcases key i x hx with ⟨hlt,hx⟩| ⟨e1,e2⟩<;>rcases key j x hy with ⟨Zu,hy⟩| ⟨e3,e4⟩
  ·exact h.fE.inj i j x hx hy
  ·exact absurd (List.mem_of_getElem? hx) (by rw[e4];exact hgr)
  ·exact absurd (List.mem_of_getElem? hy) (by rw[e2];exact hgr)
  ·rw[e1,e3]
 ·simp only;rw[hF];exact h.fre
theorem TT.aKP {b b':Int→Option Blk} {g:TG} {t:TN} (h:TT b g t) (fr:Nat→Bool) (hF:b' g.F=some ⟨1,lv t.n fr⟩) (hk: ∀x y,x∈g.all→x≠g.F→b x=some y→b' x=some y):TT b' g ⟨t.r,t.n,t.Z,t.d,t.bs,fr⟩:=by
 have nd:=h.nd
 simp only[List.nodup_cons,List.mem_cons,not_or] at nd
 obtain⟨⟨n1,n2,n3,n4⟩,⟨n5,n6,n7⟩,⟨n8,n9⟩,n10,n11⟩:=nd
 refine⟨h.fE.bI fun x y hx hy=> ?_,hk _ _ (by simp[TG.all]) n3 h.hd,hk _ _ (by simp[TG.all]) n8 h.ba,hF,h.pT,h.pR,h.pB,h.pF,h.nd⟩
 rcases hx with rfl | hx
 ·exact hk _ _ (by simp[TG.all]) n6 hy
 ·exact hk _ _ (by simp[TG.all,hx]) (fun e=>n10 (e▸hx)) hy
theorem dM {m q:Nat} (h:q<m):atR (List.range m) q=q:=by
 unfold atR
 rw[List.getD_eq_getElem?_getD,List.getElem?_eq_getElem (by simpa using h)];simp

def okA (n:Nat):Nat→Bool:=fun c=>decide (c<n)
def oA (n m:Nat):Nat→Int:=fun c=>if n≤c∧c<n+m then -1 else 0
theorem Rd (n m:Nat):wO (oA n m)=Lp.bE n m:=by
 funext c
 unfold wO oA Lp.bE
 split<;>rfl
def tbA (p:Pg) (n m i:Nat) (fr:Nat→Bool):TN:=⟨i,n+m,eZ p n m,1,fun q=>n+q,fr⟩
theorem Pn (N:Nat):List.replicate N [V.bool false]=lv N fun _=>false:=by
 unfold lv
 rw[List.map_const',List.length_range]
theorem Cf (N:Nat):List.replicate N [V.int .i64 0]=iv (lz N fun _=>0):=by
 simp[iv,lz,List.map_const']
theorem Od {N k:Nat} (f:Nat→Int) (v:Int) (h:k<N):(iv (lz N f)).set k [.int .i64 v]=iv (lz N fun c=>if c=k then v else f c):=by
 apply List.ext_getElem
 ·simp
 ·intro j h1 h2
  rw[List.getElem_set,nP,nP,yK,yK]
  by_cases e:k=j
  ·rw[if_pos e,if_pos e.symm]
  ·rw[if_neg e,if_neg (Ne.symm e)]
theorem C9 {N:Nat} {f g:Nat→Int} (h: ∀c,c<N→f c=g c):lz N f=lz N g:=List.map_congr_left fun c hc=>by rw[h c (by simpa using hc)]
theorem qF {N:Nat} {f g:Nat→Bool} (h: ∀c,c<N→f c=g c):lv N f=lv N g:=List.map_congr_left fun c hc=>by rw[h c (by simpa using hc)]
theorem TT.first {b:Int→Option Blk} {g:TG} {p:Pg} {n m:Nat} {fr:Nat→Bool} (h:PgN p n m) (ht:TT b g (tbA p n m m fr)):TT b g (bZ n m (eQ p n m) (List.range m) (Lp.kH n (eQ p n m)) fr):=by
 have hr:(List.range m).length=m:=by simp
 have hd:=dz0 h
 have hb:lb m (fun q=>(Lp.kH n (eQ p n m)).bs (atR (List.range m) q))=lb m fun q=>n+q:=List.map_congr_left fun q hq=>by
  have hq':q<m:=by simpa using hq
  simp only[dM hq'];rfl
 refine⟨?_,?_,?_,ht.fre,ht.pT,?_,?_,ht.pF,ht.nd⟩
 ·have:=ht.fE.congr (Z':=fun q c=>Lp.zt m (eQ p n m) (Lp.kH n (eQ p n m)) (atR (List.range m) q) c) fun q c hq _=>by
   simp only[tbA] at hq ⊢
   rw[dM hq,zt0 h]
  simp only[bZ]
  rw[hr];exact this
 ·have e:=ht.hd
  simp only[tbA] at e
  simp only[bZ,hd,hr]
  exact e
 ·simp only[bZ];rw[hr,hb];exact ht.ba
 ·simp only[bZ];rw[hr];exact ht.pR
 ·simp only[bZ];rw[hr];exact ht.pB
structure aHQ where
 i:Nat
 g:TG
 b:Int→Option Blk

def pgX (p:Pg) (xC:V):List V:= [.int .i64 p.rows,.int .i64 p.bD,.sl (iv p.a),.sl (iv p.b),xC]
theorem aB0 {blK:Int→Option Blk} (gp:Int) (xC:V) (p:Pg) (n m i:Nat) (h:PgN p n m) (hi:i<m) (hp:blK gp=some ⟨5,[pgX p xC]⟩):RL Tryz.prog blK 204 [.loc gp 5 0 0,.int .i64 i] (.sl (iv (lz n (pA p n i)))):=by
 have hr:=h.row hi
 have hml:=h.ml
 have hnl:=h.nl
 have hal:=h.al
 have hin:i*n≤17*100:=Nat.mul_le_mul (by omega) (by omega)
 have hmn:i*n+n≤m*n:=by
  have:=Nat.mul_le_mul_right n (show i+1≤m by omega)
  rwa [Nat.add_mul,Nat.one_mul] at this
 have e1:(i:Int)*(n:Int)=((i*n:Nat):Int):=(Int.natCast_mul i n).symm
 have e2:((i:Int)+1)*(n:Int)=((i*n+n:Nat):Int):=by rw[Int.add_mul,Int.one_mul,e1];omega
 have w0:IntKind.i64.wrap ((i:Int)+1)=(i:Int)+1:=i64_in (by omega) (by omega)
 have w1:IntKind.i64.wrap ((i:Int)*(n:Int))=(i:Int)*n:=by rw[e1];exact i64_in (by omega) (by omega)
 have w2:IntKind.i64.wrap (((i:Int)+1)*(n:Int))=(i:Int)*n+n:=by rw[e2,i64_in (by omega) (by omega)];simp
 have hc:=h.bD
 have k1:(0:Int)≤(i:Int)*n:=by rw[e1];omega
 have k2:(i:Int)*n≤(i:Int)*n+n:=by omega
 have k3:(i:Int)*n+n≤(p.a.length:Int):=by rw[hal,e1];omega
 have k4:((i:Int)*n).toNat=i*n:=by rw[e1];omega
 have k5:((i:Int)*n+n).toNat=i*n+n:=by rw[e1];omega
 intro bl hs
 have hb:=hs gp _ hp
 refine nE (r:= .sl (iv (lz n (pA p n i)))) (bl2:=bl) ?_ ⟨rfl,rfl⟩
 refine bO Tryz.func204 rfl rfl (by rw[Tryz.ntmps204];simp) ?_
 rw[Tryz.ntmps204,Tryz.results204]
 refine aC ?_
 simp
 refine cQ aM (by kernel_rfl) ?_
 simp[hb,pgX,hc,w0,w1,w2,k1,k2,k3,sliV,k4,k5,hr]
 refine⟨fun x hx=>(U6 _ x hx).symm,?_⟩
 rw[bH]
 exact⟨[.sl (iv (lz n (pA p n i)))],by simp,⟨1,by simp[frz,V.cl]⟩,Sub.refl _⟩
theorem Mr {bl:Int→Option Blk} {K:V→(Int→Option Blk)→Prop} (gp:Int) (xC:V) (p:Pg) (n m:Nat) (h:PgN p n m) (hp:bl gp=some ⟨5,[pgX p xC]⟩)
  (hN: ∀b' t,Lp.pW n m (n+m+1) 1000 (eQ p n m) t→Lp.rc m (Lp.bE n m) t (n+m)≠0→Sub bl b'→K (.tup [.nilp,.bool false]) b')
  (hS: ∀b' g t,Lp.pW n m (n+m+1) 1000 (eQ p n m) t→Lp.rc m (Lp.bE n m) t (n+m)=0→TT b' g (bZ n m (eQ p n m) (Lp.bK n (Lp.kicks n t m) m) (Lp.kicks n t m) (okA n))→(∀x,x∈g.all→bl x=none)→Sub bl b'→K (.tup [.loc g.T 6 0 0,.bool true]) b'):
  bW Tryz.prog 126 [.loc gp 5 0 0] bl K:=by
 have hml:=h.ml
 have hnl:=h.nl
 have wnm:IntKind.i64.wrap ((n:Int)+(m:Int))=((n+m:Nat):Int):=by rw[i64_in (by omega) (by omega)];simp
 have hint: ∀z:Int,z.natAbs≤1000→RO Tryz.prog 160 [.int .i64 z] (.agg (biC z)):=fun z hz=>sE z (by omega)
 refine bO Tryz.func126 rfl rfl (by rw[Tryz.ntmps126];simp) ?_
 rw[Tryz.ntmps126,Tryz.results126]
 refine aC ?_
 simp
 refine cQ aM (by kernel_rfl) ?_
 simp[hp,pgX,h.rows,h.bD]
 rw[wnm]
 obtain⟨N,hN0⟩: ∃N,n+m=N:=⟨_,rfl⟩
 rw[hN0]
 refine aC ?_
 simp
 refine aW aM bl (Sub.refl _) [0,1,2] 4 (by kernel_rfl) ?_
 simp
 refine aO (hint 1 (by decide)) ?_
 simp
 refine Dz 3 ?_
 simp
 refine⟨by omega,by unfold maxLen;omega,fun gF hgF hbF=> ?_⟩
 have sF:Sub bl (upd bl gF (some ⟨1,List.replicate N [.bool false]⟩)):=by simp[hbF]
 refine⟨sF,Dz 4 ?_⟩
 simp
 refine⟨sF,Dz 5 ?_⟩
 simp
 intro gT hgT hTF hbT
 refine⟨by simp[hbF,hbT,hTF],Dz 6 ?_⟩
 simp
 have pT0:gp≠gT:=fun e=>by rw[e,hbT] at hp;cases hp
 have pF0:gp≠gF:=fun e=>by rw[e,hbF] at hp;cases hp
 refine⟨by simp[hbF,hbT,hTF],Dy ?_⟩
 simp[pT0,pF0,hp,pgX,h.rows]
 obtain⟨b0,hb0⟩: ∃b0,b0=upd (upd bl gF (some ⟨1,List.replicate N [.bool false]⟩)) gT (some ⟨6,[[.nils,.bool false,.sl (iv (lim 1)),.nils,.int .i64 N,.lsl gF 1 0 N]]⟩):=⟨_,rfl⟩
 have b0T:b0 gT=some ⟨6,[[.nils,.bool false,.sl (iv (lim 1)),.nils,.int .i64 N,.lsl gF 1 0 N]]⟩:=by rw[hb0];simp[bV]
 have b0F:b0 gF=some ⟨1,lv N fun _=>false⟩:=by rw[hb0];simp[Ne.symm hTF,Pn]
 have s0:Sub bl b0:=by rw[hb0];simp[hbF,hbT,hTF]
 refine cX [(0,.loc gp 5 0 0),(4,.int .i64 N),(5,.loc gT 6 0 0),(34,.int .i64 m),(35,.int .i64 0)] 205 b0 ⟨rfl,by simp[h.rows,h.bD],by rw[hb0];exact sub_eq (by simp[bV])⟩ ?_
 clear hb0
 refine dC (g:=gT) (s:=6) 0 0 1 b0T rfl rfl fun gR hgR hRT=> ?_
 have hgR:b0 gR=none:=hgR
 have hRF:gR≠gF:=fun e=>by rw[e,b0F] at hgR;cases hgR
 have b0R:bl gR=none:=by
  cases hv:bl gR with
  | none => rfl
  | some y => have := s0 gR y hv; rw [hgR] at this; cases this
 refine dC (g:=gT) (s:=6) (els:= [[.lsl gR 1 0 0,.bool false,.sl (iv (lim 1)),.nils,.int .i64 N,.lsl gF 1 0 N]]) 0 3 1 (by simp[Ne.symm hRT]) rfl rfl fun gB hgB hBT=> ?_
 simp[hBT] at hgB
 obtain⟨hBR,hgB⟩:=hgB
 have hBF:gB≠gF:=fun e=>by rw[e,b0F] at hgB;cases hgB
 have b0B:bl gB=none:=by
  cases hv:bl gB with
  | none => rfl
  | some y => have := s0 gB y hv; rw [hgB] at this; cases this
 obtain⟨b1,hb1⟩: ∃b1,b1=upd (upd (upd (upd b0 gT (some ⟨6,[[.lsl gR 1 0 0,.bool false,.sl (iv (lim 1)),.nils,.int .i64 N,.lsl gF 1 0 N]]⟩)) gR (some ⟨1,[]⟩)) gT (some ⟨6,[[.lsl gR 1 0 0,.bool false,.sl (iv (lim 1)),.lsl gB 1 0 0,.int .i64 N,.lsl gF 1 0 N]]⟩)) gB (some ⟨1,[]⟩):=⟨_,rfl⟩
 have t1:TT b1 ⟨gT,gR,gB,gF,[]⟩ (tbA p n m 0 (fun _=>false)):=by
  refine TT.start rfl ?_ ?_ ?_ ?_ hgT hgF ?_
  ·rw[hb1];simp[hRT,Ne.symm hBR]
  ·rw[hb1];simp
  ·rw[hb1];simp[Ne.symm hBT,Ne.symm hRT,tbA,hN0]
  ·rw[hb1];simp[Ne.symm hBF,Ne.symm hRF,Ne.symm hTF,tbA,hN0,b0F]
  ·simp;grind
 refine cX [(0,.loc gp 5 0 0),(4,.int .i64 N),(5,.loc gT 6 0 0),(34,.int .i64 m),(35,.int .i64 0)] 205 b1 ⟨rfl,by simp,by rw[hb1];exact sub_eq (by simp)⟩ ?_
 have s1:Sub bl b1:=by
  intro x y hx
  have:=s0 x y hx
  have x1:x≠gT:=fun e=>by rw[e,hbT] at hx;cases hx
  have x2:x≠gR:=fun e=>by rw[e,b0R] at hx;cases hx
  have x3:x≠gB:=fun e=>by rw[e,b0B] at hx;cases hx
  rw[hb1]
  simp[x1,x2,x3,this]
 clear hb1
 refine aJ (fun q:aHQ=> [(0,.loc gp 5 0 0),(4,.int .i64 N),(5,.loc gT 6 0 0),(34,.int .i64 m),(35,.int .i64 q.i)]) (fun q=>q.b) (fun q=>q.i≤m∧TT q.b q.g (tbA p n m q.i (fun _=>false))∧q.g.T=gT∧q.g.F=gF∧(∀x,x∈q.g.all→bl x=none)∧Sub bl q.b) (fun q=>m - q.i) _ ⟨0,⟨gT,gR,gB,gF,[]⟩,b1⟩ ⟨Nat.zero_le _,t1,rfl,rfl,by simp[TG.all,hbT,b0R,b0B,hbF],s1⟩ ⟨rfl,by simp,Sub.refl _⟩ ?_
 clear s1 t1 hgB hgR s0 b0T b0F
 clear b0R b0B hBT hBF hBR hRT hRF
 rintro⟨i,⟨gT',gR,gB,gF',ids⟩,b⟩ ⟨him,hTb,e1,e2,hal,hsb⟩
 simp only at e1 e2 him hTb hsb
 subst e1 e2
 have bp:=hsb gp _ hp
 have np: ∀x,bl x=none→gp≠x:=fun x hx e=>by rw[e,hx] at hp;cases hp
 have bT:b gT'=_:=hTb.hd
 have bB:b gB=_:=hTb.ba
 have bG:b gR=_:=hTb.fE.top
 have bF:b gF'=_:=hTb.fre
 have hil:=hTb.fE.len
 simp only[tbA] at bT bB bG bF hil
 rw[hN0] at bT bF bG
 have wi:IntKind.i64.wrap ((i:Int)+1)=(i:Int)+1:=i64_in (by omega) (by omega)
 obtain⟨N1,hN1⟩: ∃x,N+1=x:=⟨_,rfl⟩
 rw[hN1] at bG
 have wN:IntKind.i64.wrap ((N:Int)+1)=(N1:Int):=by rw[i64_in (by omega) (by omega)];omega
 refine aE ?_
 simp
 refine aE ?_
 simp
 refine⟨fun hi=> ?_,fun hi=> ?_⟩
 ·refine aN (aT ?_)
  refine aE ?_
  simp
  refine aE ?_
  simp[wN]
  refine⟨by omega,by unfold maxLen;omega,fun gr hgr hbr=> ?_⟩
  refine aIO (g:=gr) (s:=2) (els:=List.replicate N1 [.bool false,.nils]) ?_ ?_
  ·simp
  rw[Uy]
  refine aE ?_
  simp
  have rT: ¬ gr=gT':=fun e=>by rw[e,bT] at hbr;cases hbr
  have rR: ¬ gr=gR:=fun e=>by rw[e,bG] at hbr;cases hbr
  have rB: ¬ gr=gB:=fun e=>by rw[e,bB] at hbr;cases hbr
  have rF: ¬ gr=gF':=fun e=>by rw[e,bF] at hbr;cases hbr
  have ri:gr∉ids:=fun hm2=>by
   obtain⟨q,hq⟩:=List.mem_iff_getElem?.1 hm2
   rw[hTb.fE.row q gr hq] at hbr;cases hbr
  have rbl:bl gr=none:=by
   cases hv:bl gr with
   | none => rfl
   | some y => have := hsb gr y hv; rw [hbr] at this; cases this
  have rp:gp≠gr:=np gr rbl
  refine fZ (fun _:Unit=> [(0,.loc gp 5 0 0),(4,.int .i64 N),(5,.loc gT' 6 0 0),(34,.int .i64 m),(35,.int .i64 i),(6,.int .i64 i),(7,.lsl gr 2 0 N1),(8,.int .i64 (sgB p i))]) (fun _=>upd b gr (some ⟨2,zv N1 fun _=>0⟩)) (fun _=>True) 205 ?_ ?_
  ·refine aC ?_
   simp[rp,bp,pgX,h.b,hi]
   refine⟨fun cL=> ?_,fun cL=> ?_⟩
   ·simp[aH]
    exact⟨rfl,by simp[h.b,sgB,cL],sub_eq (by simp)⟩
   ·simp[aH]
    exact⟨rfl,by simp[h.b,sgB,cL],sub_eq (by simp)⟩
  rintro⟨⟩ -
  obtain⟨sg,hsg⟩: ∃x,sgB p i=x:=⟨_,rfl⟩
  have sg1:sg.natAbs=1:=by rw[←hsg];unfold sgB;split<;>rfl
  rw[hsg]
  have hpA: ∀c,(sg*pA p n i c).natAbs≤1000:=fun c=>by rw[Int.natAbs_mul,sg1,Nat.one_mul];exact iM h.am _
  have hpB:(sg*pB p i).natAbs≤1000:=by rw[Int.natAbs_mul,sg1,Nat.one_mul];exact iM h.bm _
  refine fZ (fun _:Unit=> [(0,.loc gp 5 0 0),(4,.int .i64 N),(5,.loc gT' 6 0 0),(34,.int .i64 m),(35,.int .i64 i),(6,.int .i64 i),(7,.lsl gr 2 0 N1),(8,.int .i64 sg)]) (fun _=>upd b gr (some ⟨2,zv N1 fun c=>if c<n then sg*pA p n i c else 0⟩)) (fun _=>True) 205 ?_ ?_
  ·refine aC ?_
   simp
   refine zX (aB0 (blK:=b) gp xC p n m i h hi bp) (by intro z y hz;rw[aG _ _ _ _ (fun e=>by rw[e,hbr] at hz;cases hz)];exact hz) ?_
   simp
   refine aJ (fun j:Nat=> [(0,.loc gp 5 0 0),(4,.int .i64 N),(5,.loc gT' 6 0 0),(34,.int .i64 m),(35,.int .i64 i),(6,.int .i64 i),(7,.lsl gr 2 0 N1),(8,.int .i64 sg),(51,.sl (iv (lz n (pA p n i)))),(52,.int .i64 n),(53,.int .i64 j)]) (fun j=>upd b gr (some ⟨2,zv N1 fun c=>if c<j then sg*pA p n i c else 0⟩)) (fun j=>j≤n) (fun j=>n - j) _ 0 (Nat.zero_le _) ⟨rfl,by simp,sub_eq (by simp)⟩ ?_
   intro j hj
   have wj:IntKind.i64.wrap ((j:Int)+1)=(j:Int)+1:=i64_in (by omega) (by omega)
   have wa: ∀c,IntKind.i64.wrap (sg*pA p n i c)=sg*pA p n i c:=fun c=>i64_in (by have:=hpA c;omega) (by have:=hpA c;omega)
   refine aC ?_
   simp
   refine⟨fun hjn=> ?_,fun hjn=> ?_⟩
   ·simp[hjn,wa]
    refine aD (hint _ (hpA j)) ?_
    simp[wj,aB,show j<N1 by omega,Nn]
    refine⟨j+1,by omega,by omega,rfl,by simp,?_⟩
    refine sub_eq ?_
    funext x
    simp only[aA]
    split
    ·congr 2
     exact tU fun c hc=>by
      by_cases e:c=j
      ·rw[if_pos e,if_pos (by omega),e]
      ·rw[if_neg e];grind
    ·rfl
   ·rw[show j=n by omega]
    simp[aH]
    exact⟨rfl,by simp,Sub.refl _⟩
  rintro⟨⟩ -
  refine aE ?_
  have wni:IntKind.i64.wrap ((n:Int)+(i:Int))=((n+i:Nat):Int):=by rw[i64_in (by omega) (by omega)];simp
  obtain⟨ni,hni⟩: ∃x,n+i=x:=⟨_,rfl⟩
  rw[hni] at wni
  refine fT aM [0,1,2,3,4,5,6,7,8] 1 9 (by kernel_rfl) ?_
  simp[rp,bp,pgX,h.bD,wni]
  refine aO (hint 1 (by decide)) ?_
  simp[show ni<N1 by omega,show(ni:Int)<N1 by omega]
  refine fU (i:=9) (by kernel_rfl) rfl rfl rfl ?_
  simp[show ni<N1 by omega,Nn]
  refine Dy ?_
  simp
  refine aE ?_
  have wB:IntKind.i64.wrap (sg*pB p i)=sg*pB p i:=i64_in (by omega) (by omega)
  have hNN:N<N1:=by omega
  have aAL:(N:Int)<N1:=by omega
  simp[rp,bp,pgX,h.b,hi,wB]
  refine aD (hint _ hpB) ?_
  simp[hNN,aAL,Nn]
  obtain⟨b2,hb2⟩: ∃b2,b2=upd b gr (some ⟨2,zv N1 (eZ p n m i)⟩):=⟨_,rfl⟩
  refine cX [(0,.loc gp 5 0 0),(4,.int .i64 N),(5,.loc gT' 6 0 0),(34,.int .i64 m),(35,.int .i64 i),(6,.int .i64 i),(7,.lsl gr 2 0 N1)] 205 b2 ⟨rfl,by simp[h.b,h.bD],?_⟩ ?_
  ·rw[hb2]
   refine sub_eq ?_
   funext x
   simp only[aA]
   split
   ·congr 2
    exact tU fun c hc=>by
     unfold eZ
     rw[hN0,hni,hsg]
     grind
   ·rfl
  have b2r:b2 gr=some ⟨2,zv N1 (eZ p n m i)⟩:=by rw[hb2];simp
  have b2x: ∀x,x≠gr→b2 x=b x:=fun x hx=>by rw[hb2,aG _ _ _ _ hx]
  have b2T:=b2x gT' (Ne.symm rT)
  have b2R:=b2x gR (Ne.symm rR)
  have b2B:=b2x gB (Ne.symm rB)
  have b2F:=b2x gF' (Ne.symm rF)
  have b2i: ∀x,x∈ids→b2 x=b x:=fun x hx=>b2x x fun e=>ri (e▸hx)
  rw[bT] at b2T
  rw[bG] at b2R
  rw[bB] at b2B
  rw[bF] at b2F
  clear hb2
  have nds:=hTb.nd
  simp only[List.nodup_cons,List.mem_cons,not_or] at nds
  obtain⟨⟨nTR,nTB,nTF,nTi⟩,⟨nRB,nRF,nRi⟩,⟨nBF,nBi⟩,nFi,Ur⟩:=nds
  have Qw: ∀x,b2 x=none→x≠gT'∧x≠gR∧x≠gB∧x≠gF'∧x≠gr∧x∉ids:=fun x hx=>by
   refine⟨fun e=> ?_,fun e=> ?_,fun e=> ?_,fun e=> ?_,fun e=> ?_,fun e=> ?_⟩
   ·rw[e,b2T] at hx;cases hx
   ·rw[e,b2R] at hx;cases hx
   ·rw[e,b2B] at hx;cases hx
   ·rw[e,b2F] at hx;cases hx
   ·rw[e,b2r] at hx;cases hx
   ·rw[b2i x e] at hx
    obtain⟨q,hq⟩:=List.mem_iff_getElem?.1 e
    rw[hTb.fE.row q x hq] at hx;cases hx
  refine aE ?_
  simp[b2T,b2R,appV,elsV,hil]
  intro g4 hg4 hb4
  obtain⟨n4T,n4R,n4B,n4F,n4r,n4i⟩:=Qw g4 hb4
  have tk:(ids.map fun g=> [V.lsl g 2 0 N1]).take i=ids.map fun g=> [V.lsl g 2 0 N1]:=List.take_of_length_le (by simp[hil])
  simp[Ne.symm n4T,Ne.symm n4R,n4T,n4R,Int.not_lt.2 hg4,b2R,hil,tk]
  refine⟨by omega,fun gN hgN hbN=> ?_⟩
  have nN:gN≠gT'∧gN≠gB∧gN≠gF'∧gN≠gr∧gN∉ids∧gN≠g4:=by
   by_cases e:gN=gR
   ·subst e
    exact⟨Ne.symm nTR,nRB,nRF,Ne.symm rR,nRi,Ne.symm n4R⟩
   ·obtain⟨q1,q2⟩:=hbN e
    obtain⟨w1,w2,w3,w4,w5,w6⟩:=Qw gN q2
    exact⟨w1,w3,w4,w5,w6,q1⟩
  obtain⟨nNT,nNB,nNF,nNr,nNi,nN4⟩:=nN
  simp[Ne.symm nNT,nNT,Ne.symm n4T,nTR,b2T]
  obtain⟨b3,hb3⟩: ∃b3,b3=upd (upd (rem b2 gR) gN (some ⟨1,(ids++ [gr]).map fun g=> [.lsl g 2 0 N1]⟩)) gT' (some ⟨6,[[.lsl gN 1 0 (i+1),.bool false,.sl (iv (lim 1)),.lsl gB 1 0 i,.int .i64 N,.lsl gF' 1 0 N]]⟩):=⟨_,rfl⟩
  refine cX [(0,.loc gp 5 0 0),(4,.int .i64 N),(5,.loc gT' 6 0 0),(34,.int .i64 m),(35,.int .i64 i),(6,.int .i64 i)] 205 b3 ⟨rfl,by simp[h.b,h.bD],?_⟩ ?_
  ·rw[hb3]
   intro z y hz
   simp only[aA,aF] at hz ⊢
   grind
  have b3N:b3 gN=some ⟨1,(ids++ [gr]).map fun g=> [.lsl g 2 0 N1]⟩:=by rw[hb3];simp[nNT]
  have b3T:b3 gT'=some ⟨6,[[.lsl gN 1 0 (i+1),.bool false,.sl (iv (lim 1)),.lsl gB 1 0 i,.int .i64 N,.lsl gF' 1 0 N]]⟩:=by rw[hb3];simp
  have b3x: ∀x,x≠gT'→x≠gN→x≠gR→b3 x=b2 x:=fun x x1 x2 x3=>by rw[hb3,aG _ _ _ _ x1,aG _ _ _ _ x2,aF,if_neg x3]
  have b3B:=b3x gB (Ne.symm nTB) (Ne.symm nNB) (Ne.symm nRB)
  rw[b2B] at b3B
  clear hb3
  have pT:gp≠gT':=np gT' hbT
  have pR0:gp≠gR:=np gR (hal gR (by simp[TG.all]))
  have pB0:gp≠gB:=np gB (hal gB (by simp[TG.all]))
  have pN:gp≠gN:=by
   by_cases e:gN=gR
   ·rw[e];exact pR0
   ·intro e2
    have:=(hbN e).2
    rw[←e2,b2x gp rp,bp] at this;cases this
  have b3p:b3 gp=some ⟨5,[pgX p xC]⟩:=by rw[b3x gp pT pN pR0,b2x gp rp];exact bp
  refine dD aM (rem b3 gB) (cW b3 gB) [0,1,2,3,4,5,6,7,8,9,10] 5 15 (by kernel_rfl) ?_
  simp[nTB,b3T,pB0,b3p,pgX,h.bD,wni]
  refine Dq 11 false ?_
  simp
  intro g5 hg5 hb5
  have n5:g5≠gT'∧g5≠gN∧g5≠gB:=⟨fun e=>(by rw[e,b3T] at hb5;cases hb5),fun e=>(by rw[e,b3N] at hb5;cases hb5),fun e=>(by rw[e,b3B] at hb5;cases hb5)⟩
  obtain⟨n5T,n5N,n5B⟩:=n5
  have r5:rem b3 gB g5=none:=by rw[aF,if_neg n5B];exact hb5
  have Au: ∀X,Sub (rem b3 gB) (upd b3 g5 X):=fun X z y hz=>by
   rw[aF] at hz
   rw[aA]
   grind
  refine⟨Au _,Dq 12 false ?_⟩
  have tkB:(iv (lb i fun q=>n+q)).take i=iv (lb i fun q=>n+q):=List.take_of_length_le (by simp)
  simp[n5B,Ne.symm n5B,appV,elsV,Int.not_lt.2 hg5,b3B,tkB]
  have hlb:iv (lb i fun q=>n+q)++ [[.int .i64 ni]]=iv (lb (i+1) fun q=>n+q):=by rw[P5,aV,hni];rfl
  rw[hlb]
  refine⟨by omega,fun gM hgM hbM=> ?_⟩
  have nM:gM≠gT'∧gM≠gN∧gM≠gF'∧gM≠gr∧gM∉ids∧gM≠g5:=by
   by_cases e:gM=gB
   ·subst e
    exact⟨Ne.symm nTB,Ne.symm nNB,nBF,Ne.symm rB,nBi,Ne.symm n5B⟩
   ·obtain⟨q1,q2⟩:=hbM e
    have q3:gM≠gT':=fun e2=>by rw[e2,b3T] at q2;cases q2
    have q4:gM≠gN:=fun e2=>by rw[e2,b3N] at q2;cases q2
    by_cases e3:gM=gR
    ·subst e3
     exact⟨q3,q4,nRF,Ne.symm rR,nRi,q1⟩
    ·rw[b3x gM q3 q4 e3] at q2
     obtain⟨w1,w2,w3,w4,w5,w6⟩:=Qw gM q2
     exact⟨q3,q4,w4,w5,w6,q1⟩
  obtain⟨nMT,nMN,nMF,nMr,nMi,nM5⟩:=nM
  have lG: ∀X Y,Sub (rem b3 gB) (upd (rem (upd b3 g5 X) gB) gM Y):=fun X Y z y hz=>by
   rw[aF] at hz
   rw[aA,aF,aA]
   grind
  have kJ: ∀X Y Z,Sub (upd (upd (rem b3 gB) gM Y) gT' Z) (upd (upd (rem (upd b3 g5 X) gB) gM Y) gT' Z):=fun X Y Z z y hz=>by
   simp only[aA,aF] at hz ⊢
   grind
  refine⟨lG _ _,Dq 13 false ?_⟩
  simp
  refine⟨lG _ _,Dq 14 false ?_⟩
  simp
  refine⟨lG _ _,Dq 15 true ?_⟩
  simp[Ne.symm nMT,nTB,n5T,Ne.symm n5T,b3T]
  refine Dd ?_
  simp
  refine aC ?_
  simp[wi,aB]
  obtain⟨b4,iG⟩: ∃b4,b4=upd (upd (rem b3 gB) gM (some ⟨1,iv (lb (i+1) fun q=>n+q)⟩)) gT' (some ⟨6,[[.lsl gN 1 0 (i+1),.bool false,.sl (iv (lim 1)),.lsl gM 1 0 (i+1),.int .i64 N,.lsl gF' 1 0 N]]⟩):=⟨_,rfl⟩
  have b4T:b4 gT'=some ⟨6,[[.lsl gN 1 0 (i+1),.bool false,.sl (iv (lim 1)),.lsl gM 1 0 (i+1),.int .i64 N,.lsl gF' 1 0 N]]⟩:=by rw[iG];simp
  have b4M:b4 gM=some ⟨1,iv (lb (i+1) fun q=>n+q)⟩:=by rw[iG];simp[nMT]
  have b4x: ∀x,x≠gT'→x≠gM→x≠gB→b4 x=b3 x:=fun x x1 x2 x3=>by rw[iG,aG _ _ _ _ x1,aG _ _ _ _ x2,aF,if_neg x3]
  have b4o: ∀x,x≠gT'→x≠gM→x≠gB→x≠gN→x≠gR→x≠gr→b4 x=b x:=fun x x1 x2 x3 x4 x5 x6=>by rw[b4x x x1 x2 x3,b3x x x1 x4 x5,b2x x x6]
  have fr: ∀x,b x=none→bl x=none:=fun x hx=>by
   cases hv:bl x with
   | none => rfl
   | some y => have := hsb x y hv; rw [hx] at this; cases this
  have blR:bl gR=none:=hal gR (by simp[TG.all])
  have blB:bl gB=none:=hal gB (by simp[TG.all])
  have blN:bl gN=none:=by
   by_cases e:gN=gR
   ·rw[e];exact blR
   ·have:=(hbN e).2
    rw[b2x gN nNr] at this;exact fr gN this
  have blM:bl gM=none:=by
   by_cases e:gM=gB
   ·rw[e];exact blB
   ·by_cases e3:gM=gR
    ·rw[e3];exact blR
    ·have:=(hbM e).2
     rw[b3x gM nMT nMN e3,b2x gM nMr] at this;exact fr gM this
  have A4:=hTb.snoc (b':=b4) gN gM gr (by simp only[tbA];rw[hN0,hN1,b4x gN nNT (Ne.symm nMN) nNB,b3N]) (by simp only[tbA];exact b4M) (by simp only[tbA];rw[hN0,b4T];rfl)
   (by simp only;exact b4o gF' (Ne.symm nTF) (Ne.symm nMF) (Ne.symm nBF) (Ne.symm nNF) (Ne.symm nRF) (Ne.symm rF))
   (fun x hx=>by simp only at hx;exact b4o x (fun e=>nTi (e▸hx)) (fun e=>nMi (e▸hx)) (fun e=>nBi (e▸hx)) (fun e=>nNi (e▸hx)) (fun e=>nRi (e▸hx)) (fun e=>ri (e▸hx)))
   (by simp only[tbA];rw[hN0,hN1,b4x gr rT (Ne.symm nMr) rB,b3x gr rT (Ne.symm nNr) rR,b2r]) hgr hgN hgM (by
     simp only[List.nodup_cons,List.mem_cons,not_or,List.mem_append,List.mem_singleton,List.nodup_append,List.not_mem_nil,or_false]
     refine⟨⟨Ne.symm nNT,Ne.symm nMT,nTF,nTi,Ne.symm rT⟩,⟨Ne.symm nMN,nNF,nNi,nNr⟩,⟨nMF,nMi,nMr⟩,⟨nFi,Ne.symm rF⟩,Ur,by simp,fun a ha c hc=> ?_⟩
     rw[hc];exact fun e=>ri (e▸ha))
  refine⟨⟨i+1,⟨gT',gN,gM,gF',ids++ [gr]⟩,b4⟩,⟨by simp only;omega,A4,rfl,rfl,fun x hx=> ?_,fun x y hx=> ?_⟩,by simp only;omega,rfl,by simp[h.bD,h.b],by rw[iG];exact kJ _ _ _⟩
  ·simp only[TG.all,List.mem_cons,List.mem_append,List.not_mem_nil,or_false] at hx
   rcases hx with rfl | rfl | rfl | rfl | hx | rfl
   ·exact hbT
   ·exact blN
   ·exact blM
   ·exact hbF
   ·exact hal x (by simp[TG.all,hx])
   ·exact rbl
  ·have nx: ∀z,bl z=none→x≠z:=fun z hz e=>by rw[e,hz] at hx;cases hx
   simp only
   rw[b4o x (nx _ hbT) (nx _ blM) (nx _ blB) (nx _ blN) (nx _ blR) (nx _ rbl)]
   exact hsb x y hx
 ·have hie:i=m:=by omega
  subst hie
  clear hi him
  refine⟨by omega,by unfold maxLen;omega,fun gO hgO hbO=> ?_⟩
  have oT: ¬ gO=gT':=fun e=>by rw[e,bT] at hbO;cases hbO
  have oR: ¬ gO=gR:=fun e=>by rw[e,bG] at hbO;cases hbO
  have oB: ¬ gO=gB:=fun e=>by rw[e,bB] at hbO;cases hbO
  have oF: ¬ gO=gF':=fun e=>by rw[e,bF] at hbO;cases hbO
  have oi:gO∉ids:=fun hm2=>by
   obtain⟨q,hq⟩:=List.mem_iff_getElem?.1 hm2
   rw[hTb.fE.row q gO hq] at hbO;cases hbO
  have pF:gp≠gF':=np gF' hbF
  have pO:gp≠gO:=fun e=>by rw[←e,bp] at hbO;cases hbO
  have nds:=hTb.nd
  simp only[List.nodup_cons,List.mem_cons,not_or] at nds
  obtain⟨⟨nTR,nTB,nTF,nTi⟩,⟨nRB,nRF,nRi⟩,⟨nBF,nBi⟩,nFi,Ur⟩:=nds
  refine aJ (fun k:Nat=> [(0,.loc gp 5 0 0),(4,.int .i64 N),(5,.loc gT' 6 0 0),(11,.lsl gO 1 0 N),(117,.int .i64 N),(118,.int .i64 k)]) (fun k=>upd (upd b gF' (some ⟨1,lv N fun c=>decide (c<k∧c<n)⟩)) gO (some ⟨1,iv (lz N fun c=>if c<k then oA n i c else 0)⟩)) (fun k=>k≤N) (fun k=>N - k) _ 0 (Nat.zero_le _) ⟨rfl,by simp[h.b,h.bD],?_⟩ ?_
  ·refine sub_eq ?_
   funext x
   simp only[aA]
   rw[Cf]
   split
   ·simp
   ·split
    ·rename_i e;rw[e,bF];simp
    ·rfl
  intro k hk
  have wk:IntKind.i64.wrap ((k:Int)+1)=(k:Int)+1:=i64_in (by omega) (by omega)
  refine aE ?_
  simp
  refine aE ?_
  simp
  refine⟨fun hkn=> ?_,fun hkn=> ?_⟩
  ·refine aN (aT ?_)
   refine aE ?_
   simp
   refine aN ?_
   refine fT aM [0,1,2,3,4,5,6,7,8,9,10,11] 1 12 (by kernel_rfl) ?_
   have nOT:=Ne.symm oT
   simp[pF,pO,bp,pgX,h.bD,bT,nOT,nTF,hkn]
   refine fU (i:=12) (by kernel_rfl) rfl rfl rfl ?_
   simp[Ne.symm oF,hkn,Di, -Bool.decide_and]
   refine Dy ?_
   simp
   refine aC ?_
   simp[pF,pO,bp,pgX,h.bD,oF,hkn,wk,aB,Od]
   refine⟨fun hnk=> ?_,fun hnk=> ?_⟩
   ·refine aC ?_
    simp[wk,aB]
    refine⟨k+1,by omega,by omega,rfl,by simp[h.bD],sub_eq ?_⟩
    have e1:(lv N fun c=>decide (c<k+1)&& decide (c<n))=lv N fun c=>if c=k then decide (k<n) else decide (c<k)&& decide (c<n):=qF fun c _=>by
     by_cases e:c=k
     ·subst e;simp
     ·rw[if_neg e,show decide (c<k+1)=decide (c<k) from by simp;omega]
    have e2:(lz N fun c=>if c<k+1 then oA n i c else 0)=lz N fun c=>if c=k then -1 else if c<k then oA n i c else 0:=C9 fun c hc=>by
     by_cases e:c=k
     ·subst e;rw[if_pos (by omega),if_pos rfl];unfold oA;rw[if_pos ⟨hnk,by omega⟩]
     ·rw[if_neg e];grind
    funext x
    simp only[aA]
    rw[e1,e2]
    grind
   ·refine aC ?_
    simp[wk,aB]
    refine⟨k+1,by omega,by omega,rfl,by simp[h.bD],sub_eq ?_⟩
    have e1:(lv N fun c=>decide (c<k+1)&& decide (c<n))=lv N fun c=>if c=k then decide (k<n) else decide (c<k)&& decide (c<n):=qF fun c _=>by
     by_cases e:c=k
     ·subst e;simp
     ·rw[if_neg e,show decide (c<k+1)=decide (c<k) from by simp;omega]
    have e2:(lz N fun c=>if c<k+1 then oA n i c else 0)=lz N fun c=>if c<k then oA n i c else 0:=C9 fun c hc=>by
     by_cases e:c=k
     ·subst e;rw[if_pos (by omega),if_neg (by omega)];unfold oA;rw[if_neg (by omega)]
     ·grind
    funext x
    simp only[aA]
    rw[e1,e2]
    grind
  ·have hke:k=N:=by omega
   subst hke
   clear hkn hk
   obtain⟨bM,hbM⟩: ∃bM,bM=upd (upd b gF' (some ⟨1,lv k fun c=>decide (c<k)&& decide (c<n)⟩)) gO (some ⟨1,iv (lz k fun c=>if c<k then oA n i c else 0)⟩):=⟨_,rfl⟩
   rw[←hbM]
   have bMF:bM gF'=some ⟨1,lv k (okA n)⟩:=by
    rw[hbM]
    simp[Ne.symm oF]
    exact qF fun c hc=>by unfold okA;simp[hc]
   have bMO:bM gO=some ⟨1,iv (lz k (oA n i))⟩:=by
    rw[hbM]
    simp
    rw[C9 fun c hc=>by rw[if_pos hc]]
   have bMx: ∀x,x≠gF'→x≠gO→bM x=b x:=fun x x1 x2=>by rw[hbM,aG _ _ _ _ x2,aG _ _ _ _ x1]
   clear hbM
   have hTM:=(hTb.aKP (b':=bM) (okA n) (by simp only[tbA];rw[hN0];exact bMF) (fun x y hx hx2 hy=>by
    rw[bMx x hx2 fun e=> ?_];exact hy
    have:=hal x hx
    rw[e] at hy;rw[hbO] at hy;cases hy)).first h
   obtain⟨e,h1,h2,h3,h4⟩:=Lp.sJ (F:=fO (n+i) (okA n)) (N':=n+i) h.init (fun c hc=>hc.1) (Nat.le_refl _) (fun c hc=>⟨by omega,by omega,by unfold okA;simpa using hc⟩)
   rw[←Rd] at h1 h2 h3
   have hnx:Lp.nx (n+i) (n+i) (List.range i) (Lp.okW i (wO (oA n i)) (fO (n+i) (okA n))) (Lp.orb (Lp.nx (n+i) (n+i) (List.range i) (Lp.okW i (wO (oA n i)) (fO (n+i) (okA n)))) (Lp.kH n (eQ p n i)) e)=none:=by
    unfold Lp.nx at h1 ⊢
    rw[h1]
   have hoA: ∀c,(oA n i c).natAbs≤1000:=fun c=>by unfold oA;split<;>decide
   have X2:=fun K'=>wP (bl:=bM) (K:=K') n i (eQ p n i) (List.range i) ⟨gT',gR,gB,gF',ids⟩ (Lp.kH n (eQ p n i)) (okA n) (oA n i) gO e hml hnl (lQ i) hoA (.inl fun q hq=>by simpa using hq) hnx h2 h3 hTM (by rw[hN0];exact bMO) hgO (by simp[TG.all,oT,oR,oB,oF,oi])
   rw[Rd] at h1
   simp only[Rd] at X2
   obtain⟨t,ht⟩: ∃t,Lp.orb (Lp.nx (n+i) (n+i) (List.range i) (Lp.okW i (Lp.bE n i) (fO (n+i) (okA n)))) (Lp.kH n (eQ p n i)) e=t:=⟨_,rfl⟩
   rw[ht] at h1 h4
   simp only[ht] at X2
   simp only[hN0] at X2
   rw[hN0] at h1
   refine X2 _ (fun b' _ hT2 hx2=> ?_) (fun b' k' hk'=>absurd hk' (by rw[h1];simp))
   clear X2
   generalize frK i (oA n i) t (okA n) k=fr at hT2
   simp
   have aAL:k<N1:=by omega
   have aNB:(k:Int)<N1:=by omega
   have cT:b' gT'=_:=hT2.hd
   have cB:b' gB=_:=hT2.ba
   have cG:b' gR=_:=hT2.fE.top
   have cF:b' gF'=_:=hT2.fre
   have hrl:(List.range i).length=i:=by simp
   simp only[bZ,hrl,hN0,hN1] at cT cB cG cF
   have cB2:lb i (fun q=>t.bs (atR (List.range i) q))=lb i t.bs:=List.map_congr_left fun q hq=>by
    have hq':q<i:=by simpa using hq
    simp only[dM hq']
   rw[cB2] at cB
   simp[cT]
   have cS:Sub bl b':=fun x y hx=>by
    have h9:=hsb x y hx
    have x1:x∉TG.all ⟨gT',gR,gB,gF',ids⟩:=fun hm2=>by have:=hal x hm2;rw[this] at hx;cases hx
    have x2:x≠gF':=fun e=>x1 (by rw[e];simp[TG.all])
    have x3:x≠gO:=fun e=>by rw[e,hbO] at h9;cases h9
    exact hx2 x y (by rw[bMx x x2 x3];exact h9) x1
   have cp:=cS gp _ hp
   refine aJ (fun j:Nat=> [(0,.loc gp 5 0 0),(4,.int .i64 k),(5,.loc gT' 6 0 0),(149,.lsl gB 1 0 i),(150,.int .i64 i),(151,.int .i64 j)]) (fun _=>b') (fun j=>j≤i∧ ∀q,q<j→ ¬ (n≤t.bs q∧0<t.X q (n+i))) (fun j=>i - j) _ 0 ⟨Nat.zero_le _,fun q hq=>by omega⟩ ⟨rfl,by simp[h.b,h.bD],Sub.refl _⟩ ?_
   rintro j ⟨hj,cD⟩
   have wj:IntKind.i64.wrap ((j:Int)+1)=(j:Int)+1:=i64_in (by omega) (by omega)
   refine aE ?_
   simp
   refine aE ?_
   simp
   refine⟨fun hji=> ?_,fun hji=> ?_⟩
   ·refine aN (aT ?_)
    refine aE ?_
    simp[cB,hji]
    obtain⟨gi,hgi,xK,xS,mP⟩:=hT2.fE.at j (by simp only[bZ,hrl];exact hji)
    simp only[bZ] at mP
    rw[hN0,hN1,dM hji] at mP
    obtain⟨zx,hzx⟩: ∃zx,Lp.zt i (eQ p n i) t j k=zx:=⟨_,rfl⟩
    refine aE ?_
    simp
    refine bQ [(0,.loc gp 5 0 0),(4,.int .i64 k),(5,.loc gT' 6 0 0),(149,.lsl gB 1 0 i),(150,.int .i64 i),(151,.int .i64 j),(13,.int .i64 j),(14,.int .i64 (t.bs j))] _ b' 175 (.bool (decide (n≤t.bs j∧0<zx))) ⟨rfl,by simp[h.b,h.bD],Sub.refl _⟩ rfl ?_ ?_
    ·simp[cp,pgX,h.bD]
     by_cases hnb:n≤t.bs j
     ·have hgj: ∀h,ids[j]'h=gi:=fun h=>by rw[List.getElem?_eq_getElem h] at hgi;exact Option.some.inj hgi
      simp[hnb,Nat.not_lt.2 hnb,cT,cG,hji,hgj,mP,aAL,aNB,hil]
      refine aD (lZ _) ?_
      rw[hzx]
      have hsp:0<zx.sign ↔ 0<zx:=by
       rcases Int.lt_trichotomy zx 0 with q | q | q
       ·rw[Int.sign_eq_neg_one_of_neg q];omega
       ·rw[q];decide
       ·rw[Int.sign_eq_one_of_pos q];omega
      simp[hsp]
     ·simp[hnb]
    have hzs:=Lp.qN h4.inv.z hji (show n+i<n+i+1 by omega)
    rw[hN0,hzx] at hzs
    have hzero:Lp.rc i (Lp.bE n i) t (n+i)=0→t.bs j<n∨t.X j (n+i)=0:=fun h0=>by
     rcases Nat.lt_or_ge (t.bs j) n with g | g
     ·exact .inl g
     ·exact .inr (h4.zero h0 j hji (by omega))
    refine aC ?_
    simp
    refine⟨fun c1 c2=> ?_,fun hno=> ?_⟩
    ·rw[bH]
     refine⟨[.nilp,.bool false],by simp,hN b' t h4 (fun h0=> ?_) cS⟩
     have:=hzs.1.1 c2
     rw[←hN0] at this
     rcases hzero h0 with g | g
     ·omega
     ·rw[g] at this;exact absurd this (by decide)
    ·refine aC ?_
     simp[wj,aB]
     refine⟨j+1,⟨by omega,fun q hq c1 c2=> ?_⟩,by omega,rfl,by simp[h.bD,h.b],Sub.refl _⟩
     by_cases e:q=j
     ·subst e
      rw[hN0] at c2
      have g1:=hno c1
      have g2:=hzs.1.2 c2
      omega
     ·exact cD q (by omega) ⟨c1,c2⟩
   ·have hje:j=i:=by omega
    subst hje
    have hp0:Lp.rc j (Lp.bE n j) t (n+j)=0:=by
     rw[Lp.vA rfl]
     refine Lp.jD fun q hq=> ?_
     split
     ·rename_i hb
      have h8:=h4.inv.nn q hq
      have h9: ¬ 0<t.X q (n+j):=fun g=>cD q hq ⟨hb.1,g⟩
      grind
     ·rfl
    simp[cT]
    refine aJ (fun c:Nat=> [(0,.loc gp 5 0 0),(4,.int .i64 k),(5,.loc gT' 6 0 0),(181,.int .i64 k),(182,.int .i64 c)]) (fun c=>upd b' gF' (some ⟨1,lv k fun x=>if x<c then okA n x else fr x⟩)) (fun c=>c≤k) (fun c=>k - c) _ 0 (Nat.zero_le _) ⟨rfl,by simp[h.b,h.bD],?_⟩ ?_
    ·refine sub_eq ?_
     funext x
     simp only[aA]
     split
     ·rename_i e;rw[e,cF];simp
     ·rfl
    intro c hc
    have wc:IntKind.i64.wrap ((c:Int)+1)=(c:Int)+1:=i64_in (by omega) (by omega)
    refine aE ?_
    simp
    refine aE ?_
    simp
    refine⟨fun hck=> ?_,fun hck=> ?_⟩
    ·refine aN (aT ?_)
     refine aE ?_
     simp
     refine fT aM [0,1,2,3,4,5,6,7,8,9,10,11] 1 12 (by kernel_rfl) ?_
     simp[pF,cp,pgX,h.bD,cT,nTF,hck]
     refine fU (i:=12) (by kernel_rfl) rfl rfl rfl ?_
     simp[hck,Di]
     refine Dy ?_
     simp
     refine aC ?_
     simp[wc,aB]
     refine⟨c+1,by omega,by omega,rfl,by simp[h.bD],sub_eq ?_⟩
     funext x
     simp only[aA]
     split
     ·congr 2
      exact qF fun y hy=>by
       by_cases e:y=c
       ·subst e;simp[okA]
       ·rw[if_neg e];grind
     ·rfl
    ·have hce:c=k:=by omega
     subst hce
     obtain⟨bL,hbL⟩: ∃bL,bL=upd b' gF' (some ⟨1,lv c fun x=>if x<c then okA n x else fr x⟩):=⟨_,rfl⟩
     rw[←hbL]
     have bLF:bL gF'=some ⟨1,lv c (okA n)⟩:=by rw[hbL,aY,qF fun x hx=>by rw[if_pos hx]]
     have bLx: ∀x,x≠gF'→bL x=b' x:=fun x x1=>by rw[hbL,aG _ _ _ _ x1]
     clear hbL
     have hTL:=hT2.aKP (b':=bL) (okA n) (by simp only[bZ];rw[hN0];exact bLF) (fun x y hx hx2 hy=>by rw[bLx x hx2];exact hy)
     have bLp:bL gp=some ⟨5,[pgX p xC]⟩:=by rw[bLx gp pF];exact cp
     simp[pF,cp,bLp,pgX,h.bD]
     refine Rv n j (eQ p n j) ⟨gT',gR,gB,gF',ids⟩ t (okA n) hml hnl (h4.kN hp0) hTL fun b5 g5 e1 e2 hT5 aR9 hb5=> ?_
     simp
     rw[bH]
     have n5: ∀x y,bl x=some y→x∉TG.all ⟨gT',gR,gB,gF',ids⟩:=fun x y hx hm2=>by have:=hal x hm2;rw[this] at hx;cases hx
     refine⟨[.loc g5.T 6 0 0,.bool true],by simp[e1],hS b5 g5 t h4 hp0 hT5 (fun x hx=> ?_) fun x y hx=> ?_⟩
     ·rcases aR9 x hx with g1 | g1
      ·exact hal x g1
      ·cases hv:bl x with
       | none => rfl
       | some y =>
         have g2:=n5 x y hv
         rw[bLx x fun e=>g2 (by rw[e];simp[TG.all]),cS x y hv] at g1
         cases g1
     ·have g2:=n5 x y hx
      exact hb5 x y (by rw[bLx x fun e=>g2 (by rw[e];simp[TG.all])];exact cS x y hx) g2

section
variable {P : Program}
theorem Mem.see {w0:World} {M F:Nat→Prop} {bl:Int→Option Blk} {w:World} (hm:Mem w0 M F bl w) {g:Int} {b b':Blk} (hb:bl g=some b) (hB:cY F w g b'):Mem w0 M F (upd bl g (some b')) w:=by
 refine⟨hm.os,hm.tape,hm.output,hm.size,hm.frame,hm.jA,hm.fr,?_,fun x c hx h0=> ?_,fun x c hx=> ?_⟩
 ·obtain⟨n,hn⟩:=hm.fin
  refine⟨n,fun x hx=> ?_⟩
  have:=hn x hx
  by_cases hxg:x=g
  ·subst hxg;rw[hb] at this;cases this
  ·rw[aG _ _ _ _ hxg];exact this
 ·by_cases hxg:x=g
  ·subst hxg;exact hm.own x _ hb h0
  ·rw[aG _ _ _ _ hxg] at hx
   exact hm.own x c hx h0
 ·by_cases hxg:x=g
  ·subst hxg
   rw[aY] at hx
   cases hx;exact hB
  ·rw[aG _ _ _ _ hxg] at hx
   exact hm.blk x c hx
def uns (cs:List V):List (List V):=cs.map fun x=> [x]
theorem W7 {F:Nat→Prop} {w:World} {g:Int} {cs:List V} (h0:0≤g):cY F w g ⟨1,uns cs⟩ ↔ cY F w g ⟨cs.length,[cs]⟩:=by
 unfold cY uns
 rw[if_neg (by omega),if_neg (by omega)]
 constructor
 ·rintro⟨h1,c,t,h2,h3,h4⟩
  refine⟨h1,c,t,h2,by simpa using h3,fun k e he=> ?_⟩
  have hk:k=0:=by
   have:=(List.getElem?_eq_some_iff.1 he).1
   simpa using this
  subst hk
  cases he
  refine⟨rfl,fun j x hx=> ?_⟩
  obtain⟨-,h5⟩:=h4 j [x] (by simp[hx])
  obtain⟨h6,v,h7,h8⟩:=h5 0 x rfl
  exact⟨h6,v,by simpa using h7,h8⟩
 ·rintro⟨h1,c,t,h2,h3,h4⟩
  refine⟨h1,c,t,h2,by simpa using h3,fun k e he=> ?_⟩
  simp only[List.getElem?_map] at he
  cases hk:cs[k]? with
  | none => rw [hk] at he; cases he
  | some y =>
    rw[hk] at he;cases he
    refine⟨rfl,fun j x hx=> ?_⟩
    have hj:j=0:=by
     have:=(List.getElem?_eq_some_iff.1 hx).1
     simpa using this
    subst hj
    cases hx
    obtain⟨-,h5⟩:=h4 0 cs rfl
    obtain⟨h6,v,h7,h8⟩:=h5 k y hk
    exact⟨h6,v,by simpa using h7,h8⟩
def TS (P:Program) (o:Oper) (K:St→Prop) (σ:St):Prop:= ∀(w0:World) (M F:Nat→Prop) (a:Act) (w:World) (Q:Exit→Act→World→Prop),Sim w0 M F σ a w→o.wp P a w (Nx w0 M F K) Q
theorem Qr {ops:Array Oper} {Q:Exit→Act→World→Prop} {F0:Nat→Prop} {w0:World} {M:Nat→Prop} {K:St→Prop} {r:List Oper} (hQ: ∀σ F a w,(∀b,F0 b→F b)→Sim w0 M F σ a w→K σ→wpList P ops Q r a w) (l:List Oper):
  ∀(σ:St) (F:Nat→Prop) (a:Act) (w:World),(∀b,F0 b→F b)→Ops P (ops.toList.map (·.dst)) l K σ→Sim w0 M F σ a w→wpList P ops Q (l++r) a w:=by
 induction l with
 | nil => intro σ F a w hF h hs; exact hQ σ F a w hF hs h
 | cons o rest ih =>
   intro σ F a w hF h hs
   have next:T P o (Ops P (ops.toList.map (·.dst)) rest K) σ→o.wp P a w (wpList P ops Q (rest++r)) Q:=fun hT=>
    Oper.wp_mono (fun a' w' hn=>by
     obtain⟨σ',F',hF',hs',hK⟩:=hn
     exact ih σ' F' a' w' (fun b hb=>hF' b (hF b hb)) hK hs') (O5 hT hs)
   unfold Ops at h
   rw[List.cons_append]
   unfold wpList
   split at h
   ·rename_i hg
    rw[if_pos (by simp[Region.wanted,hg])]
    exact .inl (next h)
   ·rename_i j b hg
    split at h
    ·rename_i d hd
     rcases iJ h with ⟨q,hq,h1,h2⟩| ⟨hq,h1⟩
     rotate_left
     ·rw[if_neg (by simp[Region.wanted,hg,nS hd hs hq])]
      exact ih _ F _ w hF h1 (hs.put mY)
     have hy:=B5 hd hs hq
     by_cases hqb:q=b
     ·rw[if_pos (by simp[Region.wanted,hg,hy,hqb])]
      have h1':=h1 hqb
      subst hqb
      rw[mX hq] at h1'
      exact .inl (next h1')
     ·rw[if_neg (by simp[Region.wanted,hg,hy,hqb])]
      have Ej:q= !b:=by cases q<;>cases b<;>simp_all
      have h2':=h2 Ej
      rw[←Ej,mX hq] at h2'
      exact ih _ F _ w hF h2' (hs.put mY)
    ·exact h.elim
theorem Gs {id:Nat} {ops:Array Oper} {K:Ex→St→Prop} {σ:St} (o:Oper) (ho:ops.toList.getLast? =some o) (hg:o.guard=none) (h:OpsF P (ops.toList.map (·.dst)) ops.toList.dropLast (TS P o (K .normal)) σ):AW P (.region id ops false) K σ:=by
 intro w0 M F a w hs
 refine wp_region_list ?_
 have e:ops.toList=ops.toList.dropLast++ [o]:=by
  obtain⟨hne,hl⟩:=List.getLast?_eq_some_iff.1 ho
  rw[hl];simp
 have hgo:=Qr (P:=P) (ops:=ops) (Q:=S9 w0 M F K) (F0:=F) (w0:=w0) (M:=M) (r:= [o]) (K:=TS P o (K .normal)) (fun σ' F' a' w' hF' hs' hK=>by
  unfold wpList
  rw[if_pos (by simp[Region.wanted,hg])]
  refine .inl (Oper.wp_mono (fun a2 w2 hn=> ?_) (hK w0 M F' a' w' _ hs'))
  obtain⟨σ2,F2,h1,h2,h3⟩:=hn
  exact⟨.normal,σ2,F2,rfl,fun b hb=>h1 b (hF' b hb),h2,h3⟩) ops.toList.dropLast σ F a w (fun _ h=>h) (vU h) hs
 rw[←e] at hgo
 exact hgo
theorem J7 : ∀(cs l:List V) (o:Nat),o+cs.length≤l.length→splice l o cs=l.take o++(cs++l.drop (o+cs.length))
 | [], l, o, h => by simp [splice]
 | c :: cs, l, o, h => by
   rw[splice,J7 cs (l.set o c) (o+1) (by simp at h ⊢;omega)]
   simp only[List.length_cons] at h
   rw[List.take_succ_eq_append_getElem (by simp;omega),List.getElem_set_self,List.take_set_of_le (Nat.le_refl _),List.drop_set_of_lt (by omega)]
   simp[Nat.add_assoc,Nat.add_comm 1]
theorem Gm {α β:Type} [DecidableEq α] (f:α→β) (a:α) (b c:β):upd (upd f a b) a c=upd f a c:=by
 funext x
 simp only[aA]
 split<;>rfl
theorem Mem.Qp {w0:World} {M F:Nat→Prop} {bl:Int→Option Blk} {w:World} (hm:Mem w0 M F bl w) {g:Int} {cs ys:List V} (h0:0≤g) (hb:bl g=some ⟨1,uns cs⟩) (hle:ys.length≤cs.length) (fK: ∀x,x∈ys→x.one=true)
  {vs:List Value} (hvl:vs.length=ys.length) (hvr: ∀(i:Nat) (x:V),ys[i]? =some x→ ∃v,vs[i]? =some v∧Rep F w x v) (hvo: ∀v,v∈vs→v.oneCell'=true):
  ∃w',(storeCells ⟨g.toNat,0,none⟩ vs).run P w= .ok () w'∧Mem w0 M F (upd bl g (some ⟨1,uns (ys++cs.drop ys.length)⟩)) w'∧(∀k,F k→w'.heap[k]? =w.heap[k]?)∧eY w w':=by
 have m1:=hm.see hb ((W7 h0).1 (hm.blk g _ hb))
 obtain⟨w',h1,h2,h3,h4⟩:=m1.store (P:=P) (g:=g) (b:=⟨cs.length,[cs]⟩) (k:=0) (j:=0) (e:=cs) (cs:=ys) (aY _ _ _) rfl (by simpa using hle) fK hvl hvr hvo
 have hsp:splice cs 0 ys=ys++cs.drop ys.length:=by rw[J7 ys cs 0 (by omega)];simp
 have hl:(ys++cs.drop ys.length).length=cs.length:=by simp;omega
 rw[Gm] at h2
 simp only[List.set_cons_zero,hsp] at h2
 have m2:=h2.see (aY _ _ _) ((W7 (cs:=ys++cs.drop ys.length) h0).2 (by rw[hl];exact h2.blk g _ (aY _ _ _)))
 rw[Gm] at m2
 exact⟨w',by simpa using h1,m2,h3,h4⟩
theorem Iz {e:TypeId} {u:V} (h:zeroC P e=some [u]): ∃i z v,P.info? e=some i∧i.zero=some z∧z.cells= #[v]∧ofCell v=u∧u.one=true:=by
 obtain⟨i,z,h1,h2,h3,h4,h5⟩:=jR h
 have hl:z.cells.toList.length=1:=by
  have:=congrArg List.length h3
  simpa using this.symm
 obtain⟨v,hv⟩:=List.length_eq_one_iff.1 hl
 rw[hv] at h3
 refine⟨i,z,v,h1,h2,?_,?_,by simpa using h4⟩
 ·rw[←Array.toArray_toList (xs:=z.cells),hv]
 ·simpa using h3.symm
theorem Nb {d:Option Nat} {ty:TypeId} {pos:String} {af:Array Edge} {gd:Option (Nat×Bool)} {K:St→Prop} {σ:St} {x:Operand} {t e:TypeId} {g:Int} {n:Nat} {cs:List V} {u:V} (hx:σ.ev x= .lsl g 1 0 n)
  (h0:0≤g) (hb:σ.bl g=some ⟨1,uns cs⟩) (hcn:cs.length=n) (he:slE P t=some e) (hz:zeroC P e=some [u])
  (hK:K (({ σ with bl:=upd σ.bl g (some ⟨1,uns (List.replicate n u)⟩) } :St).put d (.tup []))):
  TS P ⟨d,.call { callee:= .builtin .clear,args:= #[x],argTypes:= #[t] },ty,pos,af,gd⟩ K σ:=by
 intro w0 M F a w Q hs
 obtain⟨i,z,v,hi,hzz,hzc,hvu,hu1⟩:=Iz hz
 have hxr:=hs.ev x
 rw[hx] at hxr
 rcases S0 hxr with ⟨cL, -⟩| ⟨hg,cap,hlc,jT,hav, -⟩
 ·omega
 have hru:Rep F w u v:=by rw[←hvu];exact oE F w v
 obtain⟨w',h1,h2,h3,h4⟩:=hs.mem.Qp (P:=P) (ys:=List.replicate n u) (vs:=List.replicate n v) h0 hb (by simp;omega) (fun z hz=>by rw[(List.mem_replicate.1 hz).2];exact hu1) (by simp) (fun i y hy=>by
  have hin:i<n:=by have:=(List.getElem?_eq_some_iff.1 hy).1;simpa using this
  rw[List.getElem?_replicate,if_pos hin] at hy
  cases hy
  exact⟨v,by rw[List.getElem?_replicate,if_pos hin],hru⟩) (fun y hy=>by rw[(List.mem_replicate.1 hy).2];exact hru.one hu1)
 have hd:List.replicate n u++cs.drop (List.replicate n u).length=List.replicate n u:=by simp[hcn]
 rw[hd] at h2
 have hs':Sim w0 M F ({ σ with bl:=upd σ.bl g (some ⟨1,uns (List.replicate n u)⟩) } :St) a w':=⟨h2,hs.size,fun t ht=>(hs.sl t ht).mono (fun _ h=>h) h3 h4,hs.defers⟩
 refine bN (v:= .tuple #[]) (w':=w') ?_ ⟨_,F,fun _ h=>h,hs'.put (.tup _ _ rfl (by simp)),hK⟩
 have hzl:(Builtin.zeroCells z.cells n).toList=List.replicate n v:=by
  rw[hzc]
  apply List.ext_getElem
  ·simp[Builtin.zeroCells]
  ·intro j h1 h2
   simp[Builtin.zeroCells,Nat.mod_one]
 have hzv:(zeroValue e).run P w= .ok z w:=by simp[zeroValue,typeInfo,hi,hzz]
 cases n with
 | zero =>
   have hw:w'=w:=by simpa [storeCells] using h1.symm
   subst hw
   simp only[execOp,resolve,Sem.run_bind,Sem.run_pure,Result.andThen_ok,invoke,builtin,List.map_toArray,List.map_cons,List.map_nil,Builtin.clear_,List.getElem?_toArray,List.getElem?_cons_zero,run_underlying (cN he),hav]
 | succ n =>
   simp only[execOp,resolve,Sem.run_bind,Sem.run_pure,Result.andThen_ok,invoke,builtin,List.map_toArray,List.map_cons,List.map_nil,Builtin.clear_,List.getElem?_toArray,List.getElem?_cons_zero,run_underlying (cN he),hav,hzv,hzl]
   rw[Nat.zero_mul,h1];rfl
end
end Go.Proofs.YticmgmemnpcbbaaGreat.Vm

namespace Go.Proofs.YticmgmemnpcbbaaGreat.Lp
set_option linter.unusedSimpArgs false
set_option linter.unusedVariables false
theorem tP {m:Nat} {t:Tab} {C:Nat→Rat} {j:Nat} (hj: ∀i,i<m→t.bs i≠j):rc m (wl C (j+1)) t j= -1:=by
 unfold rc wl
 simp only
 rw[if_pos trivial,jD]
 ·grind
 ·intro i hi;rw[if_neg (hj i hi)];grind
theorem O6 {m:Nat} {t:Tab} {C:Nat→Rat} {j k:Nat} (hjk:j≠k) (hk: ∀i,i<m→t.bs i≠k):rc m (wl C (k+1)) t j=0:=by
 unfold rc wl
 simp only
 rw[if_neg hjk,jD]
 ·grind
 ·intro i hi;rw[if_neg (hk i hi)];grind
theorem Ec {m:Nat} {E:Nat→Nat→Rat} {t:Tab} {C:Nat→Rat} {j i:Nat} (h:TI m E t) (hi:i<m) (hj:j≠t.bs i):rc m (wl C (t.bs i+1)) t j=t.X i j:=by
 unfold rc wl
 simp only
 rw[if_neg hj,dO hi]
 ·rw[if_pos rfl];grind
 ·intro i' hi' hne
  rw[if_neg fun e=>hne (h.inj hi' hi e)];grind
def Deep (m:Nat) (C:Nat→Rat) (t:Tab) (j k:Nat) (s:Int):Prop:=
 (s=0∧ ∀q,q≤k→rc m (wl C q) t j=0)∨(s≠0∧ ∃q,q≤k∧(∀p,p<q→rc m (wl C p) t j=0)∧rc m (wl C q) t j≠0∧s=(rc m (wl C q) t j).num.sign)
theorem Gg {q:Rat} :0<q.num ↔ 0<q:=by
 have h1:=Rat.num_nonneg (q:=q)
 have h2:=Rat.num_eq_zero (q:=q)
 constructor
 ·intro h
  have h3:=h1.1 (by omega)
  have h4:q≠0:=fun e=>by rw[e] at h;exact absurd h (by decide)
  grind
 ·intro h
  have h3:=h1.2 (by grind)
  have h4:q.num≠0:=fun e=>by have:=h2.1 e;grind
  omega
theorem A8 {q:Rat} :0<q.num.sign ↔ 0<q:=by
 rw[←Gg]
 rcases Int.lt_trichotomy q.num 0 with h | h | h
 ·rw[Int.sign_eq_neg_one_of_neg h];omega
 ·rw[h];decide
 ·rw[Int.sign_eq_one_of_pos h];omega
theorem sign_zero {q:Rat} :q.num.sign=0 ↔ q=0:=by
 rw[Int.sign_eq_zero_iff_zero]
 exact Rat.num_eq_zero
theorem Deep.start (m:Nat) (C:Nat→Rat) (t:Tab) (j:Nat):Deep m C t j 0 (rc m C t j).num.sign:=by
 by_cases h:rc m C t j=0
 ·refine .inl ⟨sign_zero.2 h,fun q hq=> ?_⟩
  rw[show q=0 by omega];exact h
 ·exact .inr ⟨fun e=>h (sign_zero.1 e),0,Nat.le_refl _,fun p hp=>by omega,h,rfl⟩
theorem Deep.next {m:Nat} {C:Nat→Rat} {t:Tab} {j k:Nat} (h:Deep m C t j k 0) {s:Int} (hs:s=(rc m (wl C (k+1)) t j).num.sign):Deep m C t j (k+1) s:=by
 rcases h with ⟨_,h⟩| ⟨h,_⟩
 ·by_cases e:rc m (wl C (k+1)) t j=0
  ·refine .inl ⟨by rw[hs];exact sign_zero.2 e,fun q hq=> ?_⟩
   by_cases e2:q=k+1
   ·rw[e2];exact e
   ·exact h q (by omega)
  ·exact .inr ⟨fun e2=>e (sign_zero.1 (hs▸e2)),k+1,Nat.le_refl _,fun p hp=>h p (by omega),e,hs⟩
 ·exact absurd rfl h
theorem Deep.mono {m:Nat} {C:Nat→Rat} {t:Tab} {j k k':Nat} {s:Int} (h:Deep m C t j k s) (hs:s≠0) (hk:k≤k'):Deep m C t j k' s:=by
 rcases h with ⟨h,_⟩| ⟨h,q,h1,h2⟩
 ·exact absurd h hs
 ·exact .inr ⟨h,q,by omega,h2⟩
theorem Deep.end {m n:Nat} {C:Nat→Rat} {t:Tab} {j:Nat} {s:Int} (h:Deep m C t j n s):0<s ↔ iE (n+1) fun q=>rc m (wl C q) t j:=by
 rcases h with ⟨rfl,h⟩| ⟨h,q,h1,h2,h3,h4⟩
 ·constructor
  ·intro h0;omega
  ·rintro⟨q,q1,q2,q3⟩
   simp only at q2
   rw[h q (by omega)] at q2;exact absurd q2 (by decide)
 ·rw[h4]
  constructor
  ·intro h5;exact⟨q,by omega,A8.1 h5,fun p hp=>h2 p hp⟩
  ·rintro⟨p,p1,p2,p3⟩
   rcases Nat.lt_trichotomy p q with g | g | g
   ·simp only at p2;rw[h2 p g] at p2;exact absurd p2 (by decide)
   ·subst g;exact A8.2 p2
   ·exact absurd (p3 q g) h3
theorem Deep.own {m n:Nat} {C:Nat→Rat} {t:Tab} {j:Nat} (h:Deep m C t j j 0) (hj: ∀i,i<m→t.bs i≠j): ¬ iE (n+1) fun q=>rc m (wl C q) t j:=by
 rintro⟨q,q1,q2,q3⟩
 rcases h with ⟨_,h⟩| ⟨h,_⟩
 ·have h5:=tP (C:=C) hj
  rcases Nat.lt_trichotomy q (j+1) with g | g | g
  ·simp only at q2;rw[h q (by omega)] at q2;exact absurd q2 (by decide)
  ·subst g;simp only at q2;rw[h5] at q2;exact absurd q2 (by decide)
  ·have:=q3 (j+1) g
   simp only at this
   rw[h5] at this;exact absurd this (by decide)
 ·exact h rfl
noncomputable def zZ (m : Nat) (C : Nat → Rat) (t : Tab) (j n : Nat) : Int := match fstP (fun q => rc m (wl C q) t j ≠ 0) (n + 1) with
 | some q => (rc m (wl C q) t j).num.sign
 | none => 0
theorem A2 (m:Nat) (C:Nat→Rat) (t:Tab) (j n:Nat):Deep m C t j n (zZ m C t j n):=by
 unfold zZ
 cases h:fstP (fun q=>rc m (wl C q) t j≠0) (n+1) with
 | none =>
   have h1:=eO.1 h
   exact .inl ⟨rfl,fun q hq=>Classical.not_not.1 (h1 q (by omega))⟩
 | some q =>
   obtain⟨h1,h2,h3⟩:=dI.1 h
   exact .inr ⟨fun e=>h2 (sign_zero.1 e),q,by omega,fun p hp=>Classical.not_not.1 (h3 p hp),h2,rfl⟩
theorem Deep.uniq {m:Nat} {C:Nat→Rat} {t:Tab} {j n:Nat} {s s':Int} (h:Deep m C t j n s) (h':Deep m C t j n s'):s=s':=by
 rcases h with ⟨rfl,h⟩| ⟨h,q,h1,h2,h3,h4⟩<;>rcases h' with ⟨rfl,g⟩| ⟨g,p,g1,g2,g3,g4⟩
 ·rfl
 ·exact absurd (h p g1) g3
 ·exact absurd (g q h1) h3
 ·have:p=q:=by
   rcases Nat.lt_trichotomy p q with x | x | x
   ·exact absurd (h2 p x) g3
   ·exact x
   ·exact absurd (g2 q x) h3
  subst this
  rw[h4,g4]
theorem Deep.eq {m:Nat} {C:Nat→Rat} {t:Tab} {j n:Nat} {s:Int} (h:Deep m C t j n s):zZ m C t j n=s:=(A2 m C t j n).uniq h
theorem Lh {m n:Nat} {C:Nat→Rat} {t:Tab} {j:Nat} :0<zZ m C t j n ↔ iE (n+1) fun q=>rc m (wl C q) t j:=(A2 m C t j n).end
theorem Deep.self {m n:Nat} {C:Nat→Rat} {t:Tab} {j:Nat} (h:Deep m C t j j 0) (hj: ∀i,i<m→t.bs i≠j) (hn:j<n):zZ m C t j n= -1:=by
 have h1:=h.next (s:= -1) (by rw[tP hj];rfl)
 exact(h1.mono (by decide) hn).eq

noncomputable def opt (n m : Nat) (E : Nat → Nat → Rat) (b : Nat) (C : Nat → Rat) : Option (Option (Nat → Rat)) :=
 open Classical in
 if h: ∃x,sI n m E b C x then some (some fun c=>if c<n then h.choose c else 0)
 else if∃x,jL n m E b x then some none else none
theorem tH {n m b:Nat} {E:Nat→Nat→Rat} {C x:Nat→Rat} (h:sI n m E b C x):opt n m E b C=some (some fun c=>if c<n then x c else 0):=by
 have he: ∃x,sI n m E b C x:=⟨x,h⟩
 unfold opt
 rw[dif_pos he]
 congr 2
 funext c
 split
 ·exact Jj he.choose_spec h c (by assumption)
 ·rfl
theorem E6 {n m b:Nat} {E:Nat→Nat→Rat} {C:Nat→Rat} (h:Unb n m E b C) {x:Nat→Rat} (hx:jL n m E b x):opt n m E b C=some none:=by
 have he: ¬ ∃x,sI n m E b C x:=fun⟨x,hb⟩=>T3 h hb
 unfold opt
 rw[dif_neg he,if_pos ⟨x,hx⟩]
theorem A7 {n m b:Nat} {E:Nat→Nat→Rat} {C:Nat→Rat} (h: ∀x, ¬ jL n m E b x):opt n m E b C=none:=by
 have he: ¬ ∃x,sI n m E b C x:=fun⟨x,hb⟩=>h x hb.1
 unfold opt
 rw[dif_neg he,if_neg fun⟨x,hx⟩=>h x hx]
theorem Eh {n m b:Nat} {E:Nat→Nat→Rat} {x y:Nat→Rat} (h:jL n m E b x) (e: ∀c,c<n→x c=y c):jL n m E b y:=
 ⟨fun c hc=>by rw[←e c hc];exact h.nn c hc,fun i hi=>by
   have:=h.sol i hi
   rw[←this]
   exact bS fun c hc=>by rw[e c hc]⟩
theorem wA {n:Nat} {C x y:Nat→Rat} (e: ∀c,c<n→x c=y c):dot n C x=dot n C y:=bS fun c hc=>by rw[e c hc]
theorem Pd {n m b:Nat} {E:Nat→Nat→Rat} {C x:Nat→Rat} (h:opt n m E b C=some (some x)):sI n m E b C x:=by
 unfold opt at h
 split at h
 ·rename_i he
  cases h
  have hb:=he.choose_spec
  have e: ∀c,c<n→he.choose c=if c<n then he.choose c else 0:=fun c hc=>by rw[if_pos hc]
  refine⟨Eh hb.1 e,fun y hy hp=>hb.2 y hy ?_⟩
  refine eH hp fun q hq=> ?_
  rw[wA (C:=wl C q) e]
 ·split at h<;>cases h
theorem Bp {n m b:Nat} {E:Nat→Nat→Rat} {C:Nat→Rat} :opt n m E b C≠none ↔ ∃x,jL n m E b x:=by
 constructor
 ·intro h
  cases ho:opt n m E b C with
  | none => exact absurd ho h
  | some o =>
    unfold opt at ho
    split at ho
    ·rename_i he;obtain⟨x,hx⟩:=he;exact⟨x,hx.1⟩
    ·split at ho
     ·assumption
     ·cases ho
 ·rintro⟨x,hx⟩ h
  unfold opt at h
  split at h
  ·cases h
  ·rw[if_pos ⟨x,hx⟩] at h;cases h

def Den (L n:Nat) (x:Nat→Rat):Prop:= ∃v:Int,v≠0∧v.natAbs≤L∧ ∀c,c<n→ ∃a:Int,x c*v=a∧a.natAbs≤L
theorem Den.congr {L n:Nat} {x y:Nat→Rat} (h:Den L n x) (e: ∀c,c<n→x c=y c):Den L n y:=by
 obtain⟨v,h1,h2,h3⟩:=h
 exact⟨v,h1,h2,fun c hc=>by rw[←e c hc];exact h3 c hc⟩
theorem Den.sm {L n:Nat} {x:Nat→Rat} (h:Den L n x) {c:Nat} (hc:c<n):Lp.sm L (x c):=by
 obtain⟨v,h1,h2,h3⟩:=h
 obtain⟨a,ha,hal⟩:=h3 c hc
 exact⟨a,v,h1,ha,hal,h2⟩
theorem Qg {n m N K b:Nat} {E:Nat→Nat→Rat} {t:Tab} (h:TZ m N K E t) (hb:b<N):Den (lid K m) n (xb m b t):=by
 obtain⟨⟨v,hv⟩,hvl⟩:=h.mD
 have hne:=h.vol
 refine⟨v,fun e=>hne (by rw[hv,e];rfl),mB hv hvl,fun c _=> ?_⟩
 by_cases e: ∃i,i<m∧t.bs i=c
 ·obtain⟨i,hi,rfl⟩:=e
  rw[aNQ h.ti hi]
  obtain⟨⟨a,ha⟩,hal⟩:=h.entry hi hb
  exact⟨a,by rw[←hv,ha],mB ha hal⟩
 ·rw[aAN fun i hi e2=>e ⟨i,hi,e2⟩]
  exact⟨0,by grind,by simp⟩
theorem Den.sum {L n W:Nat} {x:Nat→Rat} (h:Den L n x) {C:Nat→Int} (hC: ∀c,c<n→(C c).natAbs≤W) (hW:1≤W): ∀k,k≤n→Lp.sm ((n+1)*(W*L)) (S k fun c=>(C c:Rat)*x c):=by
 obtain⟨v,h1,h2,h3⟩:=h
 have key: ∀k,k≤n→ ∃a:Int,(S k fun c=>(C c:Rat)*x c)*v=a∧a.natAbs≤k*(W*L):=by
  intro k
  induction k with
  | zero => intro _; exact ⟨0, by rw [S]; grind, by simp⟩
  | succ k ih =>
    intro hk
    obtain⟨a,ha,hal⟩:=ih (by omega)
    obtain⟨z,hz,hzl⟩:=h3 k (by omega)
    refine⟨a+C k*z,?_,?_⟩
    ·rw[S,Rat.intCast_add,Rat.intCast_mul,←ha,←hz];grind
    ·have e1:=Int.natAbs_add_le a (C k*z)
     have e2:(C k*z).natAbs≤W*L:=by rw[Int.natAbs_mul];exact Nat.mul_le_mul (hC k (by omega)) hzl
     rw[Nat.add_mul,Nat.one_mul];omega
 intro k hk
 obtain⟨a,ha,hal⟩:=key k hk
 refine⟨a,v,h1,ha,Nat.le_trans hal (Nat.mul_le_mul_right _ (by omega)),Nat.le_trans h2 ?_⟩
 have e1:1*L≤W*L:=Nat.mul_le_mul_right _ hW
 have e2:1*(W*L)≤(n+1)*(W*L):=Nat.mul_le_mul_right _ (by omega)
 omega
theorem runs {n m K:Nat} {E:Nat→Nat→Rat} (C:Nat→Rat) (h:Init n m K E):(∀x, ¬ jL n m E (n+m) x)∨
  ∃t rows,Inv n m (n+m) (n+m+1) K E rows t∧(∀i,i∈rows→t.bs i<n)∧nx n (n+m) rows (okL m n C) t=none:=by
 obtain⟨e,h1,h2,h3,h4⟩:=sJ (N':=n+m) (F:=fun c=>c<n) h (fun c hc=>by omega) (Nat.le_refl _) (fun c hc=>⟨by omega,hc⟩)
 generalize orb (nx (n+m) (n+m) (List.range m) (okW m (bE n m) fun c=>c<n)) (kH n E) e=t at *
 by_cases hp:rc m (bE n m) t (n+m)=0
 ·right
  have hk:=(jP (h4.kN hp) (by omega) m (Nat.le_refl _)).inv
  have R:tD n m (n+m) (n+1) n (n+m+1) (wl C) (fun c=>c<n) (bK n (kicks n t m) m) (okL m n C):=Xh (by omega) (by omega)
  obtain⟨e2,g1,g2,g3⟩:=R.ends hk
  exact⟨_,_,g3 e2 (Nat.le_refl _),R.low (fun c hc=>hc) g3 (fun i hi=>(lP.1 hi).2) e2 (Nat.le_refl _),g1⟩
 ·exact .inl fun x=>h4.no hp x
theorem answers {n m K:Nat} {E:Nat→Nat→Rat} (C:Nat→Rat) (h:Init n m K E):(opt n m E (n+m) C=none∧ ∀x, ¬ jL n m E (n+m) x)∨(opt n m E (n+m) C=some none∧Unb n m E (n+m) C∧ ∃x,jL n m E (n+m) x)∨
  ∃x,opt n m E (n+m) C=some (some x)∧sI n m E (n+m) C x∧Den (lid K m) n x∧ ∀c,n≤c→x c=0:=by
 rcases runs C h with g | ⟨t,rows,h1,h2,h3⟩
 ·exact .inl ⟨A7 g,g⟩
 ·have hf:jL n m E (n+m) (xb m (n+m) t):=uP h1.z.ti h1.nn (h1.zero h2)
  rcases B7 h1 h2 h3 with ⟨_,hb⟩| ⟨_,hu⟩
  ·refine .inr (.inr ⟨_,tH hb,Pd (tH hb),(Qg (b:=n+m) h1.z (by omega)).congr fun c hc=>by rw[if_pos hc],fun c hc=>if_neg (by omega)⟩)
  ·exact .inr (.inl ⟨E6 hu hf,hu,_,hf⟩)
end Go.Proofs.YticmgmemnpcbbaaGreat.Lp

namespace Go.Proofs.YticmgmemnpcbbaaGreat.Vm
open Go Go.RowKit Go.Proofs
set_option linter.unusedSimpArgs false
set_option linter.unusedVariables false
structure Stg (n m : Nat) (E : Nat → Nat → Rat) (C : Nat → Rat) (rows : List Nat) (q : Nat) (fr : Nat → Bool) (t : Lp.Tab) : Prop where
 mid:Lp.Mid n m 1000 E rows (fO (n+m) fr) t
 sel:Lp.Sel n m (n+m) E C q (fO (n+m) fr)
theorem Qe {m N:Nat} {O:Nat→Int} {t:Lp.Tab} {fr:Nat→Bool} (hf:Lp.fstP (Lp.okW m (wO O) (fO N fr) t) N=none):fO N (frK m O t fr N)=Lp.Fn m (wO O) (fO N fr) t:=by
 funext c
 refine propext ?_
 unfold fO Lp.Fn frK
 constructor
 ·rintro⟨h1,h2⟩
  rw[if_pos h1,Bool.and_eq_true] at h2
  obtain⟨h3,h4⟩:=h2
  have h5: ¬ Lp.rc m (wO O) t c<0:=by simpa using h4
  have h6:=Lp.eO.1 hf c h1
  unfold Lp.okW fO at h6
  refine⟨⟨h1,h3⟩,?_⟩
  have h7: ¬ 0<Lp.rc m (wO O) t c:=fun g=>h6 ⟨⟨h1,h3⟩,g⟩
  grind
 ·rintro⟨⟨h1,h2⟩,h3⟩
  refine⟨h1,?_⟩
  rw[if_pos h1,h2,h3]
  have: ¬ ((0:Rat)<0):=by decide
  simp[this]
theorem W5 {bl:Int→Option Blk} {K:V→(Int→Option Blk)→Prop} (n m:Nat) (E:Nat→Nat→Rat) (rows:List Nat) (g:TG) (t:Lp.Tab) (fr:Nat→Bool) (C:Nat→Rat) (q:Nat) (O:Nat→Int) (gO:Int)
  (hm:m≤17) (hn:n+m≤100) (hr:Rows m rows) (hS:Stg n m E C rows q fr t) (hw:wO O=Lp.wl C q) (hO: ∀c,(O c).natAbs≤1000) (hO0: ∀c,n≤c→O c=0)
  (hTT:TT bl g (bZ n m E rows t fr)) (hgO:bl gO=some ⟨1,iv (lz (n+m) O)⟩) (hg0:0≤gO) (hgn:gO∉g.all)
  (hT: ∀b' t' fr',Stg n m E C rows (q+1) fr' t'→TT b' g (bZ n m E rows t' fr')→(∀x y,bl x=some y→x∉g.all→b' x=some y)→K (.bool true) b')
  (hF: ∀b',q=0→Lp.Unb n m E (n+m) C→(∃x,Lp.jL n m E (n+m) x)→(∀x y,bl x=some y→x∉g.all→b' x=some y)→K (.bool false) b'):
  bW Tryz.prog 205 [.loc g.T 6 0 0,.lsl gO 1 0 (n+m)] bl K:=by
 obtain⟨e,h1,h2,h3⟩:=hS.mid.ends (wO O)
 have he:=h3 e (Nat.le_refl _)
 refine wP n m E rows g t fr O gO e hm hn hr hO (.inr hO0) h1 h2 (fun e' he'=>(h3 e' he').inv) hTT hgO hg0 hgn (fun b' hf hT2 hx=> ?_) fun b' k hf hl hT2 hx=> ?_
 ·have hR:=Lp.Ic (N':=n+m) he.inv he.low he.bas (Nat.le_add_right n m) hf
  refine hT b' _ _ ⟨?_,?_⟩ hT2 hx
  ·rw[Qe hf];exact he.next
  ·rw[Qe hf]
   refine hS.sel.next (t:=Lp.orb (Lp.nx (n+m) (n+m) rows (Lp.okW m (wO O) (fO (n+m) fr))) t e) ?_
   rw[←hw];exact hR
 ·obtain⟨k1,k2,k3⟩:=Lp.dI.1 hf
  have hkn:k<n:=he.lt k k2.1
  obtain⟨t',ht'⟩: ∃t',Lp.orb (Lp.nx (n+m) (n+m) rows (Lp.okW m (wO O) (fO (n+m) fr))) t e=t':=⟨_,rfl⟩
  rw[ht'] at he k2 hl
  have kM:=k2.2
  rw[hw] at kM
  cases q with
  | zero => exact hF b' rfl (Lp.xA he.inv he.low hkn hl kM) ⟨_, he.Mg.1⟩ hx
  | succ q => exact absurd hl (Lp.wE he.inv C hkn kM)
def fxs (n:Nat) (x:Nat→Rat):List (List V):=(List.range n).map fun c=> [fv (some (x c))]
@[simp] theorem aCS (n : Nat) (x : Nat → Rat) : (fxs n x).length = n := by simp [fxs]
@[simp] theorem X6 (n : Nat) (x : Nat → Rat) (i : Nat) (h : i < (fxs n x).length) : (fxs n x)[i] = [fv (some (x i))] := by simp [fxs]
theorem uV {n:Nat} {x y:Nat→Rat} (h: ∀c,c<n→x c=y c):fxs n x=fxs n y:=List.map_congr_left fun c hc=>by rw[h c (by simpa using hc)]
theorem Vs {n i:Nat} (x:Nat→Rat) (v:Rat) (hi:i<n):(fxs n x).set i [fv (some v)]=fxs n fun c=>if c=i then v else x c:=by
 apply List.ext_getElem
 ·simp
 ·intro j h1 h2
  rw[List.getElem_set,X6,X6]
  by_cases e:i=j
  ·rw[if_pos e,if_pos e.symm]
  ·rw[if_neg e,if_neg (Ne.symm e)]
def W3 (n:Nat) (C:Nat→Rat):Option (Option (Nat→Rat))→V
 | none => .tup [.int .i64 2, .sl [], .nilp]
 | some none => .tup [.int .i64 3, .sl [], .nilp]
 | some (some x) => .tup [.int .i64 0, .sl (fxs n x), fv (some (Lp.dot n C x))]

structure aLY where
 q:Nat
 t:Lp.Tab
 fr:Nat→Bool
 ob:List Int
 b:Int→Option Blk
def tO (q:Nat):Nat→Int:=fun c=>if c=q then -1 else 0
theorem Va (C:Nat→Rat) (q:Nat):wO (tO q)=Lp.wl C (q+1):=by
 funext c
 unfold wO tO Lp.wl
 simp only
 split<;>rfl
def fxp (n k:Nat):List (List V):=(List.range n).map fun c=>if c<k then [fv (some 0)] else [.nilp]
@[simp] theorem aCU (n k : Nat) : (fxp n k).length = n := by simp [fxp]
theorem Ms (n:Nat):List.replicate n [V.nilp]=fxp n 0:=by
 unfold fxp
 apply List.ext_getElem
 ·simp
 ·intro i h1 h2;simp
@[simp] theorem aLU (n k i : Nat) (h : i < (fxp n k).length) : (fxp n k)[i] = if i < k then [fv (some 0)] else [.nilp] := by simp [fxp]
theorem Vi {n k:Nat} (h:k<n):(fxp n k).set k [fv (some 0)]=fxp n (k+1):=by
 apply List.ext_getElem
 ·simp
 ·intro j h1 h2
  rw[List.getElem_set]
  simp only[fxp,List.getElem_map,List.getElem_range]
  by_cases e:k=j
  ·rw[if_pos e,if_pos (by omega)]
  ·rw[if_neg e]
   by_cases e2:j<k
   ·rw[if_pos e2,if_pos (by omega)]
   ·rw[if_neg e2,if_neg (by omega)]
theorem Tc (n:Nat):fxp n n=fxs n fun _=>0:=List.map_congr_left fun c hc=>by rw[if_pos (by simpa using hc)]
theorem aA5 (n:Nat) (x:Nat→Rat):(fxs n x).all (fun e=>e.all V.cl)=true:=by simp[fxs,V.cl,fv]
noncomputable def xUp (N : Nat) (rows : List Nat) (t : Lp.Tab) (i : Nat) : Nat → Rat := fun c => Lp.S i fun p => if t.bs (atR rows p) = c then t.X (atR rows p) N else 0
theorem Bs {m N:Nat} {E:Nat→Nat→Rat} {rows:List Nat} {t:Lp.Tab} (h:Lp.TI m E t) (hr:Rows m rows) {i:Nat} (hi:i<rows.length) (c:Nat):(if c=t.bs (atR rows i) then t.X (atR rows i) N else xUp N rows t i c)=xUp N rows t (i+1) c:=by
 show _=xUp N rows t i c+(if t.bs (atR rows i)=c then t.X (atR rows i) N else 0)
 by_cases e:c=t.bs (atR rows i)
 ·rw[if_pos e,if_pos e.symm]
  have:xUp N rows t i c=0:=Lp.jD fun p hp=>by
   refine if_neg fun e2=> ?_
   have h1:=h.inj (hr.lt (cM (show p<rows.length by omega))) (hr.lt (cM hi)) (e2.trans e)
   have:=hr.inj (show p<rows.length by omega) hi h1
   omega
  rw[this];grind
 ·rw[if_neg e,if_neg (Ne.symm e)];grind
theorem Gq {n m N:Nat} {rows:List Nat} {t:Lp.Tab} (hr:Rows m rows) (hd: ∀i,i<m→i∉rows→n≤t.bs i) {c:Nat} (hc:c<n):xUp N rows t rows.length c=Lp.xb m N t c:=by
 unfold xUp Lp.xb
 exact hr.sum (fun i=>if t.bs i=c then t.X i N else 0) fun i hi hn=>if_neg (by have:=hd i hi hn;omega)
theorem Ea {q:Rat} (h:Lp.sm (10^72) q):few 100000 q:=by
 obtain⟨h1,h2⟩:=Lp.Av h
 have h3:(10:Nat)^72<LB^24:=by decide+kernel
 exact Bl (k:=24) ⟨aL.2 (Nat.lt_of_le_of_lt h1 h3),aL.2 (Nat.lt_of_le_of_lt h2 h3)⟩ (by decide)

theorem Rx {P:Program} {d:Option Nat} {ty:TypeId} {pos:String} {af:Array Edge} {gd:Option (Nat×Bool)} {K:St→Prop} {σ:St} {x y:Operand} {t tx e:TypeId} {g:Int} {n:Nat} {cs ys:List V} (hx:σ.ev x= .lsl g 1 0 n) (hE:elsV σ.bl 1 (σ.ev y)=some (uns ys))
  (h0:0≤g) (hb:σ.bl g=some ⟨1,uns cs⟩) (hcn:cs.length=n) (hle:ys.length≤n) (hys:((uns ys).all fun c=>c.length==1 && c.all V.one)=true) (he:slE P t=some e) (hz:csz P e=some 1)
  (hK:K (({ σ with bl:=upd σ.bl g (some ⟨1,uns (ys++cs.drop ys.length)⟩) } :St).put d (.int .i64 ys.length))):
  TS P ⟨d,.call { callee:= .builtin .copy,args:= #[x,y],argTypes:= #[t,tx] },ty,pos,af,gd⟩ K σ:=by
 intro w0 M F a w Q hs
 have hxr:=hs.ev x
 rw[hx] at hxr
 have hyr:=hs.ev y
 rcases S0 hxr with ⟨cL, -⟩| ⟨hg,cap,hlc,jT,hav, -⟩
 ·omega
 have hL:=oP hs.mem hyr (sz:=1) (Nat.le_refl _) (ys:=uns ys) hE
 obtain⟨xa,xc,news,hxv,hnl,hnc,hno,hnr⟩:=hL
 have hul:(uns ys).length=ys.length:=by simp[uns]
 rw[hul] at hxv hnl
 have hf:(Builtin.firstCells 1 ys.length (.slice xa ys.length xc)).run P w= .ok news.toArray w:=by
  rcases hnc with h | ⟨bb,off,rfl,lE⟩
  ·have hy0:ys= []:=by cases ys with
    | nil => rfl
    | cons => simp [uns] at h
   subst hy0
   have hn0:news= []:=List.eq_nil_of_length_eq_zero (by simpa using hnl)
   subst hn0
   cases xa<;>simp[Builtin.firstCells,loadCells,loadCellsFrom]
  ·exact run_firstCells_some w 1 ys.length ⟨bb,off,none⟩ ys.length xc news hnl (fun j u hu=>by rw[eV];exact lE j u hu)
 have fK: ∀z,z∈ys→z.one=true:=fun z hz=>by
  have:=List.all_eq_true.1 hys [z] (by simp[uns,hz])
  simpa using this
 obtain⟨w',h1,h2,h3,h4⟩:=hs.mem.Qp (P:=P) (vs:=news) h0 hb (by omega) fK (by simpa using hnl) (fun i z hz=>by
  obtain⟨-,h6⟩:=hnr i [z] (by simp[uns,hz])
  obtain⟨-,u,h7,h8⟩:=h6 0 z rfl
  exact⟨u,by simpa using h7,h8⟩) hno
 have hs':Sim w0 M F ({ σ with bl:=upd σ.bl g (some ⟨1,uns (ys++cs.drop ys.length)⟩) } :St) a w':=⟨h2,hs.size,fun t ht=>(hs.sl t ht).mono (fun _ h=>h) h3 h4,hs.defers⟩
 refine bN (v:=goInt ys.length) (w':=w') ?_ ⟨_,F,fun _ h=>h,hs'.put (.int _ _),hK⟩
 have aUB:Nat.min ys.length n=ys.length:=Nat.min_eq_left hle
 simp only[execOp,resolve,Sem.run_bind,Sem.run_pure,Result.andThen_ok,invoke,builtin,List.map_toArray,List.map_cons,List.map_nil,Builtin.copy_,List.getElem?_toArray,List.getElem?_cons_zero,List.getElem?_cons_succ,run_underlying (cN he),hav,hxv,Builtin.lenOf,aUB,run_sizeOf hz,hf]
 rw[Nat.zero_mul,h1];rfl
theorem Sh {blK:Int→Option Blk} (gp gC:Int) (p:Pg) (n m:Nat) (h:PgN p n m) (hp0:blK gp=some ⟨5,[pgX p (.lsl gC 1 0 n)]⟩) (hc0:blK gC=some ⟨1,iv p.c⟩) (cL:gC<0→n=0):RL Tryz.prog blK 145 [.loc gp 5 0 0] (W3 n (wO (pC p)) (Lp.opt n m (eQ p n m) (n+m) (wO (pC p)))):=by
 have hml:=h.ml
 have hnl:=h.nl
 intro bl hs
 have hgp:=hs gp _ hp0
 have hgc:=hs gC _ hc0
 have np: ∀x,bl x=none→gp≠x:=fun x hx e=>by rw[e,hx] at hgp;cases hgp
 have nc: ∀x,bl x=none→gC≠x:=fun x hx e=>by rw[e,hx] at hgc;cases hgc
 suffices key:bW Tryz.prog 145 [.loc gp 5 0 0] bl (ROk bl (W3 n (wO (pC p)) (Lp.opt n m (eQ p n m) (n+m) (wO (pC p))))) from nE key ⟨rfl,rfl⟩
 refine bO Tryz.func145 rfl rfl (by rw[Tryz.ntmps145];simp) ?_
 rw[Tryz.ntmps145,Tryz.results145]
 refine aE ?_
 simp
 refine aE ?_
 simp
 refine Mr gp _ p n m h hgp (fun b' t h4 hp hb=> ?_) (fun b' g t h4 hp hTT hfr hb=> ?_)
 ·rw[Lp.A7 (h4.no hp)]
  simp[W3]
  refine aC ?_
  simp
  exact aK [.int .i64 2,.nils,.nilp] 1 (by simp) (by simp[frz,V.cl]) hb
 have hK:=(Lp.jP (h4.kN hp) (show n≤n+m+1 by omega) m (Nat.le_refl _))
 obtain⟨t0,ht0⟩: ∃t0,Lp.kicks n t m=t0:=⟨_,rfl⟩
 rw[ht0] at hTT hK
 have aAD:=hK.inv
 have mG:=vX n m t0
 have N8: ∀i,i∈Lp.bK n t0 m→t0.bs i<n:=fun i hi=>(Lp.lP.1 hi).2
 obtain⟨rows,lU⟩: ∃rows,Lp.bK n t0 m=rows:=⟨_,rfl⟩
 rw[lU] at hTT aAD mG N8
 have hS0:Stg n m (eQ p n m) (wO (pC p)) rows 0 (okA n) t0:=⟨⟨aAD,N8,fun i hi=>⟨by have:=N8 i hi;omega,by unfold okA;simpa using N8 i hi⟩,fun c hc=>by simpa [okA] using hc.2⟩,Lp.Sel.start fun c hc=>⟨by omega,by simpa [okA] using hc⟩⟩
 clear hK aAD N8
 obtain⟨gT,gR,gB,gF,ids⟩:=g
 have bT:b' gT=_:=hTT.hd
 have bB:b' gB=_:=hTT.ba
 have bG:b' gR=_:=hTT.fE.top
 have bF:b' gF=_:=hTT.fre
 simp only[bZ] at bT bB bG bF
 obtain⟨N,hN⟩: ∃N,n+m=N:=⟨_,rfl⟩
 rw[hN] at bT
 have aT5:=hTT.pT
 simp
 refine aE ?_
 simp
 refine aE ?_
 simp[bT]
 refine⟨by omega,by unfold maxLen;omega,fun gO hgO hbO=> ?_⟩
 refine aN ?_
 refine Gs _ rfl rfl ?_
 have bp:=hb gp _ hgp
 have bc:=hb gC _ hgc
 have pO:gp≠gO:=fun e=>by rw[←e,bp] at hbO;cases hbO
 have cO:gC≠gO:=fun e=>by rw[←e,bc] at hbO;cases hbO
 simp[pO,bp,pgX]
 have hcl:p.c.length=n:=h.cl
 have hiv: ∀l:List Int,iv l=uns (l.map (V.int .i64)):=fun l=>by simp[iv,uns]
 refine Rx (g:=gO) (n:=N) (e:=3) (cs:=List.replicate N (.int .i64 0)) (ys:=p.c.map (V.int .i64)) (by simp) (by
  simp[elsV,cO,bc]
  by_cases hg0:gC<0
  ·have e0:p.c= []:=List.eq_nil_of_length_eq_zero (by rw[h.cl];exact cL hg0)
   rw[if_pos hg0,e0];rfl
  ·rw[if_neg hg0,if_pos (Nat.le_of_eq h.cl.symm),←hiv,List.take_of_length_le (by simp[h.cl])]) hgO (by simp[uns]) (by simp) (by simp[hcl];omega) (by simp[uns]) (by simp) (by simp) ?_
 have ecp:uns (p.c.map (V.int .i64)++(List.replicate N (V.int .i64 0)).drop (p.c.map (V.int .i64)).length)=iv (lz N (pC p)):=by
  rw[hiv]
  congr 1
  apply List.ext_getElem
  ·simp[hcl];omega
  ·intro j h1 h2
   rw[List.getElem_map,yK]
   unfold pC
   by_cases e:j<n
   ·rw[List.getElem_append_left (by simp[hcl];exact e)]
    simp[List.getD_eq_getElem?_getD,hcl,e]
   ·rw[List.getElem_append_right (by simp[hcl];omega)]
    simp[List.getD_eq_getElem?_getD,hcl,e]
 rw[ecp]
 obtain⟨bC,hbC⟩: ∃bC,bC=upd b' gO (some ⟨1,iv (lz N (pC p))⟩):=⟨_,rfl⟩
 simp
 refine cX [(0,.loc gp 5 0 0),(5,.loc gT 6 0 0),(7,.lsl gO 1 0 N)] 124 bC ⟨rfl,by simp,by rw[hbC];exact sub_eq (by simp)⟩ ?_
 have n6: ∀x,x∈TG.all ⟨gT,gR,gB,gF,ids⟩→ ∃y,b' x=some y:=fun x hx=>by
  simp only[TG.all,List.mem_cons] at hx
  rcases hx with rfl | rfl | rfl | rfl | hx
  ·exact⟨_,bT⟩
  ·exact⟨_,bG⟩
  ·exact⟨_,bB⟩
  ·exact⟨_,bF⟩
  ·obtain⟨q,hq⟩:=List.mem_iff_getElem?.1 hx
   exact⟨_,hTT.fE.row q x hq⟩
 have hgn:gO∉TG.all ⟨gT,gR,gB,gF,ids⟩:=fun hm2=>by
  obtain⟨y,hy⟩:=n6 gO hm2
  rw[hbO] at hy;cases hy
 have bCO:bC gO=some ⟨1,iv (lz N (pC p))⟩:=by rw[hbC];simp
 have hTC:TT bC ⟨gT,gR,gB,gF,ids⟩ (bZ n m (eQ p n m) rows t0 (okA n)):=hTT.bI fun x y hx hy=>by rw[hbC,aG _ _ _ _ (fun e=>hgn (by rw[←e];exact hx))];exact hy
 have sC:Sub bl bC:=fun x y hx=>by
  have:=hb x y hx
  rw[hbC,aG _ _ _ _ (fun e=>by rw[e,hbO] at this;cases this)];exact this
 have blO:bl gO=none:=by
  cases hv:bl gO with
  | none => rfl
  | some y => have := hb gO y hv; rw [hbO] at this; cases this
 clear hbC bT bB bG bF hTT n6 hbO hb
 refine aN ?_
 refine aC ?_
 simp
 have hst:=fun K'=>W5 (bl:=bC) (K:=K') n m (eQ p n m) rows ⟨gT,gR,gB,gF,ids⟩ t0 (okA n) (wO (pC p)) 0 (pC p) gO hml hnl mG hS0 rfl (fun c=>iM h.cm c) (fun c hc=>by unfold pC;rw[List.getD_eq_getElem?_getD,List.getElem?_eq_none (by omega)];rfl) hTC (by rw[hN];exact bCO) hgO hgn
 rw[hN] at hst
 refine hst _ (fun b1 t1 fr1 hS1 hT1 hx1=> ?_) (fun b1 _ hU hF hx1=> ?_)
 rotate_left
 ·obtain⟨x,hx⟩:=hF
  have eo:=Lp.E6 hU hx
  rw[←hN] at eo
  rw[eo]
  simp[W3]
  exact aK [.int .i64 3,.nils,.nilp] 1 (by simp) (by simp[frz,V.cl]) fun x y hx=>hx1 x y (sC x y hx) fun hm2=>by have:=hfr x hm2;rw[this] at hx;cases hx
 simp
 have Zj: ∀x y,bl x=some y→b1 x=some y:=fun x y hx=>hx1 x y (sC x y hx) fun hm2=>by have:=hfr x hm2;rw[this] at hx;cases hx
 have b1O:b1 gO=some ⟨1,iv (lz N (pC p))⟩:=hx1 gO _ bCO hgn
 clear hst hx1 hTC bCO sC aT5 hS0 h4 hp
 refine aN ?_
 refine aC ?_
 have b1p:=Zj gp _ hgp
 simp[b1p,pgX,h.bD]
 refine aJ (fun s:aLY=> [(0,.loc gp 5 0 0),(5,.loc gT 6 0 0),(7,.lsl gO 1 0 N),(41,.int .i64 n),(42,.int .i64 s.q)]) (fun s=>s.b) (fun s=>s.q≤n∧Stg n m (eQ p n m) (wO (pC p)) rows (s.q+1) s.fr s.t∧TT s.b ⟨gT,gR,gB,gF,ids⟩ (bZ n m (eQ p n m) rows s.t s.fr)∧(s.b gO=some ⟨1,iv s.ob⟩∧s.ob.length=N)∧ ∀x y,bl x=some y→s.b x=some y) (fun s=>n - s.q) _ ⟨0,t1,fr1,lz N (pC p),b1⟩ ⟨Nat.zero_le _,hS1,hT1,⟨b1O,by simp⟩,Zj⟩ ⟨rfl,by simp[h.bD],Sub.refl _⟩ ?_
 clear hS1 hT1 b1O Zj
 rintro⟨q,t,fr,ob,b⟩ ⟨hq,hS,hT,⟨hbO,hol⟩,hbl⟩
 simp only at hq hS hT hbO hol hbl
 have wq:IntKind.i64.wrap ((q:Int)+1)=(q:Int)+1:=i64_in (by omega) (by omega)
 refine aE ?_
 simp
 refine aE ?_
 simp
 refine⟨fun hqn=> ?_,fun hqn=> ?_⟩
 ·refine aN (aT ?_)
  refine aE ?_
  simp
  refine aN ?_
  refine Gs _ rfl rfl ?_
  simp
  refine Nb (g:=gO) (n:=N) (e:=3) (u:= .int .i64 0) (cs:=ob.map (V.int .i64)) (by simp) hgO (by simp[hbO,hiv]) (by simp[hol]) (by simp) (by simp) ?_
  have e0:uns (List.replicate N (V.int .i64 0))=iv (lz N fun _=>0):=by rw[←Cf];simp[uns]
  rw[e0]
  simp
  refine aC ?_
  have hqN:q<N:=by omega
  simp[hqN,Od]
  have hle:(lz N fun c=>if c=q then(-1:Int) else 0)=lz N (tO q):=rfl
  rw[hle]
  obtain⟨b2,hb2⟩: ∃b2,b2=upd b gO (some ⟨1,iv (lz N (tO q))⟩):=⟨_,rfl⟩
  rw[←hb2]
  have b2O:b2 gO=some ⟨1,iv (lz N (tO q))⟩:=by rw[hb2];simp
  have hT2:TT b2 ⟨gT,gR,gB,gF,ids⟩ (bZ n m (eQ p n m) rows t fr):=hT.bI fun x y hx hy=>by rw[hb2,aG _ _ _ _ (fun e=>hgn (by rw[←e];exact hx))];exact hy
  have b2l: ∀x y,bl x=some y→b2 x=some y:=fun x y hx=>by
   rw[hb2,aG _ _ _ _ (fun e=>by rw[e,blO] at hx;cases hx)];exact hbl x y hx
  clear hb2
  have hst:=fun K'=>W5 (bl:=b2) (K:=K') n m (eQ p n m) rows ⟨gT,gR,gB,gF,ids⟩ t fr (wO (pC p)) (q+1) (tO q) gO hml hnl mG hS (Va _ q) (fun c=>by unfold tO;split<;>decide) (fun c hc=>by unfold tO;rw[if_neg (by omega)]) hT2 (by rw[hN];exact b2O) hgO hgn
  rw[hN] at hst
  refine hst _ (fun b3 t3 fr3 hS3 hT3 hx3=> ?_) (fun b3 e=>by omega)
  simp
  refine aC ?_
  simp[wq,aB]
  refine⟨⟨q+1,t3,fr3,lz N (tO q),b3⟩,⟨by simp only;omega,hS3,hT3,⟨hx3 gO _ b2O hgn,by simp⟩,fun x y hx=>hx3 x y (b2l x y hx) fun hm2=>by have:=hfr x hm2;rw[this] at hx;cases hx⟩,by simp only;omega,rfl,by simp[h.bD],Sub.refl _⟩
 ·have hqe:q=n:=by omega
  subst hqe
  have hB:Lp.sI q m (eQ p q m) N (wO (pC p)) (Lp.xb m N t):=by rw[←hN];exact hS.sel.done hS.mid.Mg.1 hS.mid.Mg.2
  have eo:=Lp.tH hB
  rw[←hN] at eo
  rw[eo]
  have hD:Lp.Den (Lp.lid 1000 m) q (Lp.xb m N t):=Lp.Qg hS.mid.inv.z (by omega)
  simp only[W3]
  have e1:fxs q (fun c=>if c<q then Lp.xb m (q+m) t c else 0)=fxs q (Lp.xb m N t):=uV fun c hc=>by rw[if_pos hc,hN]
  have e2:Lp.dot q (wO (pC p)) (fun c=>if c<q then Lp.xb m (q+m) t c else 0)=Lp.dot q (wO (pC p)) (Lp.xb m N t):=Lp.wA fun c hc=>by rw[if_pos hc,hN]
  rw[e1,e2]
  clear hB eo e1 e2
  obtain⟨xs,hxs⟩: ∃xs,Lp.xb m N t=xs:=⟨_,rfl⟩
  have bT:b gT=_:=hT.hd
  have bB:b gB=_:=hT.ba
  have bG:b gR=_:=hT.fE.top
  have hil:=hT.fE.len
  simp only[bZ] at bT bB bG hil
  rw[hN] at bT
  have hrl:=mG.len
  refine aC ?_
  have bp:=hbl gp _ hgp
  have bc:=hbl gC _ hgc
  simp[bp,pgX,h.bD]
  refine⟨by omega,by unfold maxLen;omega,fun gx hgx hbx=> ?_⟩
  have xT: ¬ gx=gT:=fun e=>by rw[e,bT] at hbx;cases hbx
  have xR: ¬ gx=gR:=fun e=>by rw[e,bG] at hbx;cases hbx
  have xB: ¬ gx=gB:=fun e=>by rw[e,bB] at hbx;cases hbx
  have xi:gx∉ids:=fun hm2=>by
   obtain⟨j,hj⟩:=List.mem_iff_getElem?.1 hm2
   rw[hT.fE.row j gx hj] at hbx;cases hbx
  have px:gp≠gx:=fun e=>by rw[←e,bp] at hbx;cases hbx
  have cx:gC≠gx:=fun e=>by rw[←e,bc] at hbx;cases hbx
  have Sc: ∀X,Sub bl (upd b gx X):=fun X x y hx=>by
   have:=hbl x y hx
   rw[aG _ _ _ _ (fun e=>by rw[e,hbx] at this;cases this)];exact this
  refine aJ (fun k:Nat=> [(0,.loc gp 5 0 0),(5,.loc gT 6 0 0),(9,.lsl gx 1 0 q),(59,.int .i64 q),(60,.int .i64 k)]) (fun k=>upd b gx (some ⟨1,fxp q k⟩)) (fun k=>k≤q) (fun k=>q - k) _ 0 (Nat.zero_le _) ⟨rfl,by simp[h.bD],sub_eq (by rw[Ms])⟩ ?_
  intro k hk
  have wk:IntKind.i64.wrap ((k:Int)+1)=(k:Int)+1:=i64_in (by omega) (by omega)
  refine aC ?_
  simp
  refine⟨fun hkq=> ?_,fun hkq=> ?_⟩
  ·refine aD (uO 0 (by decide)) ?_
   simp[hkq]
   simp[wk,aB,show((0:Int):Rat)=0 from rfl,Vi hkq]
   refine⟨k+1,by omega,by omega,rfl,by simp[h.bD],sub_eq rfl⟩
  have hkq:k=q:=by omega
  subst hkq
  rw[Tc]
  simp[xT,Ne.symm xT,bT]
  refine aJ (fun i:Nat=> [(0,.loc gp 5 0 0),(5,.loc gT 6 0 0),(9,.lsl gx 1 0 k),(71,.lsl gB 1 0 rows.length),(72,.int .i64 rows.length),(73,.int .i64 i)]) (fun i=>upd b gx (some ⟨1,fxs k (xUp N rows t i)⟩)) (fun i=>i≤rows.length) (fun i=>rows.length - i) _ 0 (Nat.zero_le _) ⟨rfl,by simp[h.bD],sub_eq rfl⟩ ?_
  intro i hi
  have wi:IntKind.i64.wrap ((i:Int)+1)=(i:Int)+1:=i64_in (by omega) (by omega)
  refine aE ?_
  simp
  refine aE ?_
  simp
  refine⟨fun hir=> ?_,fun hir=> ?_⟩
  ·refine aN (aT ?_)
   refine aE ?_
   simp[Ne.symm xB,bB,hir]
   obtain⟨gi,hgi,xK,xS,mP⟩:=hT.fE.at i (by simp only[bZ];exact hir)
   simp only[bZ] at mP
   have hgj: ∀h,ids[i]'h=gi:=fun h=>by rw[List.getElem?_eq_getElem h] at hgi;exact Option.some.inj hgi
   have xgi: ¬ gi=gx:=fun e=>xi (e▸xK)
   have hbk:t.bs (atR rows i)<k:=hS.mid.low _ (cM hir)
   have aNT:(t.bs (atR rows i):Int)<k:=by omega
   have aT9:(N:Int)<(k:Int)+m+1:=by omega
   have hdz:=Lp.sV hS.mid.inv.z
   have aU2:=Lp.Ya hS.mid.inv.z
   have aU9:=Lp.Yk hS.mid.inv.z (mG.lt (cM hir)) (show N<k+m+1 by omega)
   have hzc:=Lp.gS hS.mid.inv.z (mG.lt (cM hir)) (show N<k+m+1 by omega)
   obtain⟨zx,hzx⟩: ∃zx,Lp.zt m (eQ p k m) t (atR rows i) N=zx:=⟨_,rfl⟩
   obtain⟨dx,hdx⟩: ∃dx,Lp.dz m (eQ p k m) t=dx:=⟨_,rfl⟩
   rw[hdx] at hdz aU2 hzc
   simp only[hdx] at bT
   rw[hzx] at aU9 hzc
   have tN:=Lp.mA hml
   obtain⟨td,htd⟩: ∃td,(10:Nat)^66=td:=⟨_,rfl⟩
   have h24:td<LB^24:=by rw[←htd];decide+kernel
   rw[htd] at tN
   have hln:(lim zx.natAbs).length≤300000:=Nat.le_trans (aL.2 (Nat.lt_of_le_of_lt (show zx.natAbs≤td by omega) h24)) (by decide)
   have hld:(lim dx.natAbs).length≤300000:=Nat.le_trans (aL.2 (Nat.lt_of_le_of_lt (show dx.natAbs≤td by omega) h24)) (by decide)
   have D7:=vW zx dx.natAbs (by omega) hln hld
   have hmk:mkRat zx dx.natAbs=t.X (atR rows i) N:=by
    have e1:((dx.natAbs:Nat):Rat)=(dx:Rat):=by
     rw[←Rat.intCast_natCast,Int.natAbs_of_nonneg (by omega)]
    have e2:(0:Rat)<(dx:Rat):=Rat.intCast_pos.2 hdz
    rw[Rat.mkRat_eq_div,e1,hzc]
    grind
   rw[hmk] at D7
   clear htd h24 tN
   refine fT aM [0,1,2,3,4,5,6,7,8,9,10,11,12,13,14,15,16,17,18,19,20,21] 1 22 (by kernel_rfl) ?_
   simp[Ne.symm xT,Ne.symm xR,bT,bG,hir,hgj,mP,xgi,hil,show N<k+m+1 by omega,aT9,hbk,aNT,hzx]
   refine aO D7 ?_
   simp[hbk,aNT]
   refine fU (i:=22) (by kernel_rfl) rfl rfl rfl ?_
   have hfv:V.ptr (rq (t.X (atR rows i) N)).c=fv (some (t.X (atR rows i) N)):=rfl
   rw[hfv]
   simp[hbk,Vs]
   refine Dy ?_
   simp
   refine aC ?_
   simp[wi,aB]
   refine⟨i+1,by omega,by omega,rfl,by simp[h.bD],sub_eq ?_⟩
   funext x
   simp only[aA]
   split
   ·congr 2
    exact uV fun c _=>Bs hS.mid.inv.z.ti mG hir c
   ·rfl
  have hie:i=rows.length:=by omega
  subst hie
  have exs:fxs k (xUp N rows t rows.length)=fxs k xs:=uV fun c hc=>by
   have:=Gq (N:=N) mG (fun j hj hn=>(hS.mid.inv.dead j hj hn).1) hc
   rw[this,hxs]
  rw[exs]
  refine aD (uO 0 (by decide)) ?_
  simp[show((0:Int):Rat)=0 from rfl]
  rw[hxs] at hD
  have hCi: ∀c,c<k→(pC p c).natAbs≤1000:=fun c _=>iM h.cm c
  have Yd:=hD.sum (W:=1000) hCi (by decide)
  have h72:(k+1)*(1000*Lp.lid 1000 m)≤10^72:=Nat.le_trans (Nat.mul_le_mul (show k+1≤101 by omega) (Nat.mul_le_mul_left _ (Lp.mA hml))) (by decide+kernel)
  have h66:Lp.lid 1000 m≤10^72:=Nat.le_trans (Lp.mA hml) (by decide+kernel)
  have hfS: ∀j,j≤k→few 100000 (Lp.S j fun c=>(pC p c:Rat)*xs c):=fun j hj=>Ea (Lp.fJ (Yd j hj) h72)
  have hfx: ∀c,c<k→few 100000 (xs c):=fun c hc=>Ea (Lp.fJ (hD.sm hc) h66)
  have hfC: ∀c,few 100000 (pC p c:Rat):=fun c=>Bl (k:=24) (fits_int (by have:=iM h.cm c;unfold pC;omega)) (by decide)
  have hfm: ∀c,c<k→few 100000 (xs c*(pC p c:Rat)):=fun c hc=>Ea (Lp.fJ (Lp.Og (Lp.fJ (hD.sm hc) (Lp.mA hml)) (Lp.Zq (hCi c hc) (by decide))) (by decide+kernel))
  clear Yd h72 h66
  refine aJ (fun j:Nat=> [(0,.loc gp 5 0 0),(9,.lsl gx 1 0 k),(102,.lsl gx 1 0 k),(103,.int .i64 k),(104,.int .i64 j),(13,fv (some (Lp.S j fun c=>(pC p c:Rat)*xs c)))]) (fun _=>upd b gx (some ⟨1,fxs k xs⟩)) (fun j=>j≤k) (fun j=>k - j) _ 0 (Nat.zero_le _) ⟨rfl,by simp[Lp.S],Sub.refl _⟩ ?_
  intro j hj
  have wj:IntKind.i64.wrap ((j:Int)+1)=(j:Int)+1:=i64_in (by omega) (by omega)
  refine aE ?_
  simp
  refine aE ?_
  simp
  refine⟨fun hjk=> ?_,fun hjk=> ?_⟩
  ·refine aN (aT ?_)
   refine aC ?_
   simp[hjk,px,cx,bp,bc,pgX,h.c]
   refine aD (uO (pC p j) (by have:=hCi j hjk;omega)) ?_
   simp
   refine aD (r:=fv (some (xs j*(pC p j:Rat)))) (Kl _ _ (hfx j hjk) (hfC j)) ?_
   simp
   have aKI:(Lp.S j fun c=>(pC p c:Rat)*xs c)+xs j*(pC p j:Rat)=Lp.S (j+1) fun c=>(pC p c:Rat)*xs c:=by rw[Lp.S];grind
   have hpl:=Qi _ _ (hfS j (by omega)) (hfm j hjk)
   rw[aKI] at hpl
   refine aD (r:=fv (some (Lp.S (j+1) fun c=>(pC p c:Rat)*xs c))) hpl ?_
   simp
   refine aC ?_
   simp[wj,aB]
   refine⟨j+1,by omega,by omega,rfl,by simp,Sub.refl _⟩
  ·have hje:j=k:=by omega
   subst hje
   rw[hxs]
   have hf1:frz (dropB (upd b gx (some ⟨1,fxs j xs⟩)) bl) 1 (.lsl gx 1 0 j)=some (.sl (fxs j xs)):=dW hgx (by
    cases hv:bl gx with
    | none => rfl
    | some y => have := hbl gx y hv; rw [hbx] at this; cases this) (aY _ _ _) (by simp) (aA5 _ _)
   refine aK [.int .i64 0,.lsl gx 1 0 j,fv (some (Lp.dot j (wO (pC p)) xs))] 2 (by simp;rfl) ?_ (Sc _)
   simp only[retV]
   rw[Hi]
   simp only[List.mapM_cons,List.mapM_nil,hf1,Ed]
   simp[frz]
end Go.Proofs.YticmgmemnpcbbaaGreat.Vm
