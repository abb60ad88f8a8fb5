import Derived.Test.YticmgmemnpcbbaaGreatQCFnExactExtremeOf9

namespace Go.Proofs.YticmgmemnpcbbaaGreat.Vm
open Go Go.RowKit Go.Proofs
set_option linter.unusedSimpArgs false
set_option linter.unusedVariables false
theorem Z4 {n0 m n:Nat} {E:Nat→Nat→Rat} {rows:List Nat} {w0:Nat→Rat} {T:Lp.Tab} (hml:m≤17) (hnl:n0+m≤100) (hnn:n≤n0+m) (hr:Rows m rows) (hw: ∀c,c<n0+m+1→Lp.isInt (w0 c)∧ -((1000:Nat):Rat)≤w0 c∧w0 c≤((1000:Nat):Rat)) (z:Lp.TZ m (n0+m+1) 1000 E T):Vo (snV rows n (n0+m) m w0 T):=by
 have hl:=hr.len
 refine⟨fun i c hi hc=> ?_,fun c hc=> ?_,?_,?_⟩
 ·have hi':i<rows.length:=hi
  have hin:=hr.lt (cM hi')
  exact Lp.fS (z.sm (c:=if c<n then c else n0+m) hin (by split<;>omega)) (qV hml)
 ·exact Lp.fS (z.rc hw (c:=if c<n then c else n0+m) (by split<;>omega) (by decide)) (vE hml)
 ·show n+1≤200;omega
 ·show rows.length≤100;omega
theorem Of {w j:Nat} {f g:Nat→Rat} (hj:j≤w) (h: ∀c,c<j→f c=g c):(rqs w f).take j=rqs j g:=by
 unfold rqs
 rw[←List.map_take,List.take_range,Nat.min_eq_left hj]
 exact List.map_congr_left fun c hc=>by rw[h c (by simpa using hc)]
theorem qQ {L:List Nat} (r:Nat) {z:Nat} (h:z<L.length):atR (L++ [r]) z=atR L z:=by
 unfold atR
 rw[List.getD_eq_getElem?_getD,List.getD_eq_getElem?_getD,List.getElem?_append_left h]
theorem xO {L:List Nat} (r:Nat) {l:Nat} (h:L.length=l):atR (L++ [r]) l=r:=by
 unfold atR
 rw[List.getD_eq_getElem?_getD,List.getElem?_append_right (by omega),h,Nat.sub_self];rfl
theorem Rm {r:Nat} {f g:Nat→Nat} (h: ∀z,z<r→f z=g z):lb r f=lb r g:=List.map_congr_left fun c hc=>by rw[h c (by simpa using hc)]
structure aJU where
 i:Nat
 b:Int→Option Blk
structure aDC where
 j:Nat
 d:Bool
 b:Int→Option Blk
set_option maxHeartbeats 2000000 in
theorem Q6 {bl:Int→Option Blk} {K:V→(Int→Option Blk)→Prop} (p:Pg) (n m:Nat) (h:PgN p n m) (g:SG) (T:Lp.Tab) (h4:Lp.qI n m (n+m+1) 1000 (eQ p n m) T) (hp:Lp.rc m (Lp.bE n m) T (n+m)=0) (hS:SS bl g (snV (List.range m) (n+m) (n+m) m (Lp.bE n m) T))
  (hK: ∀b' g',SS b' g' (snV (Lp.bH n (Lp.kicks n T m) m) n (n+m) m (wO (pC p)) (Lp.kicks n T m))→(∀x,x∈g'.all→bl x=none)→(∀x y,bl x=some y→x∉g.all→b' x=some y)→K (.loc g'.T 4 0 0) b'):
  bU Tryz.prog 201 [.agg p.v,.loc g.T 4 0 0] bl K:=by
 have hml:=h.ml
 have hnl:=h.nl
 have hkk:=Lp.kI (h4.lF hp) (show n≤n+m+1 by omega)
 have hrl:(List.range m).length=m:=by simp
 obtain⟨N,hN⟩: ∃N,n+m=N:=⟨_,rfl⟩
 refine cA Tryz.func201 rfl rfl (by rw[Tryz.ntmps201];simp) ?_
 rw[Tryz.ntmps201,Tryz.results201]
 refine aE ?_
 simp[Pg.v]
 intro g2 hg2 hb2
 refine cW 1 2 (.ptr p.v) bl (by intro z b hz;simp only[aA] at hz ⊢;grind) (by simp[frz,dropB,hb2,V.cl,Pg.v]) ?_
 have bT:bl g.T=some ⟨4,[[.int .i64 N,.lsl g.R 1 0 m,.lsl g.B 1 0 m,.lsl g.C 3 0 (N+1)]]⟩:=by
  have:=hS.hd
  simp only[snV,hrl] at this
  rw[←hN];exact this
 refine aN ?_
 refine aC ?_
 simp[bT]
 refine aJ (fun q:aJU=> [(1,.loc g.T 4 0 0),(2,.ptr p.v),(18,.int .i64 m),(19,.int .i64 q.i)]) (fun q=>q.b) (fun q=>q.i≤m∧SS q.b g (snV (List.range m) (n+m) (n+m) m (Lp.bE n m) (Lp.kicks n T q.i))∧ ∀x y,bl x=some y→x∉g.all→q.b x=some y) (fun q=>m - q.i) _ ⟨0,bl⟩ ⟨Nat.zero_le _,hS,fun _ _ hx _=>hx⟩ ⟨rfl,by simp[Pg.v],Sub.refl _⟩ ?_
 clear bT hS
 rintro⟨i,b⟩ ⟨hi,hSb,hfb⟩
 simp only at hi hSb hfb
 have wi:IntKind.i64.wrap ((i:Int)+1)=(i:Int)+1:=i64_in (by omega) (by omega)
 obtain⟨U,hU⟩: ∃U,Lp.kicks n T i=U:=⟨_,rfl⟩
 rw[hU] at hSb
 have hKi:=hkk i hi
 rw[hU] at hKi
 refine aE ?_
 simp
 refine aE ?_
 simp
 refine⟨fun him=> ?_,fun him=> ?_⟩
 ·have pV:Lp.kicks n T (i+1)=Lp.lF n U i:=by rw[Lp.kicks,hU]
  have hKn:=hkk (i+1) (by omega)
  rw[pV] at hKn
  refine aN (aV ?_)
  refine aE ?_
  simp
  refine aC ?_
  simp
  refine aJ (fun q:aDC=> [(1,.loc g.T 4 0 0),(2,.ptr p.v),(18,.int .i64 m),(19,.int .i64 i),(5,.int .i64 i),(6,.int .i64 q.j)]) (fun q=>q.b) (fun q=>q.j≤n∧(∀x y,bl x=some y→x∉g.all→q.b x=some y)∧((q.d=false∧ ¬ U.bs i<n∧(∀c,c<q.j→ ¬ U.X i c≠0)∧SS q.b g (snV (List.range m) (n+m) (n+m) m (Lp.bE n m) U))∨(q.d=true∧(Lp.lF n U i).bs i<n∧SS q.b g (snV (List.range m) (n+m) (n+m) m (Lp.bE n m) (Lp.lF n U i))))) (fun q=>n - q.j) _ ⟨0,decide (U.bs i<n),b⟩ ⟨Nat.zero_le _,hfb,?_⟩ ⟨rfl,by simp[Pg.v],Sub.refl _⟩ ?_
  ·by_cases e:U.bs i<n
   ·have ek:Lp.lF n U i=U:=by unfold Lp.lF;rw[if_pos e]
    exact .inr ⟨by simp[e],by rw[ek];exact e,by rw[ek];exact hSb⟩
   ·exact .inl ⟨by simp[e],e,fun c hc=>by simp only at hc;omega,hSb⟩
  clear hSb hfb
  rintro⟨j,d,b⟩ ⟨hj,hfb,hst⟩
  simp only at hj hfb hst
  have wj:IntKind.i64.wrap ((j:Int)+1)=(j:Int)+1:=i64_in (by omega) (by omega)
  rcases hst with ⟨rfl,hnb,bI,hSb⟩| ⟨rfl,hkb,hSb⟩
  ·have bT:b g.T=some ⟨4,[[.int .i64 N,.lsl g.R 1 0 m,.lsl g.B 1 0 m,.lsl g.C 3 0 (N+1)]]⟩:=by
    have:=hSb.hd
    simp only[snV,hrl] at this
    rw[←hN];exact this
   have bB:b g.B=some ⟨1,iv (lb m fun q=>U.bs (atR (List.range m) q))⟩:=by
    have:=hSb.ba
    simp only[snV,hrl] at this
    exact this
   have Y9:(i:Int)<m:=by omega
   have hge:n≤U.bs i:=by omega
   refine aN (aN ?_)
   refine uR aM (by kernel_rfl) [(1,.loc g.T 4 0 0),(2,.ptr p.v),(18,.int .i64 m),(19,.int .i64 i),(5,.int .i64 i),(6,.int .i64 j)] _ b 37 (.bool (decide (j<n))) ⟨rfl,by simp[Pg.v],Sub.refl _⟩ rfl ?_ ?_
   ·simp[Pg.v,h.aS]
    by_cases e:j<n
    ·simp[e,bT,bB,him,Y9,dO him,hge]
    ·simp[e]
   simp
   refine aC ?_
   simp
   refine⟨fun hjn=> ?_,fun hjn=> ?_⟩
   ·have hRt:SG.mk g.T g.R g.B g.C g.ids=g:=rfl
    obtain⟨gi,hgi,yQ,yP,nI⟩:=hSb.at i (show i<(List.range m).length by rw[hrl];exact him)
    obtain⟨zr,hzr⟩: ∃zr,(snV (List.range m) (n+m) (n+m) m (Lp.bE n m) U).Z i=zr:=⟨_,rfl⟩
    have aM6:b gi=some ⟨3,rqs (N+1) zr⟩:=by rw[nI,←hzr,←hN];rfl
    have bR:b g.R=some ⟨1,g.ids.map fun x=> [.lsl x 3 0 (N+1)]⟩:=by
     have:=hSb.top
     simp only[snV] at this
     rw[←hN];exact this
    have hil:g.ids.length=m:=by have:=hSb.len;simp only[snV,hrl] at this;exact this
    have hgj: ∀h,g.ids[i]'h=gi:=fun h=>by rw[List.getElem?_eq_getElem h] at hgi;exact Option.some.inj hgi
    have hjN:j<N+1:=by omega
    have aU5:(j:Int)<(N:Int)+1:=by omega
    have hzj:zr j=U.X i j:=by
     rw[←hzr]
     show U.X (atR (List.range m) i) (if j<n+m then j else n+m)=_
     rw[dO him,if_pos (by omega)]
    have htm:=Z4 hml hnl (Nat.le_refl (n+m)) (mF m) (fun c _=>uL n m c) hKi.z
    have hfz:fits (U.X i j):=by
     have:=htm.z i j (show i<(List.range m).length by rw[hrl];exact him) (show j<n+m+1 by omega)
     rw[hzr,hzj] at this
     exact cH this
    have l3: ∀q:Rat,(rq q).c.length=3:=fun _=>rfl
    have t3: ∀q:Rat,(rq q).c.take 3=(rq q).c:=fun _=>rfl
    refine aN (aV ?_)
    refine aN ?_
    refine aC ?_
    simp[bT,bR,him,Y9,hil,hgj,aM6,hjN,aU5,hzj,l3,t3]
    refine aD (gU hfz) ?_
    simp
    by_cases hz:U.X i j=0
    ·refine aC ?_
     simp[hz]
     refine aC ?_
     simp[wj,aB]
     refine⟨⟨j+1,false,b⟩,⟨by simp only;omega,hfb,.inl ⟨rfl,hge,fun c hc=> ?_,hSb⟩⟩,by simp only;omega,rfl,by simp[Pg.v],Sub.refl _⟩
     by_cases e:c=j
     ·rw[e];exact hz
     ·exact Classical.not_not.1 (bI c (by simp only at hc;omega))
    ·have ek:Lp.lF n U i=Lp.piv U i j:=by unfold Lp.lF;rw[if_neg hnb,Lp.dN.2 ⟨hjn,hz,bI⟩]
     have hat:=dO him
     obtain⟨p1,p2,p3⟩:=Hb (n0:=n) (n:=n+m) (w0:=Lp.bE n m) (T:=U) (mF m) (pr:=i) (k:=j) (by rw[hrl];exact him) (by omega) (by rw[hat];exact hz)
     rw[hat] at p1 p2 p3
     have aCJ:=Z4 hml hnl (Nat.le_refl (n+m)) (mF m) (fun c _=>uL n m c) hKn.z
     rw[ek] at aCJ
     refine aC ?_
     simp[hz]
     refine xK g (snV (List.range m) (n+m) (n+m) m (Lp.bE n m) U) i j hSb (show i<(List.range m).length by rw[hrl];exact him) (show j<n+m+1 by omega) htm (by rw[hzr,hzj];exact hz) ⟨fun a c ha hc=> ?_,fun c hc=> ?_,htm.w,htm.r⟩ fun b' hS' hx'=> ?_
     ·show oU (zpv _ i j a c)
      rw[p1 a c ha];exact aCJ.z a c ha hc
     ·show oU (cpv _ _ i j c)
      rw[p2 c];exact aCJ.co c hc
     simp
     refine aC ?_
     simp[wj,aB]
     refine⟨⟨j+1,true,b'⟩,⟨by simp only;omega,fun x y g1 g2=>hx' x y (hfb x y g1 g2) g2,.inr ⟨rfl,by rw[ek,Lp.dU];exact hjn,?_⟩⟩,by simp only;omega,rfl,by simp[Pg.v],Sub.refl _⟩
     rw[ek]
     exact hS'.congr (fun q c hq _=>p1 q c hq) (fun c _=>p2 c) (fun q hq=>p3 q hq)
   ·have hje:j=n:=by omega
    have ek:Lp.lF n U i=U:=by
     unfold Lp.lF
     rw[if_neg hnb,Lp.eV.2 fun c hc=>bI c (by omega)]
    refine aC ?_
    simp[wi,aB]
    refine⟨⟨i+1,b⟩,⟨by simp only;omega,by simp only;rw[pV,ek];exact hSb,hfb⟩,by simp only;omega,rfl,by simp[Pg.v],Sub.refl _⟩
  ·have bT:b g.T=some ⟨4,[[.int .i64 N,.lsl g.R 1 0 m,.lsl g.B 1 0 m,.lsl g.C 3 0 (N+1)]]⟩:=by
    have:=hSb.hd
    simp only[snV,hrl] at this
    rw[←hN];exact this
   have bB:b g.B=some ⟨1,iv (lb m fun q=>(Lp.lF n U i).bs (atR (List.range m) q))⟩:=by
    have:=hSb.ba
    simp only[snV,hrl] at this
    exact this
   have Y9:(i:Int)<m:=by omega
   have hlt: ¬ n≤(Lp.lF n U i).bs i:=by omega
   refine aN (aN ?_)
   refine uR aM (by kernel_rfl) [(1,.loc g.T 4 0 0),(2,.ptr p.v),(18,.int .i64 m),(19,.int .i64 i),(5,.int .i64 i),(6,.int .i64 j)] _ b 37 (.bool false) ⟨rfl,by simp[Pg.v],Sub.refl _⟩ rfl ?_ ?_
   ·simp[Pg.v,h.aS]
    by_cases e:j<n
    ·simp[e,bT,bB,him,Y9,dO him,hlt]
     try omega
    ·simp[e]
   simp
   refine aC ?_
   simp
   refine aC ?_
   simp[wi,aB]
   refine⟨⟨i+1,b⟩,⟨by simp only;omega,by simp only;rw[pV];exact hSb,hfb⟩,by simp only;omega,rfl,by simp[Pg.v],Sub.refl _⟩
 ·have hie:i=m:=by omega
  subst hie
  clear him hi wi
  obtain⟨rows,mP⟩: ∃rows,Lp.bH n (Lp.kicks n T i) i=rows:=⟨_,rfl⟩
  rw[mP] at hK
  rw[hU] at hK mP
  have mY:=vM n i U
  have hRl:(List.range i).length=i:=hrl
  have hin: ∀x,x∈g.all→ ∃y,b x=some y:=fun x hx=>by
   simp only[SG.all,List.mem_cons] at hx
   rcases hx with rfl | rfl | rfl | rfl | hx
   ·exact⟨_,hSb.hd⟩
   ·exact⟨_,hSb.top⟩
   ·exact⟨_,hSb.ba⟩
   ·exact⟨_,hSb.cst⟩
   ·obtain⟨q,hq⟩:=List.mem_iff_getElem?.1 hx
    exact⟨_,hSb.row q x hq⟩
  have frB: ∀x,b x=none→bl x=none:=fun x hx=>by
   cases hv:bl x with
   | none => rfl
   | some y =>
     by_cases e:x∈g.all
     ·obtain⟨z,hz⟩:=hin x e
      rw[hx] at hz;cases hz
     ·have:=hfb x y hv e
      rw[hx] at this;cases this
  have bT0:b g.T=some ⟨4,[[.int .i64 N,.lsl g.R 1 0 i,.lsl g.B 1 0 i,.lsl g.C 3 0 (N+1)]]⟩:=by
   have:=hSb.hd
   simp only[snV,hrl] at this
   rw[←hN];exact this
  have bR0:b g.R=some ⟨1,g.ids.map fun x=> [.lsl x 3 0 (N+1)]⟩:=by
   have:=hSb.top
   simp only[snV] at this
   rw[←hN];exact this
  have bB0:b g.B=some ⟨1,iv (lb i fun q=>U.bs (atR (List.range i) q))⟩:=by
   have:=hSb.ba
   simp only[snV,hrl] at this
   exact this
  have hil:g.ids.length=i:=by have:=hSb.len;simp only[snV,hrl] at this;exact this
  have aUR: ∀q x,g.ids[q]? =some x→b x=some ⟨3,rqs (N+1) fun c=>U.X q (if c<N then c else N)⟩:=fun q x hq=>by
   have hqi:q<i:=by rw[←hil];exact(List.getElem?_eq_some_iff.1 hq).1
   rw[hSb.row q x hq]
   simp only[snV]
   rw[hN,dO hqi]
  obtain⟨w,hw⟩: ∃w,wO (pC p)=w:=⟨_,rfl⟩
  rw[hw] at hK
  have hwi: ∀c,w c=((pC p c:Int):Rat):=fun c=>by rw[←hw];rfl
  have hpc: ∀c,(pC p c).natAbs≤1000:=fun c=>jT h.cm c
  refine aE ?_
  simp[Pg.v,h.aS]
  intro gT hgT hbT
  refine dH [(1,.loc g.T 4 0 0),(2,.ptr p.v),(7,.loc gT 4 0 0)] 179 (upd b gT (some ⟨4,[[.int .i64 n,.nils,.nils,.nils]]⟩)) ⟨rfl,by simp[Pg.v,h.aS],sub_eq (by simp)⟩ ?_
  refine cY (g:=gT) (s:=4) (els:= [[.int .i64 n,.nils,.nils,.nils]]) 0 1 1 (by simp) rfl rfl fun gR hgR hRT=> ?_
  simp[hRT] at hgR
  refine cY (g:=gT) (s:=4) (els:= [[.int .i64 n,.lsl gR 1 0 0,.nils,.nils]]) 0 2 1 (by simp[Ne.symm hRT]) rfl rfl fun gB hgB hBT=> ?_
  simp[hBT] at hgB
  obtain⟨hBR,hgB⟩:=hgB
  refine cY (g:=gT) (s:=4) (els:= [[.int .i64 n,.lsl gR 1 0 0,.lsl gB 1 0 0,.nils]]) 0 3 3 (by simp[Ne.symm hBT]) rfl rfl fun gC hgC hCT=> ?_
  simp[hCT] at hgC
  obtain⟨hCB,hCR,hgC⟩:=hgC
  obtain⟨b1,hb1⟩: ∃b1,b1=upd (upd (upd (upd (upd (upd (upd b gT (some ⟨4,[[.int .i64 n,.nils,.nils,.nils]]⟩)) gT (some ⟨4,[[.int .i64 n,.lsl gR 1 0 0,.nils,.nils]]⟩)) gR (some ⟨1,[]⟩)) gT (some ⟨4,[[.int .i64 n,.lsl gR 1 0 0,.lsl gB 1 0 0,.nils]]⟩)) gB (some ⟨1,[]⟩)) gT (some ⟨4,[[.int .i64 n,.lsl gR 1 0 0,.lsl gB 1 0 0,.lsl gC 3 0 0]]⟩)) gC (some ⟨3,[]⟩):=⟨_,rfl⟩
  have b1T:b1 gT=some ⟨4,[[.int .i64 n,.lsl gR 1 0 0,.lsl gB 1 0 0,.lsl gC 3 0 0]]⟩:=by rw[hb1];simp[Ne.symm hCT]
  have b1R:b1 gR=some ⟨1,[]⟩:=by rw[hb1];simp[Ne.symm hCR,hRT,Ne.symm hBR]
  have b1B:b1 gB=some ⟨1,[]⟩:=by rw[hb1];simp[Ne.symm hCB,hBT]
  have b1C:b1 gC=some ⟨3,rqs 0 w⟩:=by rw[hb1];simp[rqs]
  have s1:Sub b b1:=fun x y hx=>by
   have x1:x≠gT:=fun e=>by rw[e,hbT] at hx;cases hx
   have x2:x≠gR:=fun e=>by rw[e,hgR] at hx;cases hx
   have x3:x≠gB:=fun e=>by rw[e,hgB] at hx;cases hx
   have x4:x≠gC:=fun e=>by rw[e,hgC] at hx;cases hx
   rw[hb1];simp[x1,x2,x3,x4,hx]
  refine dH [(1,.loc g.T 4 0 0),(2,.ptr p.v),(7,.loc gT 4 0 0)] 179 b1 ⟨rfl,by simp,by rw[hb1];exact sub_eq (by simp)⟩ ?_
  clear hb1
  refine aN ?_
  refine aC ?_
  simp
  refine aJ (fun q:Mx=> [(1,.loc g.T 4 0 0),(2,.ptr p.v),(7,.loc gT 4 0 0),(8,.int .i64 q.j)]) (fun q=>q.b) (fun q=>q.j≤n∧q.b gT=some ⟨4,[[.int .i64 n,.lsl gR 1 0 0,.lsl gB 1 0 0,.lsl q.gC 3 0 q.j]]⟩∧q.b gR=some ⟨1,[]⟩∧q.b gB=some ⟨1,[]⟩∧q.b q.gC=some ⟨3,rqs q.j w⟩∧(q.gC≠gT∧q.gC≠gR∧q.gC≠gB∧b q.gC=none)∧Sub b q.b) (fun q=>n - q.j) _ ⟨0,gC,b1⟩ ⟨Nat.zero_le _,b1T,b1R,b1B,b1C,⟨hCT,hCR,hCB,hgC⟩,s1⟩ ⟨rfl,by simp,Sub.refl _⟩ ?_
  clear s1 b1T b1R b1B b1C hgC hCB hCR hCT
  rintro⟨j,gC,c⟩ ⟨hj,cT,cR,cB,cC,⟨nCT,nCR,nCB,cbl⟩,hsb⟩
  simp only at hj cT cR cB cC nCT nCR nCB cbl hsb
  have wj:IntKind.i64.wrap ((j:Int)+1)=(j:Int)+1:=i64_in (by omega) (by omega)
  refine aN ?_
  refine aC ?_
  simp[Pg.v,h.aS]
  refine⟨fun hjn=> ?_,fun hjn=> ?_⟩
  ·refine aN (aV ?_)
   have hR0:=dZ (pC p j) (by have:=hpc j;omega)
   rw[←hwi] at hR0
   refine dA aM (rem c gC) (dC c gC) [0,1,2,3,4,5,6,7,8,9,10] 5 15 (by kernel_rfl) ?_
   simp[Ne.symm nCT,cT,Pg.v,h.c,hjn]
   refine aO hR0 ?_
   simp
   refine Dq 11 false ?_
   simp[RT.c]
   intro g4 hg4 hb4
   have n4T:g4≠gT:=fun e=>by rw[e,cT] at hb4;cases hb4
   have n4R:g4≠gR:=fun e=>by rw[e,cR] at hb4;cases hb4
   have n4B:g4≠gB:=fun e=>by rw[e,cB] at hb4;cases hb4
   have n4C:g4≠gC:=fun e=>by rw[e,cC] at hb4;cases hb4
   have rZ: ∀X,Sub (rem c gC) (upd c g4 X):=fun X z y hz=>by
    rw[aF] at hz
    rw[aA]
    grind
   refine⟨rZ _,Dq 12 false ?_⟩
   have tkC:(rqs j w).take j=rqs j w:=List.take_of_length_le (by simp)
   simp[n4C,Ne.symm n4C,appV,elsV,Int.not_lt.2 hg4,cC,tkC]
   have hsn:rqs j w++ [[V.bool (rq (w j)).neg,.sl (iv (rq (w j)).m),.sl (iv (rq (w j)).d)]]=rqs (j+1) w:=by rw[kT];rfl
   rw[hsn]
   refine⟨by omega,fun gN hgN hbN=> ?_⟩
   have nN:gN≠gT∧gN≠gR∧gN≠gB∧gN≠g4:=by
    by_cases e:gN=gC
    ·subst e
     exact⟨nCT,nCR,nCB,Ne.symm n4C⟩
    ·obtain⟨q1,q2⟩:=hbN e
     exact⟨fun e=>(by rw[e,cT] at q2;cases q2),fun e=>(by rw[e,cR] at q2;cases q2),fun e=>(by rw[e,cB] at q2;cases q2),q1⟩
   obtain⟨nNT,nNR,nNB,nN4⟩:=nN
   have blN:b gN=none:=by
    by_cases e:gN=gC
    ·rw[e];exact cbl
    ·cases hv:b gN with
     | none => rfl
     | some y => have := hsb gN y hv; rw [(hbN e).2] at this; cases this
   have iE: ∀X Y,Sub (rem c gC) (upd (rem (upd c g4 X) gC) gN Y):=fun X Y z y hz=>by
    rw[aF] at hz
    rw[aA,aF,aA]
    grind
   have lE: ∀X Y Z,Sub (upd (upd (rem c gC) gN Y) gT Z) (upd (upd (rem (upd c g4 X) gC) gN Y) gT Z):=fun X Y Z z y hz=>by
    simp only[aA,aF] at hz ⊢
    grind
   refine⟨iE _ _,Dq 13 false ?_⟩
   simp
   refine⟨iE _ _,Dq 14 false ?_⟩
   simp
   refine⟨iE _ _,Dq 15 true ?_⟩
   simp[Ne.symm nNT,Ne.symm nCT,n4T,Ne.symm n4T,cT]
   refine Dd ?_
   simp
   refine aC ?_
   simp[wj,aB]
   obtain⟨b2,hb2⟩: ∃b2,b2=upd (upd (rem c gC) gN (some ⟨3,rqs (j+1) w⟩)) gT (some ⟨4,[[.int .i64 n,.lsl gR 1 0 0,.lsl gB 1 0 0,.lsl gN 3 0 (j+1)]]⟩):=⟨_,rfl⟩
   refine⟨⟨j+1,gN,b2⟩,⟨by simp only;omega,by rw[hb2];simp,by rw[hb2];simp[hRT,Ne.symm nNR,Ne.symm nCR,cR],by rw[hb2];simp[hBT,Ne.symm nNB,Ne.symm nCB,cB],by rw[hb2];simp[nNT],⟨nNT,nNR,nNB,blN⟩,fun x y hx=> ?_⟩,by simp only;omega,rfl,by simp[Pg.v,h.aS,h.c],by rw[hb2];exact lE _ _ _⟩
   have x1:x≠gT:=fun e=>by rw[e,hbT] at hx;cases hx
   have x2:x≠gN:=fun e=>by rw[e,blN] at hx;cases hx
   have x3:x≠gC:=fun e=>by rw[e,cbl] at hx;cases hx
   simp only
   rw[hb2];simp[x1,x2,x3];exact hsb x y hx
  have Tl:j=n:=by omega
  subst Tl
  have hwN:w (j+i)=0:=by
   rw[hwi,show pC p (j+i)=0 by unfold pC;rw[List.getD_eq_getElem?_getD,List.getElem?_eq_none (by have:=h.cl;omega)];rfl];rfl
  obtain⟨ph,hph⟩: ∃ph:Nat→Nat,ph=fun c=>if c<j then c else j+i:=⟨_,rfl⟩
  have hpl: ∀c,c<j→ph c=c:=fun c hc=>by rw[hph];simp only;rw[if_pos hc]
  have hpn:ph j=j+i:=by rw[hph];simp only;rw[if_neg (by omega)]
  have hR0:=dZ 0 (by decide)
  rw[show(((0:Int):Rat))=w (ph j) by rw[hpn,hwN];rfl] at hR0
  refine aN ?_
  refine dA aM (rem c gC) (dC c gC) [0,1,2,3,4,5] 5 10 (by kernel_rfl) ?_
  simp[Ne.symm nCT,cT]
  refine aO hR0 ?_
  simp
  refine Dq 6 false ?_
  simp[RT.c]
  intro g4 hg4 hb4
  have n4T:g4≠gT:=fun e=>by rw[e,cT] at hb4;cases hb4
  have n4R:g4≠gR:=fun e=>by rw[e,cR] at hb4;cases hb4
  have n4B:g4≠gB:=fun e=>by rw[e,cB] at hb4;cases hb4
  have n4C:g4≠gC:=fun e=>by rw[e,cC] at hb4;cases hb4
  have rZ: ∀X,Sub (rem c gC) (upd c g4 X):=fun X z y hz=>by
   rw[aF] at hz
   rw[aA]
   grind
  refine⟨rZ _,Dq 7 false ?_⟩
  have tkC:(rqs j w).take j=rqs j w:=List.take_of_length_le (by simp)
  simp[n4C,Ne.symm n4C,appV,elsV,Int.not_lt.2 hg4,cC,tkC]
  obtain⟨j1,hj1⟩: ∃j1,j+1=j1:=⟨_,rfl⟩
  have hsn:rqs j w++ [[V.bool (rq (w (ph j))).neg,.sl (iv (rq (w (ph j))).m),.sl (iv (rq (w (ph j))).d)]]=rqs j1 fun c=>w (ph c):=by
   rw[←hj1,kT,bP (f:=fun c=>w (ph c)) (g:=w) fun c hc=>by rw[hpl c hc]];rfl
  rw[hsn,hj1]
  refine⟨by omega,fun gN hgN hbN=> ?_⟩
  have nN:gN≠gT∧gN≠gR∧gN≠gB∧gN≠g4:=by
   by_cases e:gN=gC
   ·subst e
    exact⟨nCT,nCR,nCB,Ne.symm n4C⟩
   ·obtain⟨q1,q2⟩:=hbN e
    exact⟨fun e=>(by rw[e,cT] at q2;cases q2),fun e=>(by rw[e,cR] at q2;cases q2),fun e=>(by rw[e,cB] at q2;cases q2),q1⟩
  obtain⟨nNT,nNR,nNB,nN4⟩:=nN
  have blN:b gN=none:=by
   by_cases e:gN=gC
   ·rw[e];exact cbl
   ·cases hv:b gN with
    | none => rfl
    | some y => have := hsb gN y hv; rw [(hbN e).2] at this; cases this
  have iE: ∀X Y,Sub (rem c gC) (upd (rem (upd c g4 X) gC) gN Y):=fun X Y z y hz=>by
   rw[aF] at hz
   rw[aA,aF,aA]
   grind
  have lE: ∀X Y Z,Sub (upd (upd (rem c gC) gN Y) gT Z) (upd (upd (rem (upd c g4 X) gC) gN Y) gT Z):=fun X Y Z z y hz=>by
   simp only[aA,aF] at hz ⊢
   grind
  refine⟨iE _ _,Dq 8 false ?_⟩
  simp
  refine⟨iE _ _,Dq 9 false ?_⟩
  simp
  refine⟨iE _ _,Dq 10 true ?_⟩
  simp[Ne.symm nNT,Ne.symm nCT,n4T,Ne.symm n4T,cT]
  refine Dd ?_
  simp
  obtain⟨b2,hb2⟩: ∃b2,b2=upd (upd (rem c gC) gN (some ⟨3,rqs j1 fun c=>w (ph c)⟩)) gT (some ⟨4,[[.int .i64 j,.lsl gR 1 0 0,.lsl gB 1 0 0,.lsl gN 3 0 j1]]⟩):=⟨_,rfl⟩
  have hS2:SS b2 ⟨gT,gR,gB,gN,[]⟩ ⟨0,j1,j,fun q c=>U.X (atR [] q) (ph c),fun c=>w (ph c),fun q=>U.bs (atR [] q)⟩:=by
   refine⟨rfl,by rw[hb2];simp[hRT,Ne.symm nNR,Ne.symm nCR,cR],fun q x hx=>(by cases hx),fun x hx=>(by cases hx),by rw[hb2];simp,by rw[hb2];simp[hBT,Ne.symm nNB,Ne.symm nCB,cB,lb,iv],by rw[hb2];simp[nNT],hgT,fun _=>rfl,fun _=>rfl,hgN,?_⟩
   simp[SG.all];grind
  have s2:Sub b b2:=fun x y hx=>by
   have x1:x≠gT:=fun e=>by rw[e,hbT] at hx;cases hx
   have x2:x≠gN:=fun e=>by rw[e,blN] at hx;cases hx
   have x3:x≠gC:=fun e=>by rw[e,cbl] at hx;cases hx
   rw[hb2];simp[x1,x2,x3];exact hsb x y hx
  have aLJ: ∀x,x∈SG.all ⟨gT,gR,gB,gN,[]⟩→b x=none:=by simp[SG.all,hbT,hgR,hgB,blN]
  refine dH [(1,.loc g.T 4 0 0),(2,.ptr p.v),(7,.loc gT 4 0 0)] 179 b2 ⟨rfl,by simp[Pg.v,h.aS],by rw[hb2];exact lE _ _ _⟩ ?_
  clear hb2 lE iE hsn tkC rZ hsb cbl nCB nCR nCT cC cB cR cT wj hj hbN blN
  have aN9:b2 g.T=_:=s2 _ _ bT0
  refine aN ?_
  refine aC ?_
  simp[aN9]
  refine aJ (fun q:Rg=> [(1,.loc g.T 4 0 0),(2,.ptr p.v),(7,.loc gT 4 0 0),(95,.lsl g.R 1 0 i),(96,.int .i64 i),(97,.int .i64 q.i)]) (fun q=>q.b) (fun q=>q.i≤i∧SS q.b q.g ⟨(Lp.bH j U q.i).length,j1,j,fun z c=>U.X (atR (Lp.bH j U q.i) z) (ph c),fun c=>w (ph c),fun z=>U.bs (atR (Lp.bH j U q.i) z)⟩∧q.g.T=gT∧(∀x,x∈q.g.all→b x=none)∧Sub b q.b) (fun q=>i - q.i) _ ⟨0,⟨gT,gR,gB,gN,[]⟩,b2⟩ ⟨Nat.zero_le _,hS2,rfl,aLJ,s2⟩ ⟨rfl,by simp[Pg.v,h.aS],Sub.refl _⟩ ?_
  clear hS2 aLJ s2 aN9
  clear hg4 n4T n4R n4B n4C nNT nNR nNB nN4
  rintro⟨r,⟨gT',gR',gB',gC',ids⟩,b'⟩ ⟨hri,hS,e1,hal,hsb⟩
  simp only at hri hS e1 hsb
  subst e1
  have hal: ∀x,x∈SG.all ⟨gT',gR',gB',gC',ids⟩→b x=none:=hal
  have wr:IntKind.i64.wrap ((r:Int)+1)=(r:Int)+1:=i64_in (by omega) (by omega)
  have b'T:b' g.T=_:=hsb _ _ bT0
  have b'R:b' g.R=_:=hsb _ _ bR0
  have b'B:b' g.B=_:=hsb _ _ bB0
  refine aE ?_
  simp
  refine aE ?_
  simp
  refine⟨fun him=> ?_,fun him=> ?_⟩
  ·refine aN (aV ?_)
   have Y9:(r:Int)<i:=by omega
   obtain⟨gi,hgi⟩: ∃gi,g.ids[r]? =some gi:=⟨_,List.getElem?_eq_getElem (show r<g.ids.length by omega)⟩
   have hgj: ∀h,g.ids[r]'h=gi:=fun h=>by rw[List.getElem?_eq_getElem h] at hgi;exact Option.some.inj hgi
   have nI:=aUR r gi hgi
   have yP:0≤gi:=hSb.pos gi (List.mem_of_getElem? hgi)
   have b'i:b' gi=_:=hsb _ _ nI
   refine aE ?_
   simp[b'R,him,Y9,hil,hgj]
   refine aN ?_
   refine bW aM (by kernel_rfl) ?_
   simp[b'T,b'B,Pg.v,h.aS,him,Y9,dO him]
   obtain⟨L,hL⟩: ∃L,Lp.bH j U r=L:=⟨_,rfl⟩
   have hls:=wV j r U
   rw[hL] at hS hls
   refine aC ?_
   simp
   refine⟨fun M6=> ?_,fun Xz=> ?_⟩
   ·have aCL:U.bs r<j:=by omega
    rw[if_pos aCL] at hls
    have aX9: ∀x,x∈SG.all ⟨gT',gR',gB',gC',ids⟩→ ∃y,b' x=some y:=fun x hx=>by
     simp only[SG.all,List.mem_cons] at hx
     rcases hx with rfl | rfl | rfl | rfl | hx
     ·exact⟨_,hS.hd⟩
     ·exact⟨_,hS.top⟩
     ·exact⟨_,hS.ba⟩
     ·exact⟨_,hS.cst⟩
     ·obtain⟨q,hq⟩:=List.mem_iff_getElem?.1 hx
      exact⟨_,hS.row q x hq⟩
    intro g5 hg5 hb5
    have n5i:g5≠gi:=fun e=>by rw[e,b'i] at hb5;cases hb5
    have hjN: ¬ (N:Int)+1<j:=by omega
    have aJC:j≤N+1:=by omega
    have aTI:(j:Int)≤(N:Int)+1:=by omega
    have tkw:(rqs (N+1) fun c=>U.X r (if c<N then c else N)).take j=rqs j fun c=>U.X r c:=Of aJC fun c hc=>by rw[if_pos (by omega)]
    simp[Pg.v,h.aS,sliV,appV,elsV,n5i,Ne.symm n5i,b'i,Int.not_lt.2 hg5,hjN,aJC,aTI,tkw,yP,Int.not_lt.2 yP]
    refine⟨by omega,fun gw hgw hbw=> ?_⟩
    have bw:b' gw=none:=by
     by_cases e:gw=g5
     ·rw[e];exact hb5
     ·exact(hbw e).2
    obtain⟨l,hl⟩: ∃l,L.length=l:=⟨_,rfl⟩
    rw[hl] at hS
    obtain⟨bx,hbx⟩: ∃bx,bx=upd b' gw (some ⟨3,rqs j fun c=>U.X r c⟩):=⟨_,rfl⟩
    refine dH [(1,.loc g.T 4 0 0),(2,.ptr p.v),(7,.loc gT' 4 0 0),(95,.lsl g.R 1 0 i),(96,.int .i64 i),(97,.int .i64 r),(9,.int .i64 r),(10,.lsl gi 3 0 (N+1)),(11,.lsl gw 3 0 j)] 179 bx ⟨rfl,by simp[Pg.v,h.aS],?_⟩ ?_
    ·rw[hbx]
     intro z y hz
     simp only[aA,aF] at hz ⊢
     grind
    clear hbw hgj hgi
    have Bu: ∀x y,b' x=some y→x≠gw:=fun x y hx e=>by rw[e,bw] at hx;cases hx
    have old: ∀x y,b x=some y→x≠gT'∧x≠gR'∧x≠gB'∧x≠gC':=fun x y hx=>
     ⟨fun e=>(by rw[e,hal gT' (by simp[SG.all])] at hx;cases hx),fun e=>(by rw[e,hal gR' (by simp[SG.all])] at hx;cases hx),fun e=>(by rw[e,hal gB' (by simp[SG.all])] at hx;cases hx),fun e=>(by rw[e,hal gC' (by simp[SG.all])] at hx;cases hx)⟩
    obtain⟨oTT,oTR,oTB,oTC⟩:=old _ _ bT0
    obtain⟨oBT,oBR,oBB,oBC⟩:=old _ _ bB0
    obtain⟨iT,iR,iB,iC⟩:=old _ _ nI
    have nd:=hS.nd
    simp only[SG.all,List.nodup_cons,List.mem_cons,not_or] at nd
    obtain⟨⟨nTR,nTB,nTC,nTi⟩,⟨nRB,nRC,nRi⟩,⟨nBC,nBi⟩,nCi,nds⟩:=nd
    have Kt:=hS.len
    have E0:b' gT'=_:=hS.hd
    have T4:b' gR'=_:=hS.top
    have I9:b' gB'=_:=hS.ba
    simp only at Kt E0 T4 I9
    have wT:=Bu _ _ E0
    have wR:=Bu _ _ T4
    have wB:=Bu _ _ I9
    have wC:=Bu _ _ hS.cst
    simp only at wC
    have wT0:=Bu _ _ b'T
    have wi:=Bu _ _ b'i
    have wB0:=Bu _ _ b'B
    have wI:gw∉ids:=fun e=>by
     obtain⟨q,hq⟩:=List.mem_iff_getElem?.1 e
     exact Bu _ _ (hS.row q gw hq) rfl
    have xx: ∀x,x≠gw→bx x=b' x:=fun x hx=>by rw[hbx,aG _ _ _ _ hx]
    have xT:bx g.T=_:=(xx _ wT0).trans b'T
    have xi:bx gi=_:=(xx _ wi).trans b'i
    have xB:bx g.B=_:=(xx _ wB0).trans b'B
    have xT':bx gT'=_:=(xx _ wT).trans E0
    have xR':bx gR'=_:=(xx _ wR).trans T4
    have xB':bx gB'=_:=(xx _ wB).trans I9
    have xw:bx gw=some ⟨3,rqs j fun c=>U.X r c⟩:=by rw[hbx];simp
    clear hbx
    have aLN: ∀x,bx x=none→x≠gT'∧x≠gR'∧x≠gB'∧x≠gC'∧x≠gw∧x∉ids∧x≠g.T∧x≠g.B∧x≠gi∧b' x=none:=fun x hx=>by
     have q0:x≠gw:=fun e=>by rw[e,xw] at hx;cases hx
     have q1:b' x=none:=by rw[←xx x q0];exact hx
     have nx: ∀y,b' y≠none→x≠y:=fun y hy e=>hy (e▸q1)
     refine⟨nx _ (by rw[E0];simp),nx _ (by rw[T4];simp),nx _ (by rw[I9];simp),nx _ (by rw[show b' gC'=_ from hS.cst];simp),q0,fun e=> ?_,nx _ (by rw[b'T];simp),nx _ (by rw[b'B];simp),nx _ (by rw[b'i];simp),q1⟩
     obtain⟨q,hq⟩:=List.mem_iff_getElem?.1 e
     rw[hS.row q x hq] at q1;cases q1
    refine dA aM (rem (rem bx gw) gR') (fun x y hx=>dC bx gw x y (dC _ gR' x y hx)) [0,1,2,3,4,5,6,7,8,9,10,11,12] 7 19 (by kernel_rfl) ?_
    have l3: ∀q:Rat,(rq q).c.length=3:=fun _=>rfl
    have t3: ∀q:Rat,(rq q).c.take 3=(rq q).c:=fun _=>rfl
    have hN1:(N:Int)<(N:Int)+1:=by omega
    simp[nTR,wT,oTR,wT0,iR,wi,xT,xT',xi,l3,t3,hN1]
    refine Dq 13 false ?_
    simp[RT.c]
    intro g4 hg4 hb4
    obtain⟨n4T,n4R,n4B,n4C,n4w,n4i,aXJ,aYK,aXB,n4b⟩:=aLN g4 hb4
    refine⟨(by intro z y hz;simp only[aA,aF] at hz ⊢;grind),Dq 14 false ?_⟩
    have tkC:(rqs j fun c=>U.X r c).take j=rqs j fun c=>U.X r c:=List.take_of_length_le (by simp)
    simp[n4w,Ne.symm n4w,appV,elsV,Int.not_lt.2 hg4,xw,tkC]
    have hsn:(rqs j fun c=>U.X r c)++ [[V.bool (rq (U.X r N)).neg,.sl (iv (rq (U.X r N)).m),.sl (iv (rq (U.X r N)).d)]]=rqs j1 fun c=>U.X r (ph c):=by
     rw[←hj1,kT,bP (f:=fun c=>U.X r (ph c)) (g:=fun c=>U.X r c) fun c hc=>by rw[hpl c hc],hpn,hN];rfl
    rw[hsn,hj1]
    refine⟨by omega,fun gN hgN hbN=> ?_⟩
    have nN:gN≠gT'∧gN≠gR'∧gN≠gB'∧gN≠gC'∧gN∉ids∧gN≠g4∧b' gN=none:=by
     by_cases e:gN=gw
     ·subst e
      exact⟨Ne.symm wT,Ne.symm wR,Ne.symm wB,Ne.symm wC,wI,Ne.symm n4w,bw⟩
     ·obtain⟨q1,q2⟩:=hbN e
      obtain⟨m1,m2,m3,m4,_,m6,_,_,_,m9⟩:=aLN gN q2
      exact⟨m1,m2,m3,m4,m6,q1,m9⟩
    obtain⟨nNT,nNR,nNB,nNC,nNi,nN4,nNb⟩:=nN
    obtain⟨y,hy⟩: ∃y,y=upd (rem (upd bx g4 (some { sz:=3,els:= [[V.bool (rq (U.X r N)).neg,V.sl (iv (rq (U.X r N)).m),V.sl (iv (rq (U.X r N)).d)]] })) gw) gN (some { sz:=3,els:=rqs j1 fun c=>U.X r (ph c) }):=⟨_,rfl⟩
    have yN:y gN=some ⟨3,rqs j1 fun c=>U.X r (ph c)⟩:=by rw[hy];simp
    have yx: ∀x,b' x≠none→x≠gN→y x=b' x:=fun x hx hn=>by
     have q1:x≠gw:=fun e=>hx (e▸bw)
     have q2:x≠g4:=fun e=>hx (e▸n4b)
     rw[hy,aG _ _ _ _ hn,aF,if_neg q1,aG _ _ _ _ q2,xx x q1]
    have yT':y gT'=_:=(yx _ (by rw[E0];simp) (Ne.symm nNT)).trans E0
    have yR':y gR'=_:=(yx _ (by rw[T4];simp) (Ne.symm nNR)).trans T4
    have yB':y gB'=_:=(yx _ (by rw[I9];simp) (Ne.symm nNB)).trans I9
    have Tu:Sub (rem (rem bx gw) gR') y:=by
     intro z v hz
     rw[hy]
     simp only[aA,aF] at hz ⊢
     by_cases e:gN=gw
     ·grind
     ·have:=hbN e
      grind
    rw[←hy]
    refine⟨Tu,Dq 15 false ?_⟩
    simp
    intro g6 hg6 hb6
    have n6:g6≠gT'∧g6≠gR'∧g6≠gB'∧g6≠gN:=⟨fun e=>(by rw[e,yT'] at hb6;cases hb6),fun e=>(by rw[e,yR'] at hb6;cases hb6),fun e=>(by rw[e,yB'] at hb6;cases hb6),fun e=>(by rw[e,yN] at hb6;cases hb6)⟩
    obtain⟨n6T,n6R,n6B,n6N⟩:=n6
    refine⟨fun z v hz=>(by rw[aG _ _ _ _ (fun e=>by rw[e] at hz;have:=Tu _ _ hz;rw[hb6] at this;cases this)];exact Tu z v hz),Dq 16 false ?_⟩
    have tk:(ids.map fun x=> [V.lsl x 3 0 j1]).take l=ids.map fun x=> [V.lsl x 3 0 j1]:=List.take_of_length_le (by simp[Kt])
    simp[n6R,Ne.symm n6R,appV,elsV,Int.not_lt.2 hg6,yR',tk,Kt]
    have hlr:l≤r:=by rw[←hl,←hL];exact Nat.le_trans (List.length_filter_le _ _) (by simp)
    have Ks: ∀x,y x=none→b' x=none:=fun x hx=>by
     cases hv:b' x with
     | none => rfl
     | some v =>
       by_cases e:x=gN
       ·rw[e,yN] at hx;cases hx
       ·rw[yx x (by rw[hv];simp) e,hv] at hx;cases hx
    refine⟨by omega,fun gQ hgQ hbQ=> ?_⟩
    have nQ:gQ≠gT'∧gQ≠gB'∧gQ≠gC'∧gQ≠gN∧gQ∉ids∧gQ≠g6∧(gQ=gR'∨b' gQ=none):=by
     by_cases e:gQ=gR'
     ·subst e
      exact⟨Ne.symm nTR,nRB,nRC,Ne.symm nNR,nRi,Ne.symm n6R,.inl rfl⟩
     ·obtain⟨q1,q2⟩:=hbQ e
      have q3:=Ks gQ q2
      have nx: ∀y,b' y≠none→gQ≠y:=fun y hy e=>hy (e▸q3)
      refine⟨nx _ (by rw[E0];simp),nx _ (by rw[I9];simp),nx _ (by rw[show b' gC'=_ from hS.cst];simp),fun e2=>(by rw[e2,yN] at q2;cases q2),fun e2=> ?_,q1,.inr q3⟩
      obtain⟨q,hq⟩:=List.mem_iff_getElem?.1 e2
      rw[hS.row q gQ hq] at q3;cases q3
    obtain⟨nQT,nQB,nQC,nQN,nQi,nQ6,nQb⟩:=nQ
    have Hs: ∀X Y,Sub (rem (rem bx gw) gR') (upd (rem (upd y g6 X) gR') gQ Y):=fun X Y z v hz=>by
     have h1:z≠gR':=fun e=>by rw[e,aF,if_pos rfl] at hz;cases hz
     have h2:=Tu z v hz
     have h3:z≠g6:=fun e=>by rw[e,hb6] at h2;cases h2
     have h4:z≠gQ:=fun e=>by
      rw[e] at h1 h2
      rw[(hbQ h1).2] at h2;cases h2
     rw[aG _ _ _ _ h4,aF,if_neg h1,aG _ _ _ _ h3];exact h2
    have Yz: ∀X Y Z,Sub (upd (upd (rem y gR') gQ Y) gT' Z) (upd (upd (rem (upd y g6 X) gR') gQ Y) gT' Z):=fun X Y Z z v hz=>by
     simp only[aA,aF] at hz ⊢
     grind
    refine⟨Hs _ _,Dq 17 false ?_⟩
    simp
    refine⟨Hs _ _,Dq 18 false ?_⟩
    simp
    refine⟨Hs _ _,Dq 19 true ?_⟩
    simp[Ne.symm nQT,nQT,Ne.symm n6T,nTR,yT']
    refine Dd ?_
    simp
    obtain⟨b3,hb3⟩: ∃b3,b3=upd (upd (rem y gR') gQ (some ⟨1,(ids++ [gN]).map fun x=> [.lsl x 3 0 j1]⟩)) gT' (some ⟨4,[[.int .i64 j,.lsl gQ 1 0 (l+1),.lsl gB' 1 0 l,.lsl gC' 3 0 j1]]⟩):=⟨_,rfl⟩
    refine dH [(1,.loc g.T 4 0 0),(2,.ptr p.v),(7,.loc gT' 4 0 0),(95,.lsl g.R 1 0 i),(96,.int .i64 i),(97,.int .i64 r),(9,.int .i64 r)] 179 b3 ⟨rfl,by simp[Pg.v,h.aS],by rw[hb3,List.map_append];exact Yz _ _ _⟩ ?_
    have b3Q:b3 gQ=some ⟨1,(ids++ [gN]).map fun x=> [.lsl x 3 0 j1]⟩:=by rw[hb3];simp[nQT]
    have b3T:b3 gT'=some ⟨4,[[.int .i64 j,.lsl gQ 1 0 (l+1),.lsl gB' 1 0 l,.lsl gC' 3 0 j1]]⟩:=by rw[hb3];simp
    have b3x: ∀x,x≠gT'→x≠gQ→x≠gR'→b3 x=y x:=fun x x1 x2 x3=>by rw[hb3,aG _ _ _ _ x1,aG _ _ _ _ x2,aF,if_neg x3]
    clear hb3 Yz Hs hbQ hsn tkC tk hbN hy Tu
    have nQo: ∀x v,b x=some v→x≠gQ:=fun x v hx e=>by
     rcases nQb with e2 | e2
     ·exact(old x v hx).2.1 (e.trans e2)
     ·have:=hsb x v hx;rw[e,e2] at this;cases this
    have nNo: ∀x v,b x=some v→x≠gN:=fun x v hx e=>by
     have:=hsb x v hx;rw[e,nNb] at this;cases this
    have b3o: ∀x v,b x=some v→b3 x=some v:=fun x v hx=>by
     rw[b3x x (old x v hx).1 (nQo x v hx) (old x v hx).2.1,yx x (by rw[hsb x v hx];simp) (nNo x v hx)];exact hsb x v hx
    have aUN:b3 g.T=_:=b3o _ _ bT0
    have aUL:b3 g.B=_:=b3o _ _ bB0
    have b3B:b3 gB'=_:=(b3x gB' (Ne.symm nTB) (Ne.symm nQB) (Ne.symm nRB)).trans yB'
    refine dA aM (rem b3 gB') (dC b3 gB') [0,1,2,3,4,5,6,7,8,9,10,11] 5 16 (by kernel_rfl) ?_
    simp[nTB,b3T,oTB,oBB,aUN,aUL,him,Y9,dO him]
    refine Dq 12 false ?_
    simp
    intro g5 hg5 hb5
    have n5:g5≠gT'∧g5≠gQ∧g5≠gB':=⟨fun e=>(by rw[e,b3T] at hb5;cases hb5),fun e=>(by rw[e,b3Q] at hb5;cases hb5),fun e=>(by rw[e,b3B] at hb5;cases hb5)⟩
    obtain⟨n5T,n5Q,n5B⟩:=n5
    have Z0: ∀X,Sub (rem b3 gB') (upd b3 g5 X):=fun X z y hz=>by
     rw[aF] at hz
     rw[aA]
     grind
    refine⟨Z0 _,Dq 13 false ?_⟩
    have tkB:(iv (lb l fun z=>U.bs (atR L z))).take l=iv (lb l fun z=>U.bs (atR L z)):=List.take_of_length_le (by simp)
    simp[n5B,Ne.symm n5B,appV,elsV,Int.not_lt.2 hg5,b3B,tkB]
    have hlb:iv (lb l fun z=>U.bs (atR L z))++ [[.int .i64 (U.bs r)]]=iv (lb (l+1) fun z=>U.bs (atR (L++ [r]) z)):=by
     rw[T6,aX,xO r hl,Rm (f:=fun z=>U.bs (atR (L++ [r]) z)) (g:=fun z=>U.bs (atR L z)) fun z hz=>by rw[qQ r (by rw[hl];exact hz)]];rfl
    rw[hlb]
    refine⟨by omega,fun gM hgM hbM=> ?_⟩
    have nM:gM≠gT'∧gM≠gQ∧gM≠gC'∧gM≠gN∧gM∉ids∧gM≠g5∧(gM=gB'∨gM=gR'∨b' gM=none):=by
     by_cases e:gM=gB'
     ·subst e
      exact⟨Ne.symm nTB,Ne.symm nQB,nBC,Ne.symm nNB,nBi,Ne.symm n5B,.inl rfl⟩
     ·obtain⟨q1,q2⟩:=hbM e
      have q3:gM≠gT':=fun e2=>by rw[e2,b3T] at q2;cases q2
      have q4:gM≠gQ:=fun e2=>by rw[e2,b3Q] at q2;cases q2
      by_cases e3:gM=gR'
      ·subst e3
       exact⟨q3,q4,nRC,Ne.symm nNR,nRi,q1,.inr (.inl rfl)⟩
      ·rw[b3x gM q3 q4 e3] at q2
       have q5:=Ks gM q2
       have nx: ∀y,b' y≠none→gM≠y:=fun y hy e=>hy (e▸q5)
       refine⟨q3,q4,nx _ (by rw[show b' gC'=_ from hS.cst];simp),fun e2=>(by rw[e2,yN] at q2;cases q2),fun e2=> ?_,q1,.inr (.inr q5)⟩
       obtain⟨q,hq⟩:=List.mem_iff_getElem?.1 e2
       rw[hS.row q gM hq] at q5;cases q5
    obtain⟨nMT,nMQ,nMC,nMN,nMi,nM5,nMb⟩:=nM
    have lV: ∀X Y,Sub (rem b3 gB') (upd (rem (upd b3 g5 X) gB') gM Y):=fun X Y z y hz=>by
     rw[aF] at hz
     rw[aA,aF,aA]
     grind
    have lE: ∀X Y Z,Sub (upd (upd (rem b3 gB') gM Y) gT' Z) (upd (upd (rem (upd b3 g5 X) gB') gM Y) gT' Z):=fun X Y Z z y hz=>by
     simp only[aA,aF] at hz ⊢
     grind
    refine⟨lV _ _,Dq 14 false ?_⟩
    simp
    refine⟨lV _ _,Dq 15 false ?_⟩
    simp
    refine⟨lV _ _,Dq 16 true ?_⟩
    simp[Ne.symm nMT,nTB,n5T,Ne.symm n5T,b3T]
    refine Dd ?_
    simp
    refine aC ?_
    simp[wr,aB]
    obtain⟨b4,iW⟩: ∃b4,b4=upd (upd (rem b3 gB') gM (some ⟨1,iv (lb (l+1) fun z=>U.bs (atR (L++ [r]) z))⟩)) gT' (some ⟨4,[[.int .i64 j,.lsl gQ 1 0 (l+1),.lsl gM 1 0 (l+1),.lsl gC' 3 0 j1]]⟩):=⟨_,rfl⟩
    have b4T:b4 gT'=some ⟨4,[[.int .i64 j,.lsl gQ 1 0 (l+1),.lsl gM 1 0 (l+1),.lsl gC' 3 0 j1]]⟩:=by rw[iW];simp
    have b4M:b4 gM=some ⟨1,iv (lb (l+1) fun z=>U.bs (atR (L++ [r]) z))⟩:=by rw[iW];simp[nMT]
    have b4x: ∀x,x≠gT'→x≠gM→x≠gB'→b4 x=b3 x:=fun x x1 x2 x3=>by rw[iW,aG _ _ _ _ x1,aG _ _ _ _ x2,aF,if_neg x3]
    have b4o: ∀x,x≠gT'→x≠gM→x≠gB'→x≠gQ→x≠gR'→b4 x=y x:=fun x x1 x2 x3 x4 x5=>by rw[b4x x x1 x2 x3,b3x x x1 x4 x5]
    have fr: ∀x,b' x=none→b x=none:=fun x hx=>by
     cases hv:b x with
     | none => rfl
     | some v => have := hsb x v hv; rw [hx] at this; cases this
    have blT:b gT'=none:=hal gT' (by simp[SG.all])
    have blR:b gR'=none:=hal gR' (by simp[SG.all])
    have blB:b gB'=none:=hal gB' (by simp[SG.all])
    have blC:b gC'=none:=hal gC' (by simp[SG.all])
    have blN:b gN=none:=fr gN nNb
    have blQ:b gQ=none:=by
     rcases nQb with e | e
     ·rw[e];exact blR
     ·exact fr gQ e
    have blM:b gM=none:=by
     rcases nMb with e | e | e
     ·rw[e];exact blB
     ·rw[e];exact blR
     ·exact fr gM e
    have hyi: ∀x,x∈ids→y x=b' x:=fun x hx=>by
     obtain⟨q,hq⟩:=List.mem_iff_getElem?.1 hx
     exact yx x (by rw[hS.row q x hq];simp) (fun e=>nNi (e▸hx))
    have hS':SS b' ⟨gT',gR',gB',gC',ids⟩ ⟨l,j1,j,fun z c=>U.X (atR (L++ [r]) z) (ph c),fun c=>w (ph c),fun z=>U.bs (atR (L++ [r]) z)⟩:=
     hS.congr (fun z c hz _=>by rw[qQ r (by rw[hl];exact hz)]) (fun _ _=>rfl) (fun z hz=>by rw[qQ r (by rw[hl];exact hz)])
    have Ov:=hS'.snoc (b':=b4) gQ gM gN (by rw[b4x gQ nQT (Ne.symm nMQ) nQB,b3Q]) b4M b4T
     (by simp only;rw[b4o gC' (Ne.symm nTC) (Ne.symm nMC) (Ne.symm nBC) (Ne.symm nQC) (Ne.symm nRC),yx gC' (by rw[show b' gC'=_ from hS.cst];simp) (Ne.symm nNC)])
     (fun x hx=>by simp only at hx;rw[b4o x (fun e=>nTi (e▸hx)) (fun e=>nMi (e▸hx)) (fun e=>nBi (e▸hx)) (fun e=>nQi (e▸hx)) (fun e=>nRi (e▸hx)),hyi x hx])
     (by rw[b4o gN nNT (Ne.symm nMN) nNB (Ne.symm nQN) nNR,yN];show _=some (Blk.mk 3 (rqs j1 fun c=>U.X (atR (L++ [r]) l) (ph c)));rw[xO r hl]) hgN hgQ hgM (by
       simp only[SG.all,List.nodup_cons,List.mem_cons,not_or,List.mem_append,List.mem_singleton,List.nodup_append,List.not_mem_nil,or_false]
       refine⟨⟨Ne.symm nQT,Ne.symm nMT,nTC,nTi,Ne.symm nNT⟩,⟨Ne.symm nMQ,nQC,nQi,nQN⟩,⟨nMC,nMi,nMN⟩,⟨nCi,Ne.symm nNC⟩,nds,by simp,fun a ha c hc=> ?_⟩
       rw[hc];exact fun e=>nNi (e▸ha))
    have hLl:(L++ [r]).length=l+1:=by simp[hl]
    refine⟨⟨r+1,⟨gT',gQ,gM,gC',ids++ [gN]⟩,b4⟩,⟨by simp only;omega,by rw[hls,hLl];exact Ov,rfl,fun x hx=> ?_,fun x v hx=> ?_⟩,by simp only;omega,rfl,by simp[Pg.v,h.aS],by rw[iW];exact lE _ _ _⟩
    ·simp only[SG.all,List.mem_cons,List.mem_append,List.not_mem_nil,or_false] at hx
     rcases hx with rfl | rfl | rfl | rfl | hx | rfl
     ·exact blT
     ·exact blQ
     ·exact blM
     ·exact blC
     ·exact hal x (by simp[SG.all,hx])
     ·exact blN
    ·have nx: ∀z,b z=none→x≠z:=fun z hz e=>by rw[e,hz] at hx;cases hx
     simp only
     rw[b4o x (nx _ blT) (nx _ blM) (nx _ blB) (nx _ blQ) (nx _ blR),yx x (by rw[hsb x v hx];simp) (nx _ blN)]
     exact hsb x v hx
   ·rw[if_neg (by omega)] at hls
    refine aC ?_
    simp[wr,aB]
    exact⟨⟨r+1,⟨gT',gR',gB',gC',ids⟩,b'⟩,⟨by show r+1≤i;omega,by rw[hls];exact hS,rfl,hal,hsb⟩,by simp only;omega,rfl,by simp[Pg.v,h.aS],Sub.refl _⟩
  have aTD:r=i:=by omega
  subst aTD
  rw[mP] at hS
  rw[mP] at mY
  clear wr him
  obtain⟨l,hl⟩: ∃l,rows.length=l:=⟨_,rfl⟩
  rw[hl] at hS
  have Kt:=hS.len
  have E0:b' gT'=_:=hS.hd
  have T4:b' gR'=_:=hS.top
  have I9:b' gB'=_:=hS.ba
  have aK7:b' gC'=_:=hS.cst
  simp only at Kt E0 T4 I9 aK7
  have hlr:l≤r:=by rw[←hl];exact mY.len
  have nd:=hS.nd
  simp only[SG.all,List.nodup_cons,List.mem_cons,not_or] at nd
  obtain⟨⟨nTR,nTB,nTC,nTi⟩,⟨nRB,nRC,nRi⟩,⟨nBC,nBi⟩,nCi,nds⟩:=nd
  have hwW: ∀c,c<j+r+1→Lp.isInt (w c)∧ -((1000:Nat):Rat)≤w c∧w c≤((1000:Nat):Rat):=fun c _=>by
   have:=hpc c
   rw[hwi]
   refine⟨⟨_,rfl⟩,?_,?_⟩
   ·rw[show -((1000:Nat):Rat)=((-1000:Int):Rat) by decide+kernel];exact Rat.intCast_le_intCast.2 (by omega)
   ·rw[show((1000:Nat):Rat)=((1000:Int):Rat) by decide+kernel];exact Rat.intCast_le_intCast.2 (by omega)
  have Wh: ∀q,q<l→atR rows q<r:=fun q hq=>mY.lt (cM (by rw[hl];exact hq))
  have aO4: ∀c,ph c<j+r+1:=fun c=>by rw[hph];simp only;split<;>omega
  have htp: ∀q c,q≤l→oU (Lp.part w U (atR rows) q (ph c)):=fun q c hq=>Lp.fS (hKi.z.part hwW (aO4 c) (by decide) (by omega) fun z hz=>Wh z (by omega)) (vE hml)
  have htX: ∀q c,q<l→oU (U.X (atR rows q) (ph c)):=fun q c hq=>Lp.fS (hKi.z.sm (Wh q hq) (aO4 c)) (qV hml)
  refine aN ?_
  refine aC ?_
  simp[E0]
  refine aJ (fun q:Nat=> [(7,.loc gT' 4 0 0),(157,.lsl gR' 1 0 l),(158,.int .i64 l),(159,.int .i64 q)]) (fun q=>upd b' gC' (some ⟨3,rqs j1 fun c=>Lp.part w U (atR rows) q (ph c)⟩)) (fun q=>q≤l) (fun q=>l - q) _ 0 (Nat.zero_le _) ⟨rfl,by simp,sub_eq (by
   funext x;simp only[aA];split
   ·rename_i e
    rw[e,aK7,bP (g:=fun c=>Lp.part w U (atR rows) 0 (ph c)) fun c _=>by unfold Lp.part;rw[Lp.S];grind]
   ·rfl)⟩ ?_
  intro q hq
  have wq:IntKind.i64.wrap ((q:Int)+1)=(q:Int)+1:=i64_in (by omega) (by omega)
  refine aE ?_
  simp
  refine aE ?_
  simp
  refine⟨fun hql=> ?_,fun hql=> ?_⟩
  ·have I8:(q:Int)<l:=by omega
   obtain⟨gi,hgi⟩: ∃gi,ids[q]? =some gi:=⟨_,List.getElem?_eq_getElem (show q<ids.length by omega)⟩
   have hgj: ∀h,ids[q]'h=gi:=fun h=>by rw[List.getElem?_eq_getElem h] at hgi;exact Option.some.inj hgi
   have hgm:=List.mem_of_getElem? hgi
   have yP:0≤gi:=hS.pos gi hgm
   have b'i:b' gi=_:=hS.row q gi hgi
   simp only at b'i
   have iC:gi≠gC':=fun e=>nCi (e▸hgm)
   obtain⟨bc,hbc⟩: ∃bc,bc=upd b' gC' (some ⟨3,rqs j1 fun c=>Lp.part w U (atR rows) q (ph c)⟩):=⟨_,rfl⟩
   have bcC:bc gC'=some ⟨3,rqs j1 fun c=>Lp.part w U (atR rows) q (ph c)⟩:=by rw[hbc];simp
   have bcx: ∀x,x≠gC'→bc x=b' x:=fun x hx=>by rw[hbc,aG _ _ _ _ hx]
   have bcT:=(bcx gT' nTC).trans E0
   have bcR:=(bcx gR' nRC).trans T4
   have bcB:=(bcx gB' nBC).trans I9
   have bci:=(bcx gi iC).trans b'i
   rw[←hbc]
   refine aN (aV ?_)
   refine aE ?_
   simp[bcR,hql,I8,Kt,hgj]
   have hqm:=cM (rows:=rows) (show q<rows.length by rw[hl];exact hql)
   obtain⟨ri,hri⟩: ∃ri,atR rows q=ri:=⟨_,rfl⟩
   have hbl:U.bs ri<j:=by
    rw[hri,←mP] at hqm
    exact(Lp.mC.1 hqm).2
   have aVB:ri<r:=by rw[←hri];exact Wh q hql
   have hkf:Lp.part w U (atR rows) q (ph (U.bs ri))=w (U.bs ri):=by
    rw[hpl _ hbl,←hri]
    exact Lp.Ea hKi.z.ti (by rw[hri];exact aVB) (fun z hz=>Wh z (by omega)) fun z hz e=>by
     have:=mY.inj (by omega) (by omega) e
     omega
   have Cq: ∀c,Lp.part w U (atR rows) q (ph c) - Lp.part w U (atR rows) q (ph (U.bs ri))*U.X (atR rows q) (ph c)=Lp.part w U (atR rows) (q+1) (ph c):=fun c=>by
    rw[hkf,Lp.Lu,hri]
   have hbi:(U.bs ri:Int)<j:=by omega
   refine aY aM (rem bc gC') (dC bc gC') [0,1,2,3,4,5,6,7,8,9,10,11] 1 (by kernel_rfl) ?_
   simp[nTC,nBC,bcT,bcB,hql,I8,hri]
   refine Dz 12 ?_
   simp
   refine qM gC' gi j1 (U.bs ri) (fun c=>Lp.part w U (atR rows) q (ph c)) (fun c=>U.X (atR rows q) (ph c)) (by omega) (by omega) bcC bci (Ne.symm iC) hS.pC yP (fun c _=>cH (htp q c hq)) (fun c _=>cH (htX q c hql)) (fun c _=>B6 (htp q _ hq) (htX q c hql)) (fun c _=>by simp only[Cq];exact cH (htp (q+1) c hql)) fun b2' hx hb'=> ?_
   simp
   refine⟨fun z y hz=> ?_,Dy ?_⟩
   ·rw[aF] at hz
    split at hz
    ·cases hz
    ·exact hx z y hz (by assumption)
   simp
   refine aC ?_
   simp[wq,aB]
   refine⟨q+1,by omega,by omega,rfl,by simp,fun z y hz=> ?_⟩
   show b2' z=some y
   by_cases e:z=gC'
   ·rw[e,aZ] at hz
    rw[e,hb',←hz,bP fun c _=>Cq c]
   ·rw[aG _ _ _ _ e] at hz
    exact hx z y (by rw[bcx z e];exact hz) e
  ·have hqe:q=l:=by omega
   subst hqe
   refine aC ?_
   simp
   rw[bV]
   have hS9:=hS.aC8 fun c=>Lp.part w U (atR rows) q (ph c)
   refine⟨[.loc gT' 4 0 0],by simp,hK _ ⟨gT',gR',gB',gC',ids⟩ ?_ (fun x hx=>frB x (hal x hx)) fun x y hx hng=> ?_⟩
   ·unfold snV
    simp only[hl]
    subst hj1
    have hz0: ∀c,c<r→c∉rows→w (U.bs c)=0:=fun c hc hn=>by
     rw[←mP] at hn
     have hge: ¬ U.bs c<j:=fun e=>hn (Lp.mC.2 ⟨hc,e⟩)
     rw[hwi,show pC p (U.bs c)=0 by unfold pC;rw[List.getD_eq_getElem?_getD,List.getElem?_eq_none (by have:=h.cl;omega)];rfl];rfl
    refine hS9.congr (fun z c _ _=>by rw[hph]) (fun c _=> ?_) fun z _=>rfl
    rw[hph]
    unfold Lp.part Lp.rc
    simp only
    have:=mY.sum (fun z=>U.X z (if c<j then c else j+r)*w (U.bs z)) fun z hz hn=>by rw[hz0 z hz hn];grind
    rw[hl] at this
    rw[this]
   ·have h1:=hfb x y hx hng
    have h2:=hsb x y h1
    show upd b' gC' _ x=some y
    rw[aG _ _ _ _ (fun e=>by have:=hal gC' (by simp[SG.all]);rw[←e,h1] at this;cases this)]
    exact h2

def okA (n:Nat):Nat→Bool:=fun c=>decide (c<n)
def oA (n m:Nat):Nat→Int:=fun c=>if n≤c∧c<n+m then -1 else 0
theorem Pa (n m:Nat):wO (oA n m)=Lp.bE n m:=by
 funext c
 unfold wO oA Lp.bE
 split<;>rfl
def tbA (p:Pg) (n m i:Nat) (fr:Nat→Bool):TN:=⟨i,n+m,eZ p n m,1,fun q=>n+q,fr⟩
theorem Rw (N:Nat):List.replicate N [V.bool false]=lv N fun _=>false:=by
 unfold lv
 rw[List.map_const',List.length_range]
theorem Au (N:Nat):List.replicate N [V.int .i64 0]=iv (lz N fun _=>0):=by
 simp[iv,lz,List.map_const']
theorem Tn {N k:Nat} (f:Nat→Int) (v:Int) (h:k<N):(iv (lz N f)).set k [.int .i64 v]=iv (lz N fun c=>if c=k then v else f c):=by
 apply List.ext_getElem
 ·simp
 ·intro j h1 h2
  rw[List.getElem_set,oJ,oJ,yW,yW]
  by_cases e:k=j
  ·rw[if_pos e,if_pos e.symm]
  ·rw[if_neg e,if_neg (Ne.symm e)]
theorem E2 {N:Nat} {f g:Nat→Int} (h: ∀c,c<N→f c=g c):lz N f=lz N g:=List.map_congr_left fun c hc=>by rw[h c (by simpa using hc)]
theorem qD {N:Nat} {f g:Nat→Bool} (h: ∀c,c<N→f c=g c):lv N f=lv N g:=List.map_congr_left fun c hc=>by rw[h c (by simpa using hc)]
theorem TT.first {b:Int→Option Blk} {g:TG} {p:Pg} {n m:Nat} {fr:Nat→Bool} (h:PgN p n m) (ht:TT b g (tbA p n m m fr)):TT b g (bY n m (eQ p n m) (List.range m) (Lp.kY n (eQ p n m)) fr):=by
 have hr:(List.range m).length=m:=by simp
 have hd:=dz0 h
 have hb:lb m (fun q=>(Lp.kY n (eQ p n m)).bs (atR (List.range m) q))=lb m fun q=>n+q:=List.map_congr_left fun q hq=>by
  have hq':q<m:=by simpa using hq
  simp only[dO hq'];rfl
 refine⟨?_,?_,?_,ht.fre,ht.pT,?_,?_,ht.pF,ht.nd⟩
 ·have:=ht.fJ.congr (Z':=fun q c=>Lp.zt m (eQ p n m) (Lp.kY n (eQ p n m)) (atR (List.range m) q) c) fun q c hq _=>by
   simp only[tbA] at hq ⊢
   rw[dO hq,zt0 h]
  simp only[bY]
  rw[hr];exact this
 ·have e:=ht.hd
  simp only[tbA] at e
  simp only[bY,hd,hr]
  exact e
 ·simp only[bY];rw[hr,hb];exact ht.ba
 ·simp only[bY];rw[hr];exact ht.pR
 ·simp only[bY];rw[hr];exact ht.pB
structure aMC where
 i:Nat
 g:TG
 b:Int→Option Blk
theorem Rs {bl:Int→Option Blk} {K:V→(Int→Option Blk)→Prop} (p:Pg) (n m:Nat) (h:PgN p n m)
  (hN: ∀b' t,Lp.qI n m (n+m+1) 1000 (eQ p n m) t→Lp.rc m (Lp.bE n m) t (n+m)≠0→Sub bl b'→K (.tup [.nilp,.bool false]) b')
  (hS: ∀b' g t,Lp.qI n m (n+m+1) 1000 (eQ p n m) t→Lp.rc m (Lp.bE n m) t (n+m)=0→TT b' g (bY n m (eQ p n m) (Lp.bH n (Lp.kicks n t m) m) (Lp.kicks n t m) (okA n))→(∀x,x∈g.all→bl x=none)→Sub bl b'→K (.tup [.loc g.T 6 0 0,.bool true]) b'):
  bU Tryz.prog 126 [.ptr p.v] bl K:=by
 have hml:=h.ml
 have hnl:=h.nl
 have wnm:IntKind.i64.wrap ((n:Int)+(m:Int))=((n+m:Nat):Int):=by rw[i64_in (by omega) (by omega)];simp
 have hint: ∀z:Int,z.natAbs≤1000→RO Tryz.prog 160 [.int .i64 z] (.agg (biC z)):=fun z hz=>tJ z (by omega)
 refine cA Tryz.func126 rfl rfl (by rw[Tryz.ntmps126];simp) ?_
 rw[Tryz.ntmps126,Tryz.results126]
 refine aC ?_
 simp
 refine bW aM (by kernel_rfl) ?_
 simp[Pg.v,h.rows,h.aS]
 rw[wnm]
 obtain⟨N,hN0⟩: ∃N,n+m=N:=⟨_,rfl⟩
 rw[hN0]
 refine aC ?_
 simp
 refine aY aM bl (Sub.refl _) [0,1,2] 4 (by kernel_rfl) ?_
 simp
 refine aO (hint 1 (by decide)) ?_
 simp
 refine Dz 3 ?_
 simp
 refine⟨by omega,by unfold maxLen;omega,fun gF hgF hbF=> ?_⟩
 have sF:Sub bl (upd bl gF (some ⟨1,List.replicate N [.bool false]⟩)):=by simp[hbF]
 refine⟨sF,Dz 4 ?_⟩
 simp
 refine⟨sF,Dz 5 ?_⟩
 simp
 intro gT hgT hTF hbT
 refine⟨by simp[hbF,hbT,hTF],Dz 6 ?_⟩
 simp
 refine⟨by simp[hbF,hbT,hTF],Dy ?_⟩
 simp
 obtain⟨b0,hb0⟩: ∃b0,b0=upd (upd bl gF (some ⟨1,List.replicate N [.bool false]⟩)) gT (some ⟨6,[[.nils,.bool false,.sl (iv (lim 1)),.nils,.int .i64 N,.lsl gF 1 0 N]]⟩):=⟨_,rfl⟩
 have b0T:b0 gT=some ⟨6,[[.nils,.bool false,.sl (iv (lim 1)),.nils,.int .i64 N,.lsl gF 1 0 N]]⟩:=by rw[hb0];simp[bQ]
 have b0F:b0 gF=some ⟨1,lv N fun _=>false⟩:=by rw[hb0];simp[Ne.symm hTF,Rw]
 have s0:Sub bl b0:=by rw[hb0];simp[hbF,hbT,hTF]
 refine dH [(0,.ptr p.v),(4,.int .i64 N),(5,.loc gT 6 0 0),(34,.int .i64 m),(35,.int .i64 0)] 205 b0 ⟨rfl,by simp[Pg.v,h.rows,h.aS],by rw[hb0];exact sub_eq (by simp[bQ])⟩ ?_
 clear hb0
 refine cY (g:=gT) (s:=6) 0 0 1 b0T rfl rfl fun gR hgR hRT=> ?_
 have hgR:b0 gR=none:=hgR
 have hRF:gR≠gF:=fun e=>by rw[e,b0F] at hgR;cases hgR
 have b0R:bl gR=none:=by
  cases hv:bl gR with
  | none => rfl
  | some y => have := s0 gR y hv; rw [hgR] at this; cases this
 refine cY (g:=gT) (s:=6) (els:= [[.lsl gR 1 0 0,.bool false,.sl (iv (lim 1)),.nils,.int .i64 N,.lsl gF 1 0 N]]) 0 3 1 (by simp[Ne.symm hRT]) rfl rfl fun gB hgB hBT=> ?_
 simp[hBT] at hgB
 obtain⟨hBR,hgB⟩:=hgB
 have hBF:gB≠gF:=fun e=>by rw[e,b0F] at hgB;cases hgB
 have b0B:bl gB=none:=by
  cases hv:bl gB with
  | none => rfl
  | some y => have := s0 gB y hv; rw [hgB] at this; cases this
 obtain⟨b1,hb1⟩: ∃b1,b1=upd (upd (upd (upd b0 gT (some ⟨6,[[.lsl gR 1 0 0,.bool false,.sl (iv (lim 1)),.nils,.int .i64 N,.lsl gF 1 0 N]]⟩)) gR (some ⟨1,[]⟩)) gT (some ⟨6,[[.lsl gR 1 0 0,.bool false,.sl (iv (lim 1)),.lsl gB 1 0 0,.int .i64 N,.lsl gF 1 0 N]]⟩)) gB (some ⟨1,[]⟩):=⟨_,rfl⟩
 have t1:TT b1 ⟨gT,gR,gB,gF,[]⟩ (tbA p n m 0 (fun _=>false)):=by
  refine TT.start rfl ?_ ?_ ?_ ?_ hgT hgF ?_
  ·rw[hb1];simp[hRT,Ne.symm hBR]
  ·rw[hb1];simp
  ·rw[hb1];simp[Ne.symm hBT,Ne.symm hRT,tbA,hN0]
  ·rw[hb1];simp[Ne.symm hBF,Ne.symm hRF,Ne.symm hTF,tbA,hN0,b0F]
  ·simp;grind
 refine dH [(0,.ptr p.v),(4,.int .i64 N),(5,.loc gT 6 0 0),(34,.int .i64 m),(35,.int .i64 0)] 205 b1 ⟨rfl,by simp,by rw[hb1];exact sub_eq (by simp)⟩ ?_
 have s1:Sub bl b1:=by
  intro x y hx
  have:=s0 x y hx
  have x1:x≠gT:=fun e=>by rw[e,hbT] at hx;cases hx
  have x2:x≠gR:=fun e=>by rw[e,b0R] at hx;cases hx
  have x3:x≠gB:=fun e=>by rw[e,b0B] at hx;cases hx
  rw[hb1]
  simp[x1,x2,x3,this]
 clear hb1
 refine aJ (fun q:aMC=> [(0,.ptr p.v),(4,.int .i64 N),(5,.loc gT 6 0 0),(34,.int .i64 m),(35,.int .i64 q.i)]) (fun q=>q.b) (fun q=>q.i≤m∧TT q.b q.g (tbA p n m q.i (fun _=>false))∧q.g.T=gT∧q.g.F=gF∧(∀x,x∈q.g.all→bl x=none)∧Sub bl q.b) (fun q=>m - q.i) _ ⟨0,⟨gT,gR,gB,gF,[]⟩,b1⟩ ⟨Nat.zero_le _,t1,rfl,rfl,by simp[TG.all,hbT,b0R,b0B,hbF],s1⟩ ⟨rfl,by simp,Sub.refl _⟩ ?_
 clear s1 t1 hgB hgR s0 b0T b0F
 clear b0R b0B hBT hBF hBR hRT hRF
 rintro⟨i,⟨gT',gR,gB,gF',ids⟩,b⟩ ⟨him,hTb,e1,e2,hal,hsb⟩
 simp only at e1 e2 him hTb hsb
 subst e1 e2
 have bT:b gT'=_:=hTb.hd
 have bB:b gB=_:=hTb.ba
 have bG:b gR=_:=hTb.fJ.top
 have bF:b gF'=_:=hTb.fre
 have hil:=hTb.fJ.len
 simp only[tbA] at bT bB bG bF hil
 rw[hN0] at bT bF bG
 have wi:IntKind.i64.wrap ((i:Int)+1)=(i:Int)+1:=i64_in (by omega) (by omega)
 obtain⟨N1,hN1⟩: ∃x,N+1=x:=⟨_,rfl⟩
 rw[hN1] at bG
 have wN:IntKind.i64.wrap ((N:Int)+1)=(N1:Int):=by rw[i64_in (by omega) (by omega)];omega
 refine aE ?_
 simp
 refine aE ?_
 simp
 refine⟨fun hi=> ?_,fun hi=> ?_⟩
 ·refine aN (aV ?_)
  refine aE ?_
  simp
  refine aE ?_
  simp[wN]
  refine⟨by omega,by unfold maxLen;omega,fun gr hgr hbr=> ?_⟩
  refine aKA (g:=gr) (s:=2) (els:=List.replicate N1 [.bool false,.nils]) ?_ ?_
  ·simp
  rw[Vx]
  refine aE ?_
  simp
  have rT: ¬ gr=gT':=fun e=>by rw[e,bT] at hbr;cases hbr
  have rR: ¬ gr=gR:=fun e=>by rw[e,bG] at hbr;cases hbr
  have rB: ¬ gr=gB:=fun e=>by rw[e,bB] at hbr;cases hbr
  have rF: ¬ gr=gF':=fun e=>by rw[e,bF] at hbr;cases hbr
  have ri:gr∉ids:=fun hm2=>by
   obtain⟨q,hq⟩:=List.mem_iff_getElem?.1 hm2
   rw[hTb.fJ.row q gr hq] at hbr;cases hbr
  have rbl:bl gr=none:=by
   cases hv:bl gr with
   | none => rfl
   | some y => have := hsb gr y hv; rw [hbr] at this; cases this
  refine gH (fun _:Unit=> [(0,.ptr p.v),(4,.int .i64 N),(5,.loc gT' 6 0 0),(34,.int .i64 m),(35,.int .i64 i),(6,.int .i64 i),(7,.lsl gr 2 0 N1),(8,.int .i64 (sgB p i))]) (fun _=>upd b gr (some ⟨2,zv N1 fun _=>0⟩)) (fun _=>True) 205 ?_ ?_
  ·refine aC ?_
   simp[Pg.v,h.b,hi]
   refine⟨fun cK=> ?_,fun cK=> ?_⟩
   ·simp[aH]
    exact⟨rfl,by simp[Pg.v,h.b,sgB,cK],sub_eq (by simp)⟩
   ·simp[aH]
    exact⟨rfl,by simp[Pg.v,h.b,sgB,cK],sub_eq (by simp)⟩
  rintro⟨⟩ -
  obtain⟨sg,hsg⟩: ∃x,sgB p i=x:=⟨_,rfl⟩
  have sg1:sg.natAbs=1:=by rw[←hsg];unfold sgB;split<;>rfl
  rw[hsg]
  have hpA: ∀c,(sg*pA p n i c).natAbs≤1000:=fun c=>by rw[Int.natAbs_mul,sg1,Nat.one_mul];exact jT h.am _
  have hpB:(sg*pB p i).natAbs≤1000:=by rw[Int.natAbs_mul,sg1,Nat.one_mul];exact jT h.bm _
  refine gH (fun _:Unit=> [(0,.ptr p.v),(4,.int .i64 N),(5,.loc gT' 6 0 0),(34,.int .i64 m),(35,.int .i64 i),(6,.int .i64 i),(7,.lsl gr 2 0 N1),(8,.int .i64 sg)]) (fun _=>upd b gr (some ⟨2,zv N1 fun c=>if c<n then sg*pA p n i c else 0⟩)) (fun _=>True) 205 ?_ ?_
  ·refine aC ?_
   simp
   refine aD (Zy p n m i h hi) ?_
   simp
   refine aJ (fun j:Nat=> [(0,.ptr p.v),(4,.int .i64 N),(5,.loc gT' 6 0 0),(34,.int .i64 m),(35,.int .i64 i),(6,.int .i64 i),(7,.lsl gr 2 0 N1),(8,.int .i64 sg),(51,.sl (iv (lz n (pA p n i)))),(52,.int .i64 n),(53,.int .i64 j)]) (fun j=>upd b gr (some ⟨2,zv N1 fun c=>if c<j then sg*pA p n i c else 0⟩)) (fun j=>j≤n) (fun j=>n - j) _ 0 (Nat.zero_le _) ⟨rfl,by simp,sub_eq (by simp)⟩ ?_
   intro j hj
   have wj:IntKind.i64.wrap ((j:Int)+1)=(j:Int)+1:=i64_in (by omega) (by omega)
   have wa: ∀c,IntKind.i64.wrap (sg*pA p n i c)=sg*pA p n i c:=fun c=>i64_in (by have:=hpA c;omega) (by have:=hpA c;omega)
   refine aC ?_
   simp
   refine⟨fun hjn=> ?_,fun hjn=> ?_⟩
   ·simp[hjn,wa]
    refine aD (hint _ (hpA j)) ?_
    simp[wj,aB,show j<N1 by omega,Pf]
    refine⟨j+1,by omega,by omega,rfl,by simp,?_⟩
    refine sub_eq ?_
    funext x
    simp only[aA]
    split
    ·congr 2
     exact uZ fun c hc=>by
      by_cases e:c=j
      ·rw[if_pos e,if_pos (by omega),e]
      ·rw[if_neg e];grind
    ·rfl
   ·rw[show j=n by omega]
    simp[aH]
    exact⟨rfl,by simp,Sub.refl _⟩
  rintro⟨⟩ -
  refine aE ?_
  have wni:IntKind.i64.wrap ((n:Int)+(i:Int))=((n+i:Nat):Int):=by rw[i64_in (by omega) (by omega)];simp
  obtain⟨ni,hni⟩: ∃x,n+i=x:=⟨_,rfl⟩
  rw[hni] at wni
  refine dK aM [0,1,2,3,4,5,6,7,8] 1 9 (by kernel_rfl) ?_
  simp[Pg.v,h.aS,wni]
  refine aO (hint 1 (by decide)) ?_
  simp[show ni<N1 by omega,show(ni:Int)<N1 by omega]
  refine dM (i:=9) (by kernel_rfl) rfl rfl rfl ?_
  simp[show ni<N1 by omega,Pf]
  refine Dy ?_
  simp
  refine aE ?_
  have wB:IntKind.i64.wrap (sg*pB p i)=sg*pB p i:=i64_in (by omega) (by omega)
  have hNN:N<N1:=by omega
  have aAN:(N:Int)<N1:=by omega
  simp[Pg.v,h.b,hi,wB]
  refine aD (hint _ hpB) ?_
  simp[hNN,aAN,Pf]
  obtain⟨b2,hb2⟩: ∃b2,b2=upd b gr (some ⟨2,zv N1 (eZ p n m i)⟩):=⟨_,rfl⟩
  refine dH [(0,.ptr p.v),(4,.int .i64 N),(5,.loc gT' 6 0 0),(34,.int .i64 m),(35,.int .i64 i),(6,.int .i64 i),(7,.lsl gr 2 0 N1)] 205 b2 ⟨rfl,by simp[Pg.v,h.b,h.aS],?_⟩ ?_
  ·rw[hb2]
   refine sub_eq ?_
   funext x
   simp only[aA]
   split
   ·congr 2
    exact uZ fun c hc=>by
     unfold eZ
     rw[hN0,hni,hsg]
     grind
   ·rfl
  have b2r:b2 gr=some ⟨2,zv N1 (eZ p n m i)⟩:=by rw[hb2];simp
  have b2x: ∀x,x≠gr→b2 x=b x:=fun x hx=>by rw[hb2,aG _ _ _ _ hx]
  have b2T:=b2x gT' (Ne.symm rT)
  have b2R:=b2x gR (Ne.symm rR)
  have b2B:=b2x gB (Ne.symm rB)
  have b2F:=b2x gF' (Ne.symm rF)
  have b2i: ∀x,x∈ids→b2 x=b x:=fun x hx=>b2x x fun e=>ri (e▸hx)
  rw[bT] at b2T
  rw[bG] at b2R
  rw[bB] at b2B
  rw[bF] at b2F
  clear hb2
  have nds:=hTb.nd
  simp only[List.nodup_cons,List.mem_cons,not_or] at nds
  obtain⟨⟨nTR,nTB,nTF,nTi⟩,⟨nRB,nRF,nRi⟩,⟨nBF,nBi⟩,nFi,Wi⟩:=nds
  have Ow: ∀x,b2 x=none→x≠gT'∧x≠gR∧x≠gB∧x≠gF'∧x≠gr∧x∉ids:=fun x hx=>by
   refine⟨fun e=> ?_,fun e=> ?_,fun e=> ?_,fun e=> ?_,fun e=> ?_,fun e=> ?_⟩
   ·rw[e,b2T] at hx;cases hx
   ·rw[e,b2R] at hx;cases hx
   ·rw[e,b2B] at hx;cases hx
   ·rw[e,b2F] at hx;cases hx
   ·rw[e,b2r] at hx;cases hx
   ·rw[b2i x e] at hx
    obtain⟨q,hq⟩:=List.mem_iff_getElem?.1 e
    rw[hTb.fJ.row q x hq] at hx;cases hx
  refine aE ?_
  simp[b2T,b2R,appV,elsV,hil]
  intro g4 hg4 hb4
  obtain⟨n4T,n4R,n4B,n4F,n4r,n4i⟩:=Ow g4 hb4
  have tk:(ids.map fun g=> [V.lsl g 2 0 N1]).take i=ids.map fun g=> [V.lsl g 2 0 N1]:=List.take_of_length_le (by simp[hil])
  simp[Ne.symm n4T,Ne.symm n4R,n4T,n4R,Int.not_lt.2 hg4,b2R,hil,tk]
  refine⟨by omega,fun gN hgN hbN=> ?_⟩
  have nN:gN≠gT'∧gN≠gB∧gN≠gF'∧gN≠gr∧gN∉ids∧gN≠g4:=by
   by_cases e:gN=gR
   ·subst e
    exact⟨Ne.symm nTR,nRB,nRF,Ne.symm rR,nRi,Ne.symm n4R⟩
   ·obtain⟨q1,q2⟩:=hbN e
    obtain⟨w1,w2,w3,w4,w5,w6⟩:=Ow gN q2
    exact⟨w1,w3,w4,w5,w6,q1⟩
  obtain⟨nNT,nNB,nNF,nNr,nNi,nN4⟩:=nN
  simp[Ne.symm nNT,nNT,Ne.symm n4T,nTR,b2T]
  obtain⟨b3,hb3⟩: ∃b3,b3=upd (upd (rem b2 gR) gN (some ⟨1,(ids++ [gr]).map fun g=> [.lsl g 2 0 N1]⟩)) gT' (some ⟨6,[[.lsl gN 1 0 (i+1),.bool false,.sl (iv (lim 1)),.lsl gB 1 0 i,.int .i64 N,.lsl gF' 1 0 N]]⟩):=⟨_,rfl⟩
  refine dH [(0,.ptr p.v),(4,.int .i64 N),(5,.loc gT' 6 0 0),(34,.int .i64 m),(35,.int .i64 i),(6,.int .i64 i)] 205 b3 ⟨rfl,by simp[Pg.v,h.b,h.aS],?_⟩ ?_
  ·rw[hb3]
   intro z y hz
   simp only[aA,aF] at hz ⊢
   grind
  have b3N:b3 gN=some ⟨1,(ids++ [gr]).map fun g=> [.lsl g 2 0 N1]⟩:=by rw[hb3];simp[nNT]
  have b3T:b3 gT'=some ⟨6,[[.lsl gN 1 0 (i+1),.bool false,.sl (iv (lim 1)),.lsl gB 1 0 i,.int .i64 N,.lsl gF' 1 0 N]]⟩:=by rw[hb3];simp
  have b3x: ∀x,x≠gT'→x≠gN→x≠gR→b3 x=b2 x:=fun x x1 x2 x3=>by rw[hb3,aG _ _ _ _ x1,aG _ _ _ _ x2,aF,if_neg x3]
  have b3B:=b3x gB (Ne.symm nTB) (Ne.symm nNB) (Ne.symm nRB)
  rw[b2B] at b3B
  clear hb3
  refine dA aM (rem b3 gB) (dC b3 gB) [0,1,2,3,4,5,6,7,8,9,10] 5 15 (by kernel_rfl) ?_
  simp[nTB,b3T,Pg.v,h.aS,wni]
  refine Dq 11 false ?_
  simp
  intro g5 hg5 hb5
  have n5:g5≠gT'∧g5≠gN∧g5≠gB:=⟨fun e=>(by rw[e,b3T] at hb5;cases hb5),fun e=>(by rw[e,b3N] at hb5;cases hb5),fun e=>(by rw[e,b3B] at hb5;cases hb5)⟩
  obtain⟨n5T,n5N,n5B⟩:=n5
  have r5:rem b3 gB g5=none:=by rw[aF,if_neg n5B];exact hb5
  have Z0: ∀X,Sub (rem b3 gB) (upd b3 g5 X):=fun X z y hz=>by
   rw[aF] at hz
   rw[aA]
   grind
  refine⟨Z0 _,Dq 12 false ?_⟩
  have tkB:(iv (lb i fun q=>n+q)).take i=iv (lb i fun q=>n+q):=List.take_of_length_le (by simp)
  simp[n5B,Ne.symm n5B,appV,elsV,Int.not_lt.2 hg5,b3B,tkB]
  have hlb:iv (lb i fun q=>n+q)++ [[.int .i64 ni]]=iv (lb (i+1) fun q=>n+q):=by rw[T6,aX,hni];rfl
  rw[hlb]
  refine⟨by omega,fun gM hgM hbM=> ?_⟩
  have nM:gM≠gT'∧gM≠gN∧gM≠gF'∧gM≠gr∧gM∉ids∧gM≠g5:=by
   by_cases e:gM=gB
   ·subst e
    exact⟨Ne.symm nTB,Ne.symm nNB,nBF,Ne.symm rB,nBi,Ne.symm n5B⟩
   ·obtain⟨q1,q2⟩:=hbM e
    have q3:gM≠gT':=fun e2=>by rw[e2,b3T] at q2;cases q2
    have q4:gM≠gN:=fun e2=>by rw[e2,b3N] at q2;cases q2
    by_cases e3:gM=gR
    ·subst e3
     exact⟨q3,q4,nRF,Ne.symm rR,nRi,q1⟩
    ·rw[b3x gM q3 q4 e3] at q2
     obtain⟨w1,w2,w3,w4,w5,w6⟩:=Ow gM q2
     exact⟨q3,q4,w4,w5,w6,q1⟩
  obtain⟨nMT,nMN,nMF,nMr,nMi,nM5⟩:=nM
  have lV: ∀X Y,Sub (rem b3 gB) (upd (rem (upd b3 g5 X) gB) gM Y):=fun X Y z y hz=>by
   rw[aF] at hz
   rw[aA,aF,aA]
   grind
  have lE: ∀X Y Z,Sub (upd (upd (rem b3 gB) gM Y) gT' Z) (upd (upd (rem (upd b3 g5 X) gB) gM Y) gT' Z):=fun X Y Z z y hz=>by
   simp only[aA,aF] at hz ⊢
   grind
  refine⟨lV _ _,Dq 13 false ?_⟩
  simp
  refine⟨lV _ _,Dq 14 false ?_⟩
  simp
  refine⟨lV _ _,Dq 15 true ?_⟩
  simp[Ne.symm nMT,nTB,n5T,Ne.symm n5T,b3T]
  refine Dd ?_
  simp
  refine aC ?_
  simp[wi,aB]
  obtain⟨b4,iW⟩: ∃b4,b4=upd (upd (rem b3 gB) gM (some ⟨1,iv (lb (i+1) fun q=>n+q)⟩)) gT' (some ⟨6,[[.lsl gN 1 0 (i+1),.bool false,.sl (iv (lim 1)),.lsl gM 1 0 (i+1),.int .i64 N,.lsl gF' 1 0 N]]⟩):=⟨_,rfl⟩
  have b4T:b4 gT'=some ⟨6,[[.lsl gN 1 0 (i+1),.bool false,.sl (iv (lim 1)),.lsl gM 1 0 (i+1),.int .i64 N,.lsl gF' 1 0 N]]⟩:=by rw[iW];simp
  have b4M:b4 gM=some ⟨1,iv (lb (i+1) fun q=>n+q)⟩:=by rw[iW];simp[nMT]
  have b4x: ∀x,x≠gT'→x≠gM→x≠gB→b4 x=b3 x:=fun x x1 x2 x3=>by rw[iW,aG _ _ _ _ x1,aG _ _ _ _ x2,aF,if_neg x3]
  have b4o: ∀x,x≠gT'→x≠gM→x≠gB→x≠gN→x≠gR→x≠gr→b4 x=b x:=fun x x1 x2 x3 x4 x5 x6=>by rw[b4x x x1 x2 x3,b3x x x1 x4 x5,b2x x x6]
  have fr: ∀x,b x=none→bl x=none:=fun x hx=>by
   cases hv:bl x with
   | none => rfl
   | some y => have := hsb x y hv; rw [hx] at this; cases this
  have blR:bl gR=none:=hal gR (by simp[TG.all])
  have blB:bl gB=none:=hal gB (by simp[TG.all])
  have blN:bl gN=none:=by
   by_cases e:gN=gR
   ·rw[e];exact blR
   ·have:=(hbN e).2
    rw[b2x gN nNr] at this;exact fr gN this
  have blM:bl gM=none:=by
   by_cases e:gM=gB
   ·rw[e];exact blB
   ·by_cases e3:gM=gR
    ·rw[e3];exact blR
    ·have:=(hbM e).2
     rw[b3x gM nMT nMN e3,b2x gM nMr] at this;exact fr gM this
  have C2:=hTb.snoc (b':=b4) gN gM gr (by simp only[tbA];rw[hN0,hN1,b4x gN nNT (Ne.symm nMN) nNB,b3N]) (by simp only[tbA];exact b4M) (by simp only[tbA];rw[hN0,b4T];rfl)
   (by simp only;exact b4o gF' (Ne.symm nTF) (Ne.symm nMF) (Ne.symm nBF) (Ne.symm nNF) (Ne.symm nRF) (Ne.symm rF))
   (fun x hx=>by simp only at hx;exact b4o x (fun e=>nTi (e▸hx)) (fun e=>nMi (e▸hx)) (fun e=>nBi (e▸hx)) (fun e=>nNi (e▸hx)) (fun e=>nRi (e▸hx)) (fun e=>ri (e▸hx)))
   (by simp only[tbA];rw[hN0,hN1,b4x gr rT (Ne.symm nMr) rB,b3x gr rT (Ne.symm nNr) rR,b2r]) hgr hgN hgM (by
     simp only[List.nodup_cons,List.mem_cons,not_or,List.mem_append,List.mem_singleton,List.nodup_append,List.not_mem_nil,or_false]
     refine⟨⟨Ne.symm nNT,Ne.symm nMT,nTF,nTi,Ne.symm rT⟩,⟨Ne.symm nMN,nNF,nNi,nNr⟩,⟨nMF,nMi,nMr⟩,⟨nFi,Ne.symm rF⟩,Wi,by simp,fun a ha c hc=> ?_⟩
     rw[hc];exact fun e=>ri (e▸ha))
  refine⟨⟨i+1,⟨gT',gN,gM,gF',ids++ [gr]⟩,b4⟩,⟨by simp only;omega,C2,rfl,rfl,fun x hx=> ?_,fun x y hx=> ?_⟩,by simp only;omega,rfl,by simp[h.aS,h.b],by rw[iW];exact lE _ _ _⟩
  ·simp only[TG.all,List.mem_cons,List.mem_append,List.not_mem_nil,or_false] at hx
   rcases hx with rfl | rfl | rfl | rfl | hx | rfl
   ·exact hbT
   ·exact blN
   ·exact blM
   ·exact hbF
   ·exact hal x (by simp[TG.all,hx])
   ·exact rbl
  ·have nx: ∀z,bl z=none→x≠z:=fun z hz e=>by rw[e,hz] at hx;cases hx
   simp only
   rw[b4o x (nx _ hbT) (nx _ blM) (nx _ blB) (nx _ blN) (nx _ blR) (nx _ rbl)]
   exact hsb x y hx
 ·have hie:i=m:=by omega
  subst hie
  clear hi him
  refine⟨by omega,by unfold maxLen;omega,fun gO hgO hbO=> ?_⟩
  have oT: ¬ gO=gT':=fun e=>by rw[e,bT] at hbO;cases hbO
  have oR: ¬ gO=gR:=fun e=>by rw[e,bG] at hbO;cases hbO
  have oB: ¬ gO=gB:=fun e=>by rw[e,bB] at hbO;cases hbO
  have oF: ¬ gO=gF':=fun e=>by rw[e,bF] at hbO;cases hbO
  have oi:gO∉ids:=fun hm2=>by
   obtain⟨q,hq⟩:=List.mem_iff_getElem?.1 hm2
   rw[hTb.fJ.row q gO hq] at hbO;cases hbO
  have nds:=hTb.nd
  simp only[List.nodup_cons,List.mem_cons,not_or] at nds
  obtain⟨⟨nTR,nTB,nTF,nTi⟩,⟨nRB,nRF,nRi⟩,⟨nBF,nBi⟩,nFi,Wi⟩:=nds
  refine aJ (fun k:Nat=> [(0,.ptr p.v),(4,.int .i64 N),(5,.loc gT' 6 0 0),(11,.lsl gO 1 0 N),(117,.int .i64 N),(118,.int .i64 k)]) (fun k=>upd (upd b gF' (some ⟨1,lv N fun c=>decide (c<k∧c<n)⟩)) gO (some ⟨1,iv (lz N fun c=>if c<k then oA n i c else 0)⟩)) (fun k=>k≤N) (fun k=>N - k) _ 0 (Nat.zero_le _) ⟨rfl,by simp[Pg.v,h.b,h.aS],?_⟩ ?_
  ·refine sub_eq ?_
   funext x
   simp only[aA]
   rw[Au]
   split
   ·simp
   ·split
    ·rename_i e;rw[e,bF];simp
    ·rfl
  intro k hk
  have wk:IntKind.i64.wrap ((k:Int)+1)=(k:Int)+1:=i64_in (by omega) (by omega)
  refine aE ?_
  simp
  refine aE ?_
  simp
  refine⟨fun hkn=> ?_,fun hkn=> ?_⟩
  ·refine aN (aV ?_)
   refine aE ?_
   simp
   refine aN ?_
   refine dK aM [0,1,2,3,4,5,6,7,8,9,10,11] 1 12 (by kernel_rfl) ?_
   have nOT:=Ne.symm oT
   simp[Pg.v,h.aS,bT,nOT,nTF,hkn]
   refine dM (i:=12) (by kernel_rfl) rfl rfl rfl ?_
   simp[Ne.symm oF,hkn,Ge, -Bool.decide_and]
   refine Dy ?_
   simp
   refine aC ?_
   simp[Pg.v,h.aS,oF,hkn,wk,aB,Tn]
   refine⟨fun hnk=> ?_,fun hnk=> ?_⟩
   ·refine aC ?_
    simp[wk,aB]
    refine⟨k+1,by omega,by omega,rfl,by simp[h.aS],sub_eq ?_⟩
    have e1:(lv N fun c=>decide (c<k+1)&& decide (c<n))=lv N fun c=>if c=k then decide (k<n) else decide (c<k)&& decide (c<n):=qD fun c _=>by
     by_cases e:c=k
     ·subst e;simp
     ·rw[if_neg e,show decide (c<k+1)=decide (c<k) from by simp;omega]
    have e2:(lz N fun c=>if c<k+1 then oA n i c else 0)=lz N fun c=>if c=k then -1 else if c<k then oA n i c else 0:=E2 fun c hc=>by
     by_cases e:c=k
     ·subst e;rw[if_pos (by omega),if_pos rfl];unfold oA;rw[if_pos ⟨hnk,by omega⟩]
     ·rw[if_neg e];grind
    funext x
    simp only[aA]
    rw[e1,e2]
    grind
   ·refine aC ?_
    simp[wk,aB]
    refine⟨k+1,by omega,by omega,rfl,by simp[h.aS],sub_eq ?_⟩
    have e1:(lv N fun c=>decide (c<k+1)&& decide (c<n))=lv N fun c=>if c=k then decide (k<n) else decide (c<k)&& decide (c<n):=qD fun c _=>by
     by_cases e:c=k
     ·subst e;simp
     ·rw[if_neg e,show decide (c<k+1)=decide (c<k) from by simp;omega]
    have e2:(lz N fun c=>if c<k+1 then oA n i c else 0)=lz N fun c=>if c<k then oA n i c else 0:=E2 fun c hc=>by
     by_cases e:c=k
     ·subst e;rw[if_pos (by omega),if_neg (by omega)];unfold oA;rw[if_neg (by omega)]
     ·grind
    funext x
    simp only[aA]
    rw[e1,e2]
    grind
  ·have hke:k=N:=by omega
   subst hke
   clear hkn hk
   obtain⟨bM,hbM⟩: ∃bM,bM=upd (upd b gF' (some ⟨1,lv k fun c=>decide (c<k)&& decide (c<n)⟩)) gO (some ⟨1,iv (lz k fun c=>if c<k then oA n i c else 0)⟩):=⟨_,rfl⟩
   rw[←hbM]
   have bMF:bM gF'=some ⟨1,lv k (okA n)⟩:=by
    rw[hbM]
    simp[Ne.symm oF]
    exact qD fun c hc=>by unfold okA;simp[hc]
   have bMO:bM gO=some ⟨1,iv (lz k (oA n i))⟩:=by
    rw[hbM]
    simp
    rw[E2 fun c hc=>by rw[if_pos hc]]
   have bMx: ∀x,x≠gF'→x≠gO→bM x=b x:=fun x x1 x2=>by rw[hbM,aG _ _ _ _ x2,aG _ _ _ _ x1]
   clear hbM
   have hTM:=(hTb.aKG (b':=bM) (okA n) (by simp only[tbA];rw[hN0];exact bMF) (fun x y hx hx2 hy=>by
    rw[bMx x hx2 fun e=> ?_];exact hy
    have:=hal x hx
    rw[e] at hy;rw[hbO] at hy;cases hy)).first h
   obtain⟨e,h1,h2,h3,h4⟩:=Lp.tF (F:=fO (n+i) (okA n)) (N':=n+i) h.init (fun c hc=>hc.1) (Nat.le_refl _) (fun c hc=>⟨by omega,by omega,by unfold okA;simpa using hc⟩)
   rw[←Pa] at h1 h2 h3
   have hnx:Lp.nx (n+i) (n+i) (List.range i) (Lp.okW i (wO (oA n i)) (fO (n+i) (okA n))) (Lp.orb (Lp.nx (n+i) (n+i) (List.range i) (Lp.okW i (wO (oA n i)) (fO (n+i) (okA n)))) (Lp.kY n (eQ p n i)) e)=none:=by
    unfold Lp.nx at h1 ⊢
    rw[h1]
   have hoA: ∀c,(oA n i c).natAbs≤1000:=fun c=>by unfold oA;split<;>decide
   have Cb:=fun K'=>xQ (bl:=bM) (K:=K') n i (eQ p n i) (List.range i) ⟨gT',gR,gB,gF',ids⟩ (Lp.kY n (eQ p n i)) (okA n) (oA n i) gO e hml hnl (mF i) hoA (.inl fun q hq=>by simpa using hq) hnx h2 h3 hTM (by rw[hN0];exact bMO) hgO (by simp[TG.all,oT,oR,oB,oF,oi])
   rw[Pa] at h1
   simp only[Pa] at Cb
   obtain⟨t,ht⟩: ∃t,Lp.orb (Lp.nx (n+i) (n+i) (List.range i) (Lp.okW i (Lp.bE n i) (fO (n+i) (okA n)))) (Lp.kY n (eQ p n i)) e=t:=⟨_,rfl⟩
   rw[ht] at h1 h4
   simp only[ht] at Cb
   simp only[hN0] at Cb
   rw[hN0] at h1
   refine Cb _ (fun b' _ hT2 hx2=> ?_) (fun b' k' hk'=>absurd hk' (by rw[h1];simp))
   clear Cb
   generalize frK i (oA n i) t (okA n) k=fr at hT2
   simp
   have aAN:k<N1:=by omega
   have aL7:(k:Int)<N1:=by omega
   have cT:b' gT'=_:=hT2.hd
   have cB:b' gB=_:=hT2.ba
   have cG:b' gR=_:=hT2.fJ.top
   have cF:b' gF'=_:=hT2.fre
   have hrl:(List.range i).length=i:=by simp
   simp only[bY,hrl,hN0,hN1] at cT cB cG cF
   have cB2:lb i (fun q=>t.bs (atR (List.range i) q))=lb i t.bs:=List.map_congr_left fun q hq=>by
    have hq':q<i:=by simpa using hq
    simp only[dO hq']
   rw[cB2] at cB
   simp[cT]
   have cS:Sub bl b':=fun x y hx=>by
    have h9:=hsb x y hx
    have x1:x∉TG.all ⟨gT',gR,gB,gF',ids⟩:=fun hm2=>by have:=hal x hm2;rw[this] at hx;cases hx
    have x2:x≠gF':=fun e=>x1 (by rw[e];simp[TG.all])
    have x3:x≠gO:=fun e=>by rw[e,hbO] at h9;cases h9
    exact hx2 x y (by rw[bMx x x2 x3];exact h9) x1
   refine aJ (fun j:Nat=> [(0,.ptr p.v),(4,.int .i64 k),(5,.loc gT' 6 0 0),(149,.lsl gB 1 0 i),(150,.int .i64 i),(151,.int .i64 j)]) (fun _=>b') (fun j=>j≤i∧ ∀q,q<j→ ¬ (n≤t.bs q∧0<t.X q (n+i))) (fun j=>i - j) _ 0 ⟨Nat.zero_le _,fun q hq=>by omega⟩ ⟨rfl,by simp[Pg.v,h.b,h.aS],Sub.refl _⟩ ?_
   rintro j ⟨hj,bI⟩
   have wj:IntKind.i64.wrap ((j:Int)+1)=(j:Int)+1:=i64_in (by omega) (by omega)
   refine aE ?_
   simp
   refine aE ?_
   simp
   refine⟨fun hji=> ?_,fun hji=> ?_⟩
   ·refine aN (aV ?_)
    refine aE ?_
    simp[cB,hji]
    obtain⟨gi,hgi,yQ,yP,nI⟩:=hT2.fJ.at j (by simp only[bY,hrl];exact hji)
    simp only[bY] at nI
    rw[hN0,hN1,dO hji] at nI
    obtain⟨zx,hzx⟩: ∃zx,Lp.zt i (eQ p n i) t j k=zx:=⟨_,rfl⟩
    refine aE ?_
    simp
    refine bD [(0,.ptr p.v),(4,.int .i64 k),(5,.loc gT' 6 0 0),(149,.lsl gB 1 0 i),(150,.int .i64 i),(151,.int .i64 j),(13,.int .i64 j),(14,.int .i64 (t.bs j))] _ b' 175 (.bool (decide (n≤t.bs j∧0<zx))) ⟨rfl,by simp[Pg.v,h.b,h.aS],Sub.refl _⟩ rfl ?_ ?_
    ·simp[Pg.v,h.aS]
     by_cases hnb:n≤t.bs j
     ·have hgj: ∀h,ids[j]'h=gi:=fun h=>by rw[List.getElem?_eq_getElem h] at hgi;exact Option.some.inj hgi
      simp[hnb,Nat.not_lt.2 hnb,cT,cG,hji,hgj,nI,aAN,aL7,hil]
      refine aD (mQ _) ?_
      rw[hzx]
      have hsp:0<zx.sign ↔ 0<zx:=by
       rcases Int.lt_trichotomy zx 0 with q | q | q
       ·rw[Int.sign_eq_neg_one_of_neg q];omega
       ·rw[q];decide
       ·rw[Int.sign_eq_one_of_pos q];omega
      simp[hsp]
     ·simp[hnb]
    have hzs:=Lp.rO h4.inv.z hji (show n+i<n+i+1 by omega)
    rw[hN0,hzx] at hzs
    have hzero:Lp.rc i (Lp.bE n i) t (n+i)=0→t.bs j<n∨t.X j (n+i)=0:=fun h0=>by
     rcases Nat.lt_or_ge (t.bs j) n with g | g
     ·exact .inl g
     ·exact .inr (h4.zero h0 j hji (by omega))
    refine aC ?_
    simp
    refine⟨fun c1 c2=> ?_,fun hno=> ?_⟩
    ·rw[bV]
     refine⟨[.nilp,.bool false],by simp,hN b' t h4 (fun h0=> ?_) cS⟩
     have:=hzs.1.1 c2
     rw[←hN0] at this
     rcases hzero h0 with g | g
     ·omega
     ·rw[g] at this;exact absurd this (by decide)
    ·refine aC ?_
     simp[wj,aB]
     refine⟨j+1,⟨by omega,fun q hq c1 c2=> ?_⟩,by omega,rfl,by simp[h.aS,h.b],Sub.refl _⟩
     by_cases e:q=j
     ·subst e
      rw[hN0] at c2
      have g1:=hno c1
      have g2:=hzs.1.2 c2
      omega
     ·exact bI q (by omega) ⟨c1,c2⟩
   ·have hje:j=i:=by omega
    subst hje
    have hp0:Lp.rc j (Lp.bE n j) t (n+j)=0:=by
     rw[Lp.vW rfl]
     refine Lp.jW fun q hq=> ?_
     split
     ·rename_i hb
      have h8:=h4.inv.nn q hq
      have h9: ¬ 0<t.X q (n+j):=fun g=>bI q hq ⟨hb.1,g⟩
      grind
     ·rfl
    simp[cT]
    refine aJ (fun c:Nat=> [(0,.ptr p.v),(4,.int .i64 k),(5,.loc gT' 6 0 0),(181,.int .i64 k),(182,.int .i64 c)]) (fun c=>upd b' gF' (some ⟨1,lv k fun x=>if x<c then okA n x else fr x⟩)) (fun c=>c≤k) (fun c=>k - c) _ 0 (Nat.zero_le _) ⟨rfl,by simp[Pg.v,h.b,h.aS],?_⟩ ?_
    ·refine sub_eq ?_
     funext x
     simp only[aA]
     split
     ·rename_i e;rw[e,cF];simp
     ·rfl
    intro c hc
    have wc:IntKind.i64.wrap ((c:Int)+1)=(c:Int)+1:=i64_in (by omega) (by omega)
    refine aE ?_
    simp
    refine aE ?_
    simp
    refine⟨fun hck=> ?_,fun hck=> ?_⟩
    ·refine aN (aV ?_)
     refine aE ?_
     simp
     refine dK aM [0,1,2,3,4,5,6,7,8,9,10,11] 1 12 (by kernel_rfl) ?_
     simp[Pg.v,h.aS,cT,nTF,hck]
     refine dM (i:=12) (by kernel_rfl) rfl rfl rfl ?_
     simp[hck,Ge]
     refine Dy ?_
     simp
     refine aC ?_
     simp[wc,aB]
     refine⟨c+1,by omega,by omega,rfl,by simp[h.aS],sub_eq ?_⟩
     funext x
     simp only[aA]
     split
     ·congr 2
      exact qD fun y hy=>by
       by_cases e:y=c
       ·subst e;simp[okA]
       ·rw[if_neg e];grind
     ·rfl
    ·have hce:c=k:=by omega
     subst hce
     obtain⟨bL,hbL⟩: ∃bL,bL=upd b' gF' (some ⟨1,lv c fun x=>if x<c then okA n x else fr x⟩):=⟨_,rfl⟩
     rw[←hbL]
     have bLF:bL gF'=some ⟨1,lv c (okA n)⟩:=by rw[hbL,aZ,qD fun x hx=>by rw[if_pos hx]]
     have bLx: ∀x,x≠gF'→bL x=b' x:=fun x x1=>by rw[hbL,aG _ _ _ _ x1]
     clear hbL
     have hTL:=hT2.aKG (b':=bL) (okA n) (by simp only[bY];rw[hN0];exact bLF) (fun x y hx hx2 hy=>by rw[bLx x hx2];exact hy)
     simp[Pg.v,h.aS]
     refine Sq n j (eQ p n j) ⟨gT',gR,gB,gF',ids⟩ t (okA n) hml hnl (h4.lF hp0) hTL fun b5 g5 e1 e2 hT5 aTJ hb5=> ?_
     simp
     rw[bV]
     have n5: ∀x y,bl x=some y→x∉TG.all ⟨gT',gR,gB,gF',ids⟩:=fun x y hx hm2=>by have:=hal x hm2;rw[this] at hx;cases hx
     refine⟨[.loc g5.T 6 0 0,.bool true],by simp[e1],hS b5 g5 t h4 hp0 hT5 (fun x hx=> ?_) fun x y hx=> ?_⟩
     ·rcases aTJ x hx with g1 | g1
      ·exact hal x g1
      ·cases hv:bl x with
       | none => rfl
       | some y =>
         have g2:=n5 x y hv
         rw[bLx x fun e=>g2 (by rw[e];simp[TG.all]),cS x y hv] at g1
         cases g1
     ·have g2:=n5 x y hx
      exact hb5 x y (by rw[bLx x fun e=>g2 (by rw[e];simp[TG.all])];exact cS x y hx) g2

section
variable {P : Program}
theorem Mem.see {w0:World} {M F:Nat→Prop} {bl:Int→Option Blk} {w:World} (hm:Mem w0 M F bl w) {g:Int} {b b':Blk} (hb:bl g=some b) (hB:cV F w g b'):Mem w0 M F (upd bl g (some b')) w:=by
 refine⟨hm.os,hm.tape,hm.output,hm.size,hm.frame,hm.jU,hm.fr,?_,fun x c hx h0=> ?_,fun x c hx=> ?_⟩
 ·obtain⟨n,hn⟩:=hm.fin
  refine⟨n,fun x hx=> ?_⟩
  have:=hn x hx
  by_cases hxg:x=g
  ·subst hxg;rw[hb] at this;cases this
  ·rw[aG _ _ _ _ hxg];exact this
 ·by_cases hxg:x=g
  ·subst hxg;exact hm.own x _ hb h0
  ·rw[aG _ _ _ _ hxg] at hx
   exact hm.own x c hx h0
 ·by_cases hxg:x=g
  ·subst hxg
   rw[aZ] at hx
   cases hx;exact hB
  ·rw[aG _ _ _ _ hxg] at hx
   exact hm.blk x c hx
def uns (cs:List V):List (List V):=cs.map fun x=> [x]
theorem Bo {F:Nat→Prop} {w:World} {g:Int} {cs:List V} (h0:0≤g):cV F w g ⟨1,uns cs⟩ ↔ cV F w g ⟨cs.length,[cs]⟩:=by
 unfold cV uns
 rw[if_neg (by omega),if_neg (by omega)]
 constructor
 ·rintro⟨h1,c,t,h2,h3,h4⟩
  refine⟨h1,c,t,h2,by simpa using h3,fun k e he=> ?_⟩
  have hk:k=0:=by
   have:=(List.getElem?_eq_some_iff.1 he).1
   simpa using this
  subst hk
  cases he
  refine⟨rfl,fun j x hx=> ?_⟩
  obtain⟨-,h5⟩:=h4 j [x] (by simp[hx])
  obtain⟨h6,v,h7,h8⟩:=h5 0 x rfl
  exact⟨h6,v,by simpa using h7,h8⟩
 ·rintro⟨h1,c,t,h2,h3,h4⟩
  refine⟨h1,c,t,h2,by simpa using h3,fun k e he=> ?_⟩
  simp only[List.getElem?_map] at he
  cases hk:cs[k]? with
  | none => rw [hk] at he; cases he
  | some y =>
    rw[hk] at he;cases he
    refine⟨rfl,fun j x hx=> ?_⟩
    have hj:j=0:=by
     have:=(List.getElem?_eq_some_iff.1 hx).1
     simpa using this
    subst hj
    cases hx
    obtain⟨-,h5⟩:=h4 0 cs rfl
    obtain⟨h6,v,h7,h8⟩:=h5 k y hk
    exact⟨h6,v,by simpa using h7,h8⟩
def TS (P:Program) (o:Oper) (K:St→Prop) (σ:St):Prop:= ∀(w0:World) (M F:Nat→Prop) (a:Act) (w:World) (Q:Exit→Act→World→Prop),Sim w0 M F σ a w→o.wp P a w (Nx w0 M F K) Q
theorem Nq {ops:Array Oper} {Q:Exit→Act→World→Prop} {F0:Nat→Prop} {w0:World} {M:Nat→Prop} {K:St→Prop} {r:List Oper} (hQ: ∀σ F a w,(∀b,F0 b→F b)→Sim w0 M F σ a w→K σ→wpList P ops Q r a w) (l:List Oper):
  ∀(σ:St) (F:Nat→Prop) (a:Act) (w:World),(∀b,F0 b→F b)→Ops P (ops.toList.map (·.dst)) l K σ→Sim w0 M F σ a w→wpList P ops Q (l++r) a w:=by
 induction l with
 | nil => intro σ F a w hF h hs; exact hQ σ F a w hF hs h
 | cons o rest ih =>
   intro σ F a w hF h hs
   have next:T P o (Ops P (ops.toList.map (·.dst)) rest K) σ→o.wp P a w (wpList P ops Q (rest++r)) Q:=fun hT=>
    Oper.wp_mono (fun a' w' hn=>by
     obtain⟨σ',F',hF',hs',hK⟩:=hn
     exact ih σ' F' a' w' (fun b hb=>hF' b (hF b hb)) hK hs') (T2 hT hs)
   unfold Ops at h
   rw[List.cons_append]
   unfold wpList
   split at h
   ·rename_i hg
    rw[if_pos (by simp[Region.wanted,hg])]
    exact .inl (next h)
   ·rename_i j b hg
    split at h
    ·rename_i d hd
     rcases iP h with ⟨q,hq,h1,h2⟩| ⟨hq,h1⟩
     rotate_left
     ·rw[if_neg (by simp[Region.wanted,hg,oV hd hs hq])]
      exact ih _ F _ w hF h1 (hs.put nS)
     have hy:=E1 hd hs hq
     by_cases hqb:q=b
     ·rw[if_pos (by simp[Region.wanted,hg,hy,hqb])]
      have h1':=h1 hqb
      subst hqb
      rw[oE hq] at h1'
      exact .inl (next h1')
     ·rw[if_neg (by simp[Region.wanted,hg,hy,hqb])]
      have Fu:q= !b:=by cases q<;>cases b<;>simp_all
      have h2':=h2 Fu
      rw[←Fu,oE hq] at h2'
      exact ih _ F _ w hF h2' (hs.put nS)
    ·exact h.elim
theorem Hh {id:Nat} {ops:Array Oper} {K:Ex→St→Prop} {σ:St} (o:Oper) (ho:ops.toList.getLast? =some o) (hg:o.guard=none) (h:OpsF P (ops.toList.map (·.dst)) ops.toList.dropLast (TS P o (K .normal)) σ):AW P (.region id ops false) K σ:=by
 intro w0 M F a w hs
 refine wp_region_list ?_
 have e:ops.toList=ops.toList.dropLast++ [o]:=by
  obtain⟨hne,hl⟩:=List.getLast?_eq_some_iff.1 ho
  rw[hl];simp
 have hgo:=Nq (P:=P) (ops:=ops) (Q:=T1 w0 M F K) (F0:=F) (w0:=w0) (M:=M) (r:= [o]) (K:=TS P o (K .normal)) (fun σ' F' a' w' hF' hs' hK=>by
  unfold wpList
  rw[if_pos (by simp[Region.wanted,hg])]
  refine .inl (Oper.wp_mono (fun a2 w2 hn=> ?_) (hK w0 M F' a' w' _ hs'))
  obtain⟨σ2,F2,h1,h2,h3⟩:=hn
  exact⟨.normal,σ2,F2,rfl,fun b hb=>h1 b (hF' b hb),h2,h3⟩) ops.toList.dropLast σ F a w (fun _ h=>h) (vV h) hs
 rw[←e] at hgo
 exact hgo
theorem O8 : ∀(cs l:List V) (o:Nat),o+cs.length≤l.length→splice l o cs=l.take o++(cs++l.drop (o+cs.length))
 | [], l, o, h => by simp [splice]
 | c :: cs, l, o, h => by
   rw[splice,O8 cs (l.set o c) (o+1) (by simp at h ⊢;omega)]
   simp only[List.length_cons] at h
   rw[List.take_succ_eq_append_getElem (by simp;omega),List.getElem_set_self,List.take_set_of_le (Nat.le_refl _),List.drop_set_of_lt (by omega)]
   simp[Nat.add_assoc,Nat.add_comm 1]
theorem Gr {α β:Type} [DecidableEq α] (f:α→β) (a:α) (b c:β):upd (upd f a b) a c=upd f a c:=by
 funext x
 simp only[aA]
 split<;>rfl
theorem Mem.Ts {w0:World} {M F:Nat→Prop} {bl:Int→Option Blk} {w:World} (hm:Mem w0 M F bl w) {g:Int} {cs ys:List V} (h0:0≤g) (hb:bl g=some ⟨1,uns cs⟩) (hle:ys.length≤cs.length) (fV: ∀x,x∈ys→x.one=true)
  {vs:List Value} (hvl:vs.length=ys.length) (hvr: ∀(i:Nat) (x:V),ys[i]? =some x→ ∃v,vs[i]? =some v∧Rep F w x v) (hvo: ∀v,v∈vs→v.oneCell'=true):
  ∃w',(storeCells ⟨g.toNat,0,none⟩ vs).run P w= .ok () w'∧Mem w0 M F (upd bl g (some ⟨1,uns (ys++cs.drop ys.length)⟩)) w'∧(∀k,F k→w'.heap[k]? =w.heap[k]?)∧fE w w':=by
 have m1:=hm.see hb ((Bo h0).1 (hm.blk g _ hb))
 obtain⟨w',h1,h2,h3,h4⟩:=m1.store (P:=P) (g:=g) (b:=⟨cs.length,[cs]⟩) (k:=0) (j:=0) (e:=cs) (cs:=ys) (aZ _ _ _) rfl (by simpa using hle) fV hvl hvr hvo
 have hsp:splice cs 0 ys=ys++cs.drop ys.length:=by rw[O8 ys cs 0 (by omega)];simp
 have hl:(ys++cs.drop ys.length).length=cs.length:=by simp;omega
 rw[Gr] at h2
 simp only[List.set_cons_zero,hsp] at h2
 have m2:=h2.see (aZ _ _ _) ((Bo (cs:=ys++cs.drop ys.length) h0).2 (by rw[hl];exact h2.blk g _ (aZ _ _ _)))
 rw[Gr] at m2
 exact⟨w',by simpa using h1,m2,h3,h4⟩
theorem Uh {d:Option Nat} {ty:TypeId} {pos:String} {af:Array Edge} {gd:Option (Nat×Bool)} {K:St→Prop} {σ:St} {x y:Operand} {t tx e:TypeId} {g:Int} {n:Nat} {cs ys:List V} (hx:σ.ev x= .lsl g 1 0 n) (hy:σ.ev y= .sl (uns ys))
  (h0:0≤g) (hb:σ.bl g=some ⟨1,uns cs⟩) (hcn:cs.length=n) (hle:ys.length≤n) (hys:((uns ys).all fun c=>c.length==1 && c.all V.one)=true) (he:slE P t=some e) (hz:csz P e=some 1)
  (hK:K (({ σ with bl:=upd σ.bl g (some ⟨1,uns (ys++cs.drop ys.length)⟩) } :St).put d (.int .i64 ys.length))):
  TS P ⟨d,.call { callee:= .builtin .copy,args:= #[x,y],argTypes:= #[t,tx] },ty,pos,af,gd⟩ K σ:=by
 intro w0 M F a w Q hs
 have hxr:=hs.ev x
 rw[hx] at hxr
 have hyr:=hs.ev y
 rw[hy] at hyr
 rcases R2 hxr with ⟨cK, -⟩| ⟨hg,cap,hlc,kC,hav, -⟩
 ·omega
 have hL:=pH hs.mem hyr (sz:=1) (Nat.le_refl _) (ys:=uns ys) (by simp only[elsV];rw[if_pos hys])
 obtain⟨xa,xc,news,hxv,hnl,hnc,hno,hnr⟩:=hL
 have hul:(uns ys).length=ys.length:=by simp[uns]
 rw[hul] at hxv hnl
 have hf:(Builtin.firstCells 1 ys.length (.slice xa ys.length xc)).run P w= .ok news.toArray w:=by
  rcases hnc with h | ⟨bb,off,rfl,mH⟩
  ·have hy0:ys= []:=by cases ys with
    | nil => rfl
    | cons => simp [uns] at h
   subst hy0
   have hn0:news= []:=List.eq_nil_of_length_eq_zero (by simpa using hnl)
   subst hn0
   cases xa<;>simp[Builtin.firstCells,loadCells,loadCellsFrom]
  ·exact run_firstCells_some w 1 ys.length ⟨bb,off,none⟩ ys.length xc news hnl (fun j u hu=>by rw[eX];exact mH j u hu)
 have fV: ∀z,z∈ys→z.one=true:=fun z hz=>by
  have:=List.all_eq_true.1 hys [z] (by simp[uns,hz])
  simpa using this
 obtain⟨w',h1,h2,h3,h4⟩:=hs.mem.Ts (P:=P) (vs:=news) h0 hb (by omega) fV (by simpa using hnl) (fun i z hz=>by
  obtain⟨-,h6⟩:=hnr i [z] (by simp[uns,hz])
  obtain⟨-,u,h7,h8⟩:=h6 0 z rfl
  exact⟨u,by simpa using h7,h8⟩) hno
 have hs':Sim w0 M F ({ σ with bl:=upd σ.bl g (some ⟨1,uns (ys++cs.drop ys.length)⟩) } :St) a w':=⟨h2,hs.size,fun t ht=>(hs.sl t ht).mono (fun _ h=>h) h3 h4,hs.defers⟩
 refine bK (v:=goInt ys.length) (w':=w') ?_ ⟨_,F,fun _ h=>h,hs'.put (.int _ _),hK⟩
 have aVA:Nat.min ys.length n=ys.length:=Nat.min_eq_left hle
 simp only[execOp,resolve,Sem.run_bind,Sem.run_pure,Result.andThen_ok,invoke,builtin,List.map_toArray,List.map_cons,List.map_nil,Builtin.copy_,List.getElem?_toArray,List.getElem?_cons_zero,List.getElem?_cons_succ,run_underlying (cL he),hav,hxv,Builtin.lenOf,aVA,run_sizeOf hz,hf]
 rw[Nat.zero_mul,h1];rfl
theorem Kr {e:TypeId} {u:V} (h:zeroC P e=some [u]): ∃i z v,P.info? e=some i∧i.zero=some z∧z.cells= #[v]∧ofCell v=u∧u.one=true:=by
 obtain⟨i,z,h1,h2,h3,h4,h5⟩:=kA h
 have hl:z.cells.toList.length=1:=by
  have:=congrArg List.length h3
  simpa using this.symm
 obtain⟨v,hv⟩:=List.length_eq_one_iff.1 hl
 rw[hv] at h3
 refine⟨i,z,v,h1,h2,?_,?_,by simpa using h4⟩
 ·rw[←Array.toArray_toList (xs:=z.cells),hv]
 ·simpa using h3.symm
theorem Nm {d:Option Nat} {ty:TypeId} {pos:String} {af:Array Edge} {gd:Option (Nat×Bool)} {K:St→Prop} {σ:St} {x:Operand} {t e:TypeId} {g:Int} {n:Nat} {cs:List V} {u:V} (hx:σ.ev x= .lsl g 1 0 n)
  (h0:0≤g) (hb:σ.bl g=some ⟨1,uns cs⟩) (hcn:cs.length=n) (he:slE P t=some e) (hz:zeroC P e=some [u])
  (hK:K (({ σ with bl:=upd σ.bl g (some ⟨1,uns (List.replicate n u)⟩) } :St).put d (.tup []))):
  TS P ⟨d,.call { callee:= .builtin .clear,args:= #[x],argTypes:= #[t] },ty,pos,af,gd⟩ K σ:=by
 intro w0 M F a w Q hs
 obtain⟨i,z,v,hi,hzz,hzc,hvu,hu1⟩:=Kr hz
 have hxr:=hs.ev x
 rw[hx] at hxr
 rcases R2 hxr with ⟨cK, -⟩| ⟨hg,cap,hlc,kC,hav, -⟩
 ·omega
 have hru:Rep F w u v:=by rw[←hvu];exact pN F w v
 obtain⟨w',h1,h2,h3,h4⟩:=hs.mem.Ts (P:=P) (ys:=List.replicate n u) (vs:=List.replicate n v) h0 hb (by simp;omega) (fun z hz=>by rw[(List.mem_replicate.1 hz).2];exact hu1) (by simp) (fun i y hy=>by
  have hin:i<n:=by have:=(List.getElem?_eq_some_iff.1 hy).1;simpa using this
  rw[List.getElem?_replicate,if_pos hin] at hy
  cases hy
  exact⟨v,by rw[List.getElem?_replicate,if_pos hin],hru⟩) (fun y hy=>by rw[(List.mem_replicate.1 hy).2];exact hru.one hu1)
 have hd:List.replicate n u++cs.drop (List.replicate n u).length=List.replicate n u:=by simp[hcn]
 rw[hd] at h2
 have hs':Sim w0 M F ({ σ with bl:=upd σ.bl g (some ⟨1,uns (List.replicate n u)⟩) } :St) a w':=⟨h2,hs.size,fun t ht=>(hs.sl t ht).mono (fun _ h=>h) h3 h4,hs.defers⟩
 refine bK (v:= .tuple #[]) (w':=w') ?_ ⟨_,F,fun _ h=>h,hs'.put (.tup _ _ rfl (by simp)),hK⟩
 have hzl:(Builtin.zeroCells z.cells n).toList=List.replicate n v:=by
  rw[hzc]
  apply List.ext_getElem
  ·simp[Builtin.zeroCells]
  ·intro j h1 h2
   simp[Builtin.zeroCells,Nat.mod_one]
 have hzv:(zeroValue e).run P w= .ok z w:=by simp[zeroValue,typeInfo,hi,hzz]
 cases n with
 | zero =>
   have hw:w'=w:=by simpa [storeCells] using h1.symm
   subst hw
   simp only[execOp,resolve,Sem.run_bind,Sem.run_pure,Result.andThen_ok,invoke,builtin,List.map_toArray,List.map_cons,List.map_nil,Builtin.clear_,List.getElem?_toArray,List.getElem?_cons_zero,run_underlying (cL he),hav]
 | succ n =>
   simp only[execOp,resolve,Sem.run_bind,Sem.run_pure,Result.andThen_ok,invoke,builtin,List.map_toArray,List.map_cons,List.map_nil,Builtin.clear_,List.getElem?_toArray,List.getElem?_cons_zero,run_underlying (cL he),hav,hzv,hzl]
   rw[Nat.zero_mul,h1];rfl
end

structure Stg (n m : Nat) (E : Nat → Nat → Rat) (C : Nat → Rat) (rows : List Nat) (q : Nat) (fr : Nat → Bool) (t : Lp.Tab) : Prop where
 mid:Lp.Mid n m 1000 E rows (fO (n+m) fr) t
 sel:Lp.Sel n m (n+m) E C q (fO (n+m) fr)
theorem Pz {m N:Nat} {O:Nat→Int} {t:Lp.Tab} {fr:Nat→Bool} (hf:Lp.fstP (Lp.okW m (wO O) (fO N fr) t) N=none):fO N (frK m O t fr N)=Lp.Fn m (wO O) (fO N fr) t:=by
 funext c
 refine propext ?_
 unfold fO Lp.Fn frK
 constructor
 ·rintro⟨h1,h2⟩
  rw[if_pos h1,Bool.and_eq_true] at h2
  obtain⟨h3,h4⟩:=h2
  have h5: ¬ Lp.rc m (wO O) t c<0:=by simpa using h4
  have h6:=Lp.eV.1 hf c h1
  unfold Lp.okW fO at h6
  refine⟨⟨h1,h3⟩,?_⟩
  have h7: ¬ 0<Lp.rc m (wO O) t c:=fun g=>h6 ⟨⟨h1,h3⟩,g⟩
  grind
 ·rintro⟨⟨h1,h2⟩,h3⟩
  refine⟨h1,?_⟩
  rw[if_pos h1,h2,h3]
  have: ¬ ((0:Rat)<0):=by decide
  simp[this]
theorem Be {bl:Int→Option Blk} {K:V→(Int→Option Blk)→Prop} (n m:Nat) (E:Nat→Nat→Rat) (rows:List Nat) (g:TG) (t:Lp.Tab) (fr:Nat→Bool) (C:Nat→Rat) (q:Nat) (O:Nat→Int) (gO:Int)
  (hm:m≤17) (hn:n+m≤100) (hr:Rows m rows) (hS:Stg n m E C rows q fr t) (hw:wO O=Lp.wl C q) (hO: ∀c,(O c).natAbs≤1000) (hO0: ∀c,n≤c→O c=0)
  (hTT:TT bl g (bY n m E rows t fr)) (hgO:bl gO=some ⟨1,iv (lz (n+m) O)⟩) (hg0:0≤gO) (hgn:gO∉g.all)
  (hT: ∀b' t' fr',Stg n m E C rows (q+1) fr' t'→TT b' g (bY n m E rows t' fr')→(∀x y,bl x=some y→x∉g.all→b' x=some y)→K (.bool true) b')
  (hF: ∀b',q=0→Lp.Unb n m E (n+m) C→(∃x,Lp.jY n m E (n+m) x)→(∀x y,bl x=some y→x∉g.all→b' x=some y)→K (.bool false) b'):
  bU Tryz.prog 205 [.loc g.T 6 0 0,.lsl gO 1 0 (n+m)] bl K:=by
 obtain⟨e,h1,h2,h3⟩:=hS.mid.ends (wO O)
 have he:=h3 e (Nat.le_refl _)
 refine xQ n m E rows g t fr O gO e hm hn hr hO (.inr hO0) h1 h2 (fun e' he'=>(h3 e' he').inv) hTT hgO hg0 hgn (fun b' hf hT2 hx=> ?_) fun b' k hf hl hT2 hx=> ?_
 ·have hR:=Lp.Ld (N':=n+m) he.inv he.low he.bas (Nat.le_add_right n m) hf
  refine hT b' _ _ ⟨?_,?_⟩ hT2 hx
  ·rw[Pz hf];exact he.next
  ·rw[Pz hf]
   refine hS.sel.next (t:=Lp.orb (Lp.nx (n+m) (n+m) rows (Lp.okW m (wO O) (fO (n+m) fr))) t e) ?_
   rw[←hw];exact hR
 ·obtain⟨k1,k2,k3⟩:=Lp.dN.1 hf
  have hkn:k<n:=he.lt k k2.1
  obtain⟨t',ht'⟩: ∃t',Lp.orb (Lp.nx (n+m) (n+m) rows (Lp.okW m (wO O) (fO (n+m) fr))) t e=t':=⟨_,rfl⟩
  rw[ht'] at he k2 hl
  have kW:=k2.2
  rw[hw] at kW
  cases q with
  | zero => exact hF b' rfl (Lp.yD he.inv he.low hkn hl kW) ⟨_, he.Pm.1⟩ hx
  | succ q => exact absurd hl (Lp.yG he.inv C hkn kW)
def fxs (n:Nat) (x:Nat→Rat):List (List V):=(List.range n).map fun c=> [fv (some (x c))]
@[simp] theorem aEE (n : Nat) (x : Nat → Rat) : (fxs n x).length = n := by simp [fxs]
@[simp] theorem Z8 (n : Nat) (x : Nat → Rat) (i : Nat) (h : i < (fxs n x).length) : (fxs n x)[i] = [fv (some (x i))] := by simp [fxs]
theorem wK {n:Nat} {x y:Nat→Rat} (h: ∀c,c<n→x c=y c):fxs n x=fxs n y:=List.map_congr_left fun c hc=>by rw[h c (by simpa using hc)]
theorem Wy {n i:Nat} (x:Nat→Rat) (v:Rat) (hi:i<n):(fxs n x).set i [fv (some v)]=fxs n fun c=>if c=i then v else x c:=by
 apply List.ext_getElem
 ·simp
 ·intro j h1 h2
  rw[List.getElem_set,Z8,Z8]
  by_cases e:i=j
  ·rw[if_pos e,if_pos e.symm]
  ·rw[if_neg e,if_neg (Ne.symm e)]
def Db (n:Nat) (C:Nat→Rat):Option (Option (Nat→Rat))→V
 | none => .tup [.int .i64 2, .sl [], .nilp]
 | some none => .tup [.int .i64 3, .sl [], .nilp]
 | some (some x) => .tup [.int .i64 0, .sl (fxs n x), fv (some (Lp.dot n C x))]

structure aJG where
 q:Nat
 t:Lp.Tab
 fr:Nat→Bool
 ob:List Int
 b:Int→Option Blk
def tW (q:Nat):Nat→Int:=fun c=>if c=q then -1 else 0
theorem Wv (C:Nat→Rat) (q:Nat):wO (tW q)=Lp.wl C (q+1):=by
 funext c
 unfold wO tW Lp.wl
 simp only
 split<;>rfl
def fxp (n k:Nat):List (List V):=(List.range n).map fun c=>if c<k then [fv (some 0)] else [.nilp]
@[simp] theorem aDS (n k : Nat) : (fxp n k).length = n := by simp [fxp]
theorem Ri (n:Nat):List.replicate n [V.nilp]=fxp n 0:=by
 unfold fxp
 apply List.ext_getElem
 ·simp
 ·intro i h1 h2;simp
@[simp] theorem aI5 (n k i : Nat) (h : i < (fxp n k).length) : (fxp n k)[i] = if i < k then [fv (some 0)] else [.nilp] := by simp [fxp]
theorem Wq {n k:Nat} (h:k<n):(fxp n k).set k [fv (some 0)]=fxp n (k+1):=by
 apply List.ext_getElem
 ·simp
 ·intro j h1 h2
  rw[List.getElem_set]
  simp only[fxp,List.getElem_map,List.getElem_range]
  by_cases e:k=j
  ·rw[if_pos e,if_pos (by omega)]
  ·rw[if_neg e]
   by_cases e2:j<k
   ·rw[if_pos e2,if_pos (by omega)]
   ·rw[if_neg e2,if_neg (by omega)]
theorem Wk (n:Nat):fxp n n=fxs n fun _=>0:=List.map_congr_left fun c hc=>by rw[if_pos (by simpa using hc)]
theorem aAG (n:Nat) (x:Nat→Rat):(fxs n x).all (fun e=>e.all V.cl)=true:=by simp[fxs,V.cl,fv]
noncomputable def xUp (N : Nat) (rows : List Nat) (t : Lp.Tab) (i : Nat) : Nat → Rat := fun c => Lp.S i fun p => if t.bs (atR rows p) = c then t.X (atR rows p) N else 0
theorem Bb {m N:Nat} {E:Nat→Nat→Rat} {rows:List Nat} {t:Lp.Tab} (h:Lp.TI m E t) (hr:Rows m rows) {i:Nat} (hi:i<rows.length) (c:Nat):(if c=t.bs (atR rows i) then t.X (atR rows i) N else xUp N rows t i c)=xUp N rows t (i+1) c:=by
 show _=xUp N rows t i c+(if t.bs (atR rows i)=c then t.X (atR rows i) N else 0)
 by_cases e:c=t.bs (atR rows i)
 ·rw[if_pos e,if_pos e.symm]
  have:xUp N rows t i c=0:=Lp.jW fun p hp=>by
   refine if_neg fun e2=> ?_
   have h1:=h.inj (hr.lt (cM (show p<rows.length by omega))) (hr.lt (cM hi)) (e2.trans e)
   have:=hr.inj (show p<rows.length by omega) hi h1
   omega
  rw[this];grind
 ·rw[if_neg e,if_neg (Ne.symm e)];grind
theorem Hx {n m N:Nat} {rows:List Nat} {t:Lp.Tab} (hr:Rows m rows) (hd: ∀i,i<m→i∉rows→n≤t.bs i) {c:Nat} (hc:c<n):xUp N rows t rows.length c=Lp.xb m N t c:=by
 unfold xUp Lp.xb
 exact hr.sum (fun i=>if t.bs i=c then t.X i N else 0) fun i hi hn=>if_neg (by have:=hd i hi hn;omega)
theorem Fc {q:Rat} (h:Lp.sm (10^72) q):few 100000 q:=by
 obtain⟨h1,h2⟩:=Lp.Ao h
 have h3:(10:Nat)^72<LB^24:=by decide+kernel
 exact vH (k:=24) ⟨aL.2 (Nat.lt_of_le_of_lt h1 h3),aL.2 (Nat.lt_of_le_of_lt h2 h3)⟩ (by decide)
theorem Nh (p:Pg) (n m:Nat) (h:PgN p n m):RO Tryz.prog 145 [.ptr p.v] (Db n (wO (pC p)) (Lp.opt n m (eQ p n m) (n+m) (wO (pC p)))):=by
 have hml:=h.ml
 have hnl:=h.nl
 refine aI Tryz.func145 rfl rfl (by rw[Tryz.ntmps145];simp) fun bl=> ?_
 rw[Tryz.ntmps145,Tryz.results145]
 refine aE ?_
 simp
 refine aE ?_
 simp
 refine Rs p n m h (fun b' t h4 hp hb=> ?_) (fun b' g t h4 hp hTT hfr hb=> ?_)
 ·rw[Lp.C5 (h4.no hp)]
  simp[Db]
  refine aC ?_
  simp
  exact aK [.int .i64 2,.nils,.nilp] 1 (by simp) (by simp[frz,V.cl]) hb
 have hK:=(Lp.kI (h4.lF hp) (show n≤n+m+1 by omega) m (Nat.le_refl _))
 obtain⟨t0,ht0⟩: ∃t0,Lp.kicks n t m=t0:=⟨_,rfl⟩
 rw[ht0] at hTT hK
 have aBE:=hK.inv
 have mY:=vM n m t0
 have M6: ∀i,i∈Lp.bH n t0 m→t0.bs i<n:=fun i hi=>(Lp.mC.1 hi).2
 obtain⟨rows,mP⟩: ∃rows,Lp.bH n t0 m=rows:=⟨_,rfl⟩
 rw[mP] at hTT aBE mY M6
 have hS0:Stg n m (eQ p n m) (wO (pC p)) rows 0 (okA n) t0:=⟨⟨aBE,M6,fun i hi=>⟨by have:=M6 i hi;omega,by unfold okA;simpa using M6 i hi⟩,fun c hc=>by simpa [okA] using hc.2⟩,Lp.Sel.start fun c hc=>⟨by omega,by simpa [okA] using hc⟩⟩
 clear hK aBE M6
 obtain⟨gT,gR,gB,gF,ids⟩:=g
 have bT:b' gT=_:=hTT.hd
 have bB:b' gB=_:=hTT.ba
 have bG:b' gR=_:=hTT.fJ.top
 have bF:b' gF=_:=hTT.fre
 simp only[bY] at bT bB bG bF
 obtain⟨N,hN⟩: ∃N,n+m=N:=⟨_,rfl⟩
 rw[hN] at bT
 have aVT:=hTT.pT
 simp
 refine aE ?_
 simp
 refine aE ?_
 simp[bT]
 refine⟨by omega,by unfold maxLen;omega,fun gO hgO hbO=> ?_⟩
 refine aN ?_
 refine Hh _ rfl rfl ?_
 simp[Pg.v]
 have hcl:p.c.length=n:=h.cl
 have hiv: ∀l:List Int,iv l=uns (l.map (V.int .i64)):=fun l=>by simp[iv,uns]
 refine Uh (g:=gO) (n:=N) (e:=3) (cs:=List.replicate N (.int .i64 0)) (ys:=p.c.map (V.int .i64)) (by simp) (by simp[hiv]) hgO (by simp[uns]) (by simp) (by simp[hcl];omega) (by simp[uns]) (by simp) (by simp) ?_
 have ecp:uns (p.c.map (V.int .i64)++(List.replicate N (V.int .i64 0)).drop (p.c.map (V.int .i64)).length)=iv (lz N (pC p)):=by
  rw[hiv]
  congr 1
  apply List.ext_getElem
  ·simp[hcl];omega
  ·intro j h1 h2
   rw[List.getElem_map,yW]
   unfold pC
   by_cases e:j<n
   ·rw[List.getElem_append_left (by simp[hcl];exact e)]
    simp[List.getD_eq_getElem?_getD,hcl,e]
   ·rw[List.getElem_append_right (by simp[hcl];omega)]
    simp[List.getD_eq_getElem?_getD,hcl,e]
 rw[ecp]
 obtain⟨bC,hbC⟩: ∃bC,bC=upd b' gO (some ⟨1,iv (lz N (pC p))⟩):=⟨_,rfl⟩
 simp
 refine dH [(0,.ptr p.v),(5,.loc gT 6 0 0),(7,.lsl gO 1 0 N)] 124 bC ⟨rfl,by simp[Pg.v],by rw[hbC];exact sub_eq (by simp)⟩ ?_
 have n6: ∀x,x∈TG.all ⟨gT,gR,gB,gF,ids⟩→ ∃y,b' x=some y:=fun x hx=>by
  simp only[TG.all,List.mem_cons] at hx
  rcases hx with rfl | rfl | rfl | rfl | hx
  ·exact⟨_,bT⟩
  ·exact⟨_,bG⟩
  ·exact⟨_,bB⟩
  ·exact⟨_,bF⟩
  ·obtain⟨q,hq⟩:=List.mem_iff_getElem?.1 hx
   exact⟨_,hTT.fJ.row q x hq⟩
 have hgn:gO∉TG.all ⟨gT,gR,gB,gF,ids⟩:=fun hm2=>by
  obtain⟨y,hy⟩:=n6 gO hm2
  rw[hbO] at hy;cases hy
 have bCO:bC gO=some ⟨1,iv (lz N (pC p))⟩:=by rw[hbC];simp
 have hTC:TT bC ⟨gT,gR,gB,gF,ids⟩ (bY n m (eQ p n m) rows t0 (okA n)):=hTT.cU fun x y hx hy=>by rw[hbC,aG _ _ _ _ (fun e=>hgn (by rw[←e];exact hx))];exact hy
 have sC:Sub bl bC:=fun x y hx=>by
  have:=hb x y hx
  rw[hbC,aG _ _ _ _ (fun e=>by rw[e,hbO] at this;cases this)];exact this
 have blO:bl gO=none:=by
  cases hv:bl gO with
  | none => rfl
  | some y => have := hb gO y hv; rw [hbO] at this; cases this
 clear hbC bT bB bG bF hTT n6 hbO hb
 refine aN ?_
 refine aC ?_
 simp
 have hst:=fun K'=>Be (bl:=bC) (K:=K') n m (eQ p n m) rows ⟨gT,gR,gB,gF,ids⟩ t0 (okA n) (wO (pC p)) 0 (pC p) gO hml hnl mY hS0 rfl (fun c=>jT h.cm c) (fun c hc=>by unfold pC;rw[List.getD_eq_getElem?_getD,List.getElem?_eq_none (by omega)];rfl) hTC (by rw[hN];exact bCO) hgO hgn
 rw[hN] at hst
 refine hst _ (fun b1 t1 fr1 hS1 hT1 hx1=> ?_) (fun b1 _ hU hF hx1=> ?_)
 rotate_left
 ·obtain⟨x,hx⟩:=hF
  have eo:=Lp.F8 hU hx
  rw[←hN] at eo
  rw[eo]
  simp[Db]
  exact aK [.int .i64 3,.nils,.nilp] 1 (by simp) (by simp[frz,V.cl]) fun x y hx=>hx1 x y (sC x y hx) fun hm2=>by have:=hfr x hm2;rw[this] at hx;cases hx
 simp
 have aJR: ∀x y,bl x=some y→b1 x=some y:=fun x y hx=>hx1 x y (sC x y hx) fun hm2=>by have:=hfr x hm2;rw[this] at hx;cases hx
 have b1O:b1 gO=some ⟨1,iv (lz N (pC p))⟩:=hx1 gO _ bCO hgn
 clear hst hx1 hTC bCO sC aVT hS0 h4 hp
 refine aN ?_
 refine aC ?_
 simp[Pg.v,h.aS]
 refine aJ (fun s:aJG=> [(0,.ptr p.v),(5,.loc gT 6 0 0),(7,.lsl gO 1 0 N),(41,.int .i64 n),(42,.int .i64 s.q)]) (fun s=>s.b) (fun s=>s.q≤n∧Stg n m (eQ p n m) (wO (pC p)) rows (s.q+1) s.fr s.t∧TT s.b ⟨gT,gR,gB,gF,ids⟩ (bY n m (eQ p n m) rows s.t s.fr)∧(s.b gO=some ⟨1,iv s.ob⟩∧s.ob.length=N)∧ ∀x y,bl x=some y→s.b x=some y) (fun s=>n - s.q) _ ⟨0,t1,fr1,lz N (pC p),b1⟩ ⟨Nat.zero_le _,hS1,hT1,⟨b1O,by simp⟩,aJR⟩ ⟨rfl,by simp[Pg.v,h.aS],Sub.refl _⟩ ?_
 clear hS1 hT1 b1O aJR
 rintro⟨q,t,fr,ob,b⟩ ⟨hq,hS,hT,⟨hbO,hol⟩,hbl⟩
 simp only at hq hS hT hbO hol hbl
 have wq:IntKind.i64.wrap ((q:Int)+1)=(q:Int)+1:=i64_in (by omega) (by omega)
 refine aE ?_
 simp
 refine aE ?_
 simp
 refine⟨fun hqn=> ?_,fun hqn=> ?_⟩
 ·refine aN (aV ?_)
  refine aE ?_
  simp
  refine aN ?_
  refine Hh _ rfl rfl ?_
  simp
  refine Nm (g:=gO) (n:=N) (e:=3) (u:= .int .i64 0) (cs:=ob.map (V.int .i64)) (by simp) hgO (by simp[hbO,hiv]) (by simp[hol]) (by simp) (by simp) ?_
  have e0:uns (List.replicate N (V.int .i64 0))=iv (lz N fun _=>0):=by rw[←Au];simp[uns]
  rw[e0]
  simp
  refine aC ?_
  have hqN:q<N:=by omega
  simp[hqN,Tn]
  have hle:(lz N fun c=>if c=q then(-1:Int) else 0)=lz N (tW q):=rfl
  rw[hle]
  obtain⟨b2,hb2⟩: ∃b2,b2=upd b gO (some ⟨1,iv (lz N (tW q))⟩):=⟨_,rfl⟩
  rw[←hb2]
  have b2O:b2 gO=some ⟨1,iv (lz N (tW q))⟩:=by rw[hb2];simp
  have hT2:TT b2 ⟨gT,gR,gB,gF,ids⟩ (bY n m (eQ p n m) rows t fr):=hT.cU fun x y hx hy=>by rw[hb2,aG _ _ _ _ (fun e=>hgn (by rw[←e];exact hx))];exact hy
  have b2l: ∀x y,bl x=some y→b2 x=some y:=fun x y hx=>by
   rw[hb2,aG _ _ _ _ (fun e=>by rw[e,blO] at hx;cases hx)];exact hbl x y hx
  clear hb2
  have hst:=fun K'=>Be (bl:=b2) (K:=K') n m (eQ p n m) rows ⟨gT,gR,gB,gF,ids⟩ t fr (wO (pC p)) (q+1) (tW q) gO hml hnl mY hS (Wv _ q) (fun c=>by unfold tW;split<;>decide) (fun c hc=>by unfold tW;rw[if_neg (by omega)]) hT2 (by rw[hN];exact b2O) hgO hgn
  rw[hN] at hst
  refine hst _ (fun b3 t3 fr3 hS3 hT3 hx3=> ?_) (fun b3 e=>by omega)
  simp
  refine aC ?_
  simp[wq,aB]
  refine⟨⟨q+1,t3,fr3,lz N (tW q),b3⟩,⟨by simp only;omega,hS3,hT3,⟨hx3 gO _ b2O hgn,by simp⟩,fun x y hx=>hx3 x y (b2l x y hx) fun hm2=>by have:=hfr x hm2;rw[this] at hx;cases hx⟩,by simp only;omega,rfl,by simp[h.aS],Sub.refl _⟩
 ·have hqe:q=n:=by omega
  subst hqe
  have hB:Lp.sS q m (eQ p q m) N (wO (pC p)) (Lp.xb m N t):=by rw[←hN];exact hS.sel.done hS.mid.Pm.1 hS.mid.Pm.2
  have eo:=Lp.tP hB
  rw[←hN] at eo
  rw[eo]
  have hD:Lp.Den (Lp.lid 1000 m) q (Lp.xb m N t):=Lp.Qd hS.mid.inv.z (by omega)
  simp only[Db]
  have e1:fxs q (fun c=>if c<q then Lp.xb m (q+m) t c else 0)=fxs q (Lp.xb m N t):=wK fun c hc=>by rw[if_pos hc,hN]
  have e2:Lp.dot q (wO (pC p)) (fun c=>if c<q then Lp.xb m (q+m) t c else 0)=Lp.dot q (wO (pC p)) (Lp.xb m N t):=Lp.vQ fun c hc=>by rw[if_pos hc,hN]
  rw[e1,e2]
  clear hB eo e1 e2
  obtain⟨xs,hxs⟩: ∃xs,Lp.xb m N t=xs:=⟨_,rfl⟩
  have bT:b gT=_:=hT.hd
  have bB:b gB=_:=hT.ba
  have bG:b gR=_:=hT.fJ.top
  have hil:=hT.fJ.len
  simp only[bY] at bT bB bG hil
  rw[hN] at bT
  have hrl:=mY.len
  refine aC ?_
  simp[Pg.v,h.aS]
  refine⟨by omega,by unfold maxLen;omega,fun gx hgx hbx=> ?_⟩
  have xT: ¬ gx=gT:=fun e=>by rw[e,bT] at hbx;cases hbx
  have xR: ¬ gx=gR:=fun e=>by rw[e,bG] at hbx;cases hbx
  have xB: ¬ gx=gB:=fun e=>by rw[e,bB] at hbx;cases hbx
  have xi:gx∉ids:=fun hm2=>by
   obtain⟨j,hj⟩:=List.mem_iff_getElem?.1 hm2
   rw[hT.fJ.row j gx hj] at hbx;cases hbx
  have Sy: ∀X,Sub bl (upd b gx X):=fun X x y hx=>by
   have:=hbl x y hx
   rw[aG _ _ _ _ (fun e=>by rw[e,hbx] at this;cases this)];exact this
  refine aJ (fun k:Nat=> [(0,.ptr p.v),(5,.loc gT 6 0 0),(9,.lsl gx 1 0 q),(59,.int .i64 q),(60,.int .i64 k)]) (fun k=>upd b gx (some ⟨1,fxp q k⟩)) (fun k=>k≤q) (fun k=>q - k) _ 0 (Nat.zero_le _) ⟨rfl,by simp[Pg.v,h.aS],sub_eq (by rw[Ri])⟩ ?_
  intro k hk
  have wk:IntKind.i64.wrap ((k:Int)+1)=(k:Int)+1:=i64_in (by omega) (by omega)
  refine aC ?_
  simp
  refine⟨fun hkq=> ?_,fun hkq=> ?_⟩
  ·refine aD (D0 0 (by decide)) ?_
   simp[hkq]
   simp[wk,aB,show((0:Int):Rat)=0 from rfl,Wq hkq]
   refine⟨k+1,by omega,by omega,rfl,by simp[h.aS],sub_eq rfl⟩
  have hkq:k=q:=by omega
  subst hkq
  rw[Wk]
  simp[xT,Ne.symm xT,bT]
  refine aJ (fun i:Nat=> [(0,.ptr p.v),(5,.loc gT 6 0 0),(9,.lsl gx 1 0 k),(71,.lsl gB 1 0 rows.length),(72,.int .i64 rows.length),(73,.int .i64 i)]) (fun i=>upd b gx (some ⟨1,fxs k (xUp N rows t i)⟩)) (fun i=>i≤rows.length) (fun i=>rows.length - i) _ 0 (Nat.zero_le _) ⟨rfl,by simp[Pg.v,h.aS],sub_eq rfl⟩ ?_
  intro i hi
  have wi:IntKind.i64.wrap ((i:Int)+1)=(i:Int)+1:=i64_in (by omega) (by omega)
  refine aE ?_
  simp
  refine aE ?_
  simp
  refine⟨fun hir=> ?_,fun hir=> ?_⟩
  ·refine aN (aV ?_)
   refine aE ?_
   simp[Ne.symm xB,bB,hir]
   obtain⟨gi,hgi,yQ,yP,nI⟩:=hT.fJ.at i (by simp only[bY];exact hir)
   simp only[bY] at nI
   have hgj: ∀h,ids[i]'h=gi:=fun h=>by rw[List.getElem?_eq_getElem h] at hgi;exact Option.some.inj hgi
   have xgi: ¬ gi=gx:=fun e=>xi (e▸yQ)
   have hbk:t.bs (atR rows i)<k:=hS.mid.low _ (cM hir)
   have aMO:(t.bs (atR rows i):Int)<k:=by omega
   have aVG:(N:Int)<(k:Int)+m+1:=by omega
   have hdz:=Lp.tK hS.mid.inv.z
   have aVD:=Lp.Yl hS.mid.inv.z
   have aUB:=Lp.Xv hS.mid.inv.z (mY.lt (cM hir)) (show N<k+m+1 by omega)
   have hzc:=Lp.iA hS.mid.inv.z (mY.lt (cM hir)) (show N<k+m+1 by omega)
   obtain⟨zx,hzx⟩: ∃zx,Lp.zt m (eQ p k m) t (atR rows i) N=zx:=⟨_,rfl⟩
   obtain⟨dx,hdx⟩: ∃dx,Lp.dz m (eQ p k m) t=dx:=⟨_,rfl⟩
   rw[hdx] at hdz aVD hzc
   simp only[hdx] at bT
   rw[hzx] at aUB hzc
   have tQ:=Lp.pO hml
   obtain⟨td,htd⟩: ∃td,(10:Nat)^66=td:=⟨_,rfl⟩
   have h24:td<LB^24:=by rw[←htd];decide+kernel
   rw[htd] at tQ
   have hln:(lim zx.natAbs).length≤300000:=Nat.le_trans (aL.2 (Nat.lt_of_le_of_lt (show zx.natAbs≤td by omega) h24)) (by decide)
   have hld:(lim dx.natAbs).length≤300000:=Nat.le_trans (aL.2 (Nat.lt_of_le_of_lt (show dx.natAbs≤td by omega) h24)) (by decide)
   have G7:=wS zx dx.natAbs (by omega) hln hld
   have hmk:mkRat zx dx.natAbs=t.X (atR rows i) N:=by
    have e1:((dx.natAbs:Nat):Rat)=(dx:Rat):=by
     rw[←Rat.intCast_natCast,Int.natAbs_of_nonneg (by omega)]
    have e2:(0:Rat)<(dx:Rat):=Rat.intCast_pos.2 hdz
    rw[Rat.mkRat_eq_div,e1,hzc]
    grind
   rw[hmk] at G7
   clear htd h24 tQ
   refine dK aM [0,1,2,3,4,5,6,7,8,9,10,11,12,13,14,15,16,17,18,19,20,21] 1 22 (by kernel_rfl) ?_
   simp[Ne.symm xT,Ne.symm xR,bT,bG,hir,hgj,nI,xgi,hil,show N<k+m+1 by omega,aVG,hbk,aMO,hzx]
   refine aO G7 ?_
   simp[hbk,aMO]
   refine dM (i:=22) (by kernel_rfl) rfl rfl rfl ?_
   have hfv:V.ptr (rq (t.X (atR rows i) N)).c=fv (some (t.X (atR rows i) N)):=rfl
   rw[hfv]
   simp[hbk,Wy]
   refine Dy ?_
   simp
   refine aC ?_
   simp[wi,aB]
   refine⟨i+1,by omega,by omega,rfl,by simp[h.aS],sub_eq ?_⟩
   funext x
   simp only[aA]
   split
   ·congr 2
    exact wK fun c _=>Bb hS.mid.inv.z.ti mY hir c
   ·rfl
  have hie:i=rows.length:=by omega
  subst hie
  have exs:fxs k (xUp N rows t rows.length)=fxs k xs:=wK fun c hc=>by
   have:=Hx (N:=N) mY (fun j hj hn=>(hS.mid.inv.dead j hj hn).1) hc
   rw[this,hxs]
  rw[exs]
  refine aD (D0 0 (by decide)) ?_
  simp[show((0:Int):Rat)=0 from rfl]
  rw[hxs] at hD
  have hCi: ∀c,c<k→(pC p c).natAbs≤1000:=fun c _=>jT h.cm c
  have Yr:=hD.sum (W:=1000) hCi (by decide)
  have h72:(k+1)*(1000*Lp.lid 1000 m)≤10^72:=Nat.le_trans (Nat.mul_le_mul (show k+1≤101 by omega) (Nat.mul_le_mul_left _ (Lp.pO hml))) (by decide+kernel)
  have h66:Lp.lid 1000 m≤10^72:=Nat.le_trans (Lp.pO hml) (by decide+kernel)
  have hfS: ∀j,j≤k→few 100000 (Lp.S j fun c=>(pC p c:Rat)*xs c):=fun j hj=>Fc (Lp.fS (Yr j hj) h72)
  have hfx: ∀c,c<k→few 100000 (xs c):=fun c hc=>Fc (Lp.fS (hD.sm hc) h66)
  have hfC: ∀c,few 100000 (pC p c:Rat):=fun c=>vH (k:=24) (fits_int (by have:=jT h.cm c;unfold pC;omega)) (by decide)
  have hfm: ∀c,c<k→few 100000 (xs c*(pC p c:Rat)):=fun c hc=>Fc (Lp.fS (Lp.Oo (Lp.fS (hD.sm hc) (Lp.pO hml)) (Lp.aCF (hCi c hc) (by decide))) (by decide+kernel))
  clear Yr h72 h66
  refine aJ (fun j:Nat=> [(0,.ptr p.v),(9,.lsl gx 1 0 k),(102,.lsl gx 1 0 k),(103,.int .i64 k),(104,.int .i64 j),(13,fv (some (Lp.S j fun c=>(pC p c:Rat)*xs c)))]) (fun _=>upd b gx (some ⟨1,fxs k xs⟩)) (fun j=>j≤k) (fun j=>k - j) _ 0 (Nat.zero_le _) ⟨rfl,by simp[Lp.S],Sub.refl _⟩ ?_
  intro j hj
  have wj:IntKind.i64.wrap ((j:Int)+1)=(j:Int)+1:=i64_in (by omega) (by omega)
  refine aE ?_
  simp
  refine aE ?_
  simp
  refine⟨fun hjk=> ?_,fun hjk=> ?_⟩
  ·refine aN (aV ?_)
   refine aC ?_
   simp[hjk,Pg.v,h.c]
   refine aD (D0 (pC p j) (by have:=hCi j hjk;omega)) ?_
   simp
   refine aD (r:=fv (some (xs j*(pC p j:Rat)))) (Jk _ _ (hfx j hjk) (hfC j)) ?_
   simp
   have aJZ:(Lp.S j fun c=>(pC p c:Rat)*xs c)+xs j*(pC p j:Rat)=Lp.S (j+1) fun c=>(pC p c:Rat)*xs c:=by rw[Lp.S];grind
   have hpl:=Cn _ _ (hfS j (by omega)) (hfm j hjk)
   rw[aJZ] at hpl
   refine aD (r:=fv (some (Lp.S (j+1) fun c=>(pC p c:Rat)*xs c))) hpl ?_
   simp
   refine aC ?_
   simp[wj,aB]
   refine⟨j+1,by omega,by omega,rfl,by simp[Pg.v,h.c],Sub.refl _⟩
  ·have hje:j=k:=by omega
   subst hje
   rw[hxs]
   have hf1:frz (dropB (upd b gx (some ⟨1,fxs j xs⟩)) bl) 1 (.lsl gx 1 0 j)=some (.sl (fxs j xs)):=dD hgx (by
    cases hv:bl gx with
    | none => rfl
    | some y => have := hbl gx y hv; rw [hbx] at this; cases this) (aZ _ _ _) (by simp) (aAG _ _)
   refine aK [.int .i64 0,.lsl gx 1 0 j,fv (some (Lp.dot j (wO (pC p)) xs))] 2 (by simp;rfl) ?_ (Sy _)
   simp only[retV]
   rw[P1]
   simp only[List.mapM_cons,List.mapM_nil,hf1,R9]
   simp[frz]

noncomputable def Gh (n : Nat) (C : Nat → Rat) : Option (Option (Nat → Rat)) → V
 | none => .agg [.int .i64 2, .sl [], .bool false, .sl [], .sl []]
 | some none => .agg [.int .i64 3, .sl [], .bool false, .sl [], .sl []]
 | some (some x) => .agg (.int .i64 0 :: .sl (rqs n x) :: (rq (Lp.dot n C x)).c)
theorem Ox {p:Pg} {n m:Nat} (h:PgN p n m) (c:Nat):Lp.isInt (wO (pC p) c)∧ -((1000:Nat):Rat)≤wO (pC p) c∧wO (pC p) c≤((1000:Nat):Rat):=by
 have:(pC p c).natAbs≤1000:=jT h.cm c
 refine⟨⟨_,rfl⟩,?_,?_⟩
 ·rw[show -((1000:Nat):Rat)=((-1000:Int):Rat) by decide+kernel];exact Rat.intCast_le_intCast.2 (by omega)
 ·rw[show((1000:Nat):Rat)=((1000:Int):Rat) by decide+kernel];exact Rat.intCast_le_intCast.2 (by omega)
theorem Vz {p:Pg} {n m:Nat} (h:PgN p n m) {c:Nat} (hc:n≤c):wO (pC p) c=0:=by
 show((pC p c:Int):Rat)=0
 rw[show pC p c=0 by unfold pC;rw[List.getD_eq_getElem?_getD,List.getElem?_eq_none (by have:=h.cl;omega)];rfl];rfl
theorem aAD {n m b:Nat} {t:Lp.Tab} {w:Nat→Rat} (hz: ∀i,i<m→ ¬ t.bs i<n→t.X i b=0) (hw:w b=0): -Lp.rc m w t b=Lp.dot n w (Lp.xb m b t):=by
 have:Lp.dot n w (Lp.xb m b t)=Lp.S m fun i=>t.X i b*w (t.bs i):=by
  unfold Lp.dot Lp.xb
  exact Lp.zC t.bs (fun j=>t.X j b) w hz
 rw[this]
 unfold Lp.rc
 rw[hw];grind
theorem Er {bl:Int→Option Blk} {K:V→(Int→Option Blk)→Prop} (p:Pg) (n m:Nat) (h:PgN p n m) (g:SG) (rows:List Nat) (U:Lp.Tab) (hr:Rows m rows) (hI:pK n m (eQ p n m) rows U) (G7: ∀i,i∈rows→U.bs i<n) (hS:SS bl g (snV rows n (n+m) m (wO (pC p)) U))
  (hT: ∀b' t,pK n m (eQ p n m) rows t→(∀i,i∈rows→t.bs i<n)→Lp.sS n m (eQ p n m) (n+m) (wO (pC p)) (Lp.xb m (n+m) t)→SS b' g (snV rows n (n+m) m (wO (pC p)) t)→(∀x y,bl x=some y→x∉g.all→b' x=some y)→K (.bool true) b')
  (hF: ∀b',Lp.Unb n m (eQ p n m) (n+m) (wO (pC p))→(∃x,Lp.jY n m (eQ p n m) (n+m) x)→(∀x y,bl x=some y→x∉g.all→b' x=some y)→K (.bool false) b'):
  bU Tryz.prog 190 [.loc g.T 4 0 0,.bool true] bl K:=by
 have hml:=h.ml
 have hnl:=h.nl
 have R:Lp.uV n m (n+m) (n+1) n (n+m+1) (Lp.wl (wO (pC p))) (fun c=>c<n) rows (Lp.okL m n (wO (pC p))):=Lp.Yw (by omega) (by omega)
 obtain⟨e,h1,h2,h3⟩:=R.ends hI
 have hlw:=R.low (fun c hc=>hc) h3 G7 e (Nat.le_refl _)
 have hIe:=h3 e (Nat.le_refl _)
 have Ls:=Lp.zQ hIe hlw h1
 have hR:Rk n m n (eQ p n m) rows true (wO (pC p)) (Lp.okL m n (wO (pC p))):=by
  refine⟨hml,hnl,by omega,hr,fun T hT i hi hn=>(hT.dead i hi hn).1,fun c _=>Ox h c,fun T hT j hj hb hok=> ?_⟩
  obtain⟨q,hq,e1⟩:=hb
  obtain⟨z,_,g2,_⟩:=hok
  have e2:=Lp.mA hT.z.ti (Lp.wl (wO (pC p)) z) (hr.lt (cM hq))
  simp only at e1
  rw[e1] at e2
  simp only at g2
  rw[e2] at g2
  exact absurd g2 (by decide)
 refine l10Run_cp hR g U e (fun T hT j hj hnb=> ?_) h1 h2 h3 hS (fun b' hf hS' hx=> ?_) (fun b' k hk hl hx=> ?_)
 ·have hV:=hR.view hT
  have hco:(snV rows n (n+m) m (wO (pC p)) T).co j=Lp.rc m (wO (pC p)) T j:=by
   show Lp.rc m (wO (pC p)) T (if j<n then j else n+m)=_
   rw[if_pos hj]
  exact⟨_,Lp.Lg,T3 hV j hj hnb hco⟩
 ·rcases Ls with ⟨_,g2⟩| ⟨⟨k,g1,_⟩,_⟩
  ·exact hT b' _ hIe hlw g2 hS' hx
  ·rw[hf] at g1;cases g1
 ·rcases Ls with ⟨g1,_⟩| ⟨_,g2⟩
  ·rw[hk] at g1;cases g1
  ·exact hF b' g2 ⟨_,Lp.uE hIe.z.ti hIe.nn (hIe.zero hlw)⟩ hx
theorem Wc {bl:Int→Option Blk} {k:Int} {v x:V} {a:Bool} {b c:List (List V)} (hc:V.cl v=false) (h:frz bl 1 v=some x):frz bl 2 (.agg [.int .i64 k,v,.bool a,.sl b,.sl c])=some (.agg [.int .i64 k,x,.bool a,.sl b,.sl c]):=by
 rw[frz,if_neg (by simp only[List.all_cons,hc];simp)]
 simp[List.mapM_cons,h,frz]
structure aMU where
 j:Nat
 gX:Int
 b:Int→Option Blk
set_option maxHeartbeats 2000000 in
theorem Ai (p:Pg) (n m:Nat) (h:PgN p n m):RO Tryz.prog 123 [.agg p.v] (Gh n (wO (pC p)) (Lp.opt n m (eQ p n m) (n+m) (wO (pC p)))):=by
 have hml:=h.ml
 have hnl:=h.nl
 refine aI Tryz.func123 rfl rfl (by rw[Tryz.ntmps123];simp) fun bl=> ?_
 rw[Tryz.ntmps123,Tryz.results123]
 refine aE ?_
 simp[Pg.v]
 intro g1 hg1 hb1
 intro g2 hg2 aEH hb2
 obtain⟨b0,hb0⟩: ∃b0,b0=upd bl g2 (some ⟨5,[[.int .i64 0,.nils,.bool false,.nils,.nils]]⟩):=⟨_,rfl⟩
 refine cW 1 1 (.ptr p.v) b0 (by rw[hb0];intro z b hz;simp only[aA] at hz ⊢;grind) (by simp[frz,dropB,hb0,hb1,aEH,Ne.symm aEH,V.cl,Pg.v]) ?_
 refine dH [(1,.ptr p.v),(2,.loc g2 5 0 0)] 87 b0 ⟨rfl,by simp[Pg.v],Sub.refl _⟩ ?_
 have s0:Sub bl b0:=fun x y hx=>by rw[hb0,aG _ _ _ _ (fun e=>by rw[e,hb2] at hx;cases hx)];exact hx
 have b02:b0 g2=some ⟨5,[[.int .i64 0,.nils,.bool false,.nils,.nils]]⟩:=by rw[hb0];simp
 clear hb0 hb1 hg1 aEH
 refine aE ?_
 simp[Pg.v]
 refine Ba p n m h fun b g hS hal hsb=> ?_
 simp
 refine aE ?_
 simp
 refine Jo p n m h g hS fun b' T r h4 hS' hx=> ?_
 have hV:oU ((snV (List.range m) (n+m) (n+m) m (Lp.bE n m) T).co (n+m)):=by
  show oU (Lp.rc m (Lp.bE n m) T (if n+m<n+m then n+m else n+m))
  exact Lp.fS (h4.inv.z.rc (fun c _=>uL n m c) (c:=if n+m<n+m then n+m else n+m) (by split<;>omega) (by decide)) (vE hml)
 have hco:(snV (List.range m) (n+m) (n+m) m (Lp.bE n m) T).co (n+m)=Lp.rc m (Lp.bE n m) T (n+m):=by
  show Lp.rc m (Lp.bE n m) T (if n+m<n+m then n+m else n+m)=_
  rw[if_neg (by omega)]
 obtain⟨co,hcD⟩: ∃co,(snV (List.range m) (n+m) (n+m) m (Lp.bE n m) T).co=co:=⟨_,rfl⟩
 rw[hcD] at hV hco
 obtain⟨N,hN⟩: ∃N,n+m=N:=⟨_,rfl⟩
 have bT:b' g.T=some ⟨4,[[.int .i64 N,.lsl g.R 1 0 m,.lsl g.B 1 0 m,.lsl g.C 3 0 (N+1)]]⟩:=by
  have:=hS'.hd
  simp only[snV,List.length_range] at this
  rw[←hN];exact this
 have bC:b' g.C=some ⟨3,rqs (N+1) co⟩:=by
  rw[←hN,←hcD];exact hS'.cst
 rw[hN] at hV hco
 have l3: ∀q:Rat,(rq q).c.length=3:=fun _=>rfl
 have t3: ∀q:Rat,(rq q).c.take 3=(rq q).c:=fun _=>rfl
 have hN1:(N:Int)<(N:Int)+1:=by omega
 have Cp:Sub b0 b':=fun x y hx2=>hx x y (hsb x y hx2) fun hm2=>by have:=hal x hm2;rw[this] at hx2;cases hx2
 have jR:Sub bl b':=fun x y hx2=>Cp x y (s0 x y hx2)
 have b'2:=Cp _ _ b02
 simp
 refine dH [(1,.ptr p.v),(2,.loc g2 5 0 0),(3,.loc g.T 4 0 0)] 87 b' ⟨rfl,by simp[Pg.v],Sub.refl _⟩ ?_
 refine aN (aN ?_)
 refine bW aM (by kernel_rfl) ?_
 simp[bT,bC,hN1,l3,t3]
 refine aO (gU (cH hV)) ?_
 simp
 refine aC ?_
 simp
 refine⟨fun hne=> ?_,fun heq=> ?_⟩
 ·have hno: ¬ Lp.rc m (Lp.bE n m) T (n+m)=0:=fun e=>by
   rw[hN] at e
   rw[e] at hco
   exact hne hco
  rw[Lp.C5 (h4.no hno)]
  simp[b'2]
  exact aK [.agg [.int .i64 2,.nils,.bool false,.nils,.nils]] 1 (by simp) (by simp[frz,Gh,V.cl]) fun x y hx=>by
   show upd b' g2 _ x=some y
   rw[aG _ _ _ _ (fun e=>by rw[e,hb2] at hx;cases hx)]
   exact jR x y hx
 have hp0:Lp.rc m (Lp.bE n m) T (n+m)=0:=by rw[hN,←hco];exact heq
 refine aE ?_
 simp
 have lv:5≤p.v.length:=Nat.le_refl 5
 have tv:p.v.take 5=p.v:=rfl
 rw[tv]
 refine⟨lv,Q6 p n m h g T h4 hp0 hS' fun b1 g' hS1 aJN hx1=> ?_⟩
 have hI1:=(Lp.kI (h4.lF hp0) (show n≤n+m+1 by omega) m (Nat.le_refl _)).inv
 have hr1:=vM n m (Lp.kicks n T m)
 have hw1: ∀i,i∈Lp.bH n (Lp.kicks n T m) m→(Lp.kicks n T m).bs i<n:=fun i hi=>(Lp.mC.1 hi).2
 obtain⟨U,hU⟩: ∃U,Lp.kicks n T m=U:=⟨_,rfl⟩
 rw[hU] at hI1 hr1 hw1 hS1
 obtain⟨rows,mP⟩: ∃rows,Lp.bH n U m=rows:=⟨_,rfl⟩
 rw[mP] at hI1 hr1 hw1 hS1
 have gb: ∀x,x∈g.all→b0 x=none:=hal
 have hg2:g2∉g.all:=fun hm2=>by rw[gb g2 hm2] at b02;cases b02
 have aPV:Sub b0 b1:=fun x y hx2=>hx1 x y (Cp x y hx2) fun hm2=>by rw[gb x hm2] at hx2;cases hx2
 have al1: ∀x,x∈g'.all→b0 x=none:=fun x hm2=>by
  cases hv:b0 x with
  | none => rfl
  | some y => have := aJN x hm2; rw [Cp x y hv] at this; cases this
 simp
 clear hU aJN hx1 hS' hx hS hal hsb hV hco hcD bT bC jR Cp b'2 heq h4 hp0 gb hg2
 refine aN ?_
 refine aC ?_
 simp
 refine Er p n m h g' rows U hr1 hI1 hw1 hS1 (fun b2 t hI2 hw2 aPE hS2 hx2=> ?_) (fun b2 hU2 hF2 hx2=> ?_)
 rotate_left
 ·obtain⟨x,hx⟩:=hF2
  rw[Lp.F8 hU2 hx]
  have Js:Sub b0 b2:=fun x y hx=>hx2 x y (aPV x y hx) fun hm2=>by rw[al1 x hm2] at hx;cases hx
  have b22:=Js _ _ b02
  simp[b22]
  exact aK [.agg [.int .i64 3,.nils,.bool false,.nils,.nils]] 1 (by simp) (by simp[frz,Gh,V.cl]) fun x y hx=>by
   show upd b2 g2 _ x=some y
   rw[aG _ _ _ _ (fun e=>by rw[e,hb2] at hx;cases hx)]
   exact Js x y (s0 x y hx)
 rw[Lp.tP aPE]
 have Js:Sub b0 b2:=fun x y hx=>hx2 x y (aPV x y hx) fun hm2=>by rw[al1 x hm2] at hx;cases hx
 simp
 have aVR:=hI2.z.ti
 have hz2:=hI2.zero hw2
 have Cu:=aAD (n:=n) (b:=n+m) hz2 (Vz h (show n≤n+m by omega))
 have hV:oU ((snV rows n (n+m) m (wO (pC p)) t).co n):=by
  show oU (Lp.rc m (wO (pC p)) t (if n<n then n else n+m))
  exact Lp.fS (hI2.z.rc (fun c _=>Ox h c) (c:=if n<n then n else n+m) (by split<;>omega) (by decide)) (vE hml)
 have hco:(snV rows n (n+m) m (wO (pC p)) t).co n=Lp.rc m (wO (pC p)) t (n+m):=by
  show Lp.rc m (wO (pC p)) t (if n<n then n else n+m)=_
  rw[if_neg (by omega)]
 obtain⟨l,hl⟩: ∃l,rows.length=l:=⟨_,rfl⟩
 obtain⟨gT,gR,gB,gC,ids⟩:=g'
 obtain⟨Z,hZ⟩: ∃Z,(snV rows n (n+m) m (wO (pC p)) t).Z=Z:=⟨_,rfl⟩
 obtain⟨co,hcD⟩: ∃co,(snV rows n (n+m) m (wO (pC p)) t).co=co:=⟨_,rfl⟩
 rw[hcD] at hV hco
 obtain⟨n1,hn1⟩: ∃n1,n+1=n1:=⟨_,rfl⟩
 have bT:b2 gT=some ⟨4,[[.int .i64 n,.lsl gR 1 0 l,.lsl gB 1 0 l,.lsl gC 3 0 n1]]⟩:=by
  have:=hS2.hd
  simp only[snV,hl,hn1] at this
  exact this
 have bC:b2 gC=some ⟨3,rqs n1 co⟩:=by
  rw[←hn1,←hcD];exact hS2.cst
 have bB:b2 gB=some ⟨1,iv (lb l fun q=>t.bs (atR rows q))⟩:=by
  have:=hS2.ba
  simp only[snV,hl] at this
  exact this
 have bR:b2 gR=some ⟨1,ids.map fun x=> [.lsl x 3 0 n1]⟩:=by
  have:=hS2.top
  simp only[snV,hn1] at this
  exact this
 have hnn:(n:Int)<n1:=by omega
 have aO1:n<n1:=by omega
 have b22:=Js _ _ b02
 have hn4:=xA (some (co n)) (okS (cH hV))
 refine dH [(1,.ptr p.v),(2,.loc g2 5 0 0),(4,.loc gT 4 0 0)] 87 b2 ⟨rfl,by simp[Pg.v],Sub.refl _⟩ ?_
 refine gH (fun g5:Int=> [(1,.ptr p.v),(2,.loc g2 5 0 0),(4,.loc gT 4 0 0),(5,.loc g5 5 0 0)]) (fun g5=>upd b2 g5 (some ⟨5,[.int .i64 0:: .nils::(rq (-co n)).c]⟩)) (fun g5=>0≤g5∧b2 g5=none) 87 ?_ ?_
 ·refine dA aM b2 (Sub.refl _) [0,1,2,3,4,5,6,7,8,9,10] 3 13 (by kernel_rfl) ?_
  simp[bT,bC,hnn,aO1,l3,t3]
  refine aO (v:= .agg (ro (some (-co n))).c) hn4 ?_
  simp[RT.c]
  refine Dw 11 12 false false ?_ ?_
  ·simp
   refine Dq 12 false ?_
   simp
   intro g5 hg5 hb5
   refine⟨fun x y hx=>(by rw[aG _ _ _ _ (fun e=>by rw[e,hb5] at hx;cases hx)];exact hx),Dq 13 true ?_⟩
   simp
   refine Dd ?_
   simp[aH]
   exact⟨g5,⟨hg5,hb5⟩,rfl,by simp,sub_eq (by simp[RT.c])⟩
  ·simp
   intro g5 hg5 hb5
   refine⟨fun x y hx=>(by rw[aG _ _ _ _ (fun e=>by rw[e,hb5] at hx;cases hx)];exact hx),Dq 11 false ?_⟩
   simp
   refine⟨fun x y hx=>(by rw[aG _ _ _ _ (fun e=>by rw[e,hb5] at hx;cases hx)];exact hx),Dq 13 true ?_⟩
   simp
   refine Dd ?_
   simp[aH]
   exact⟨g5,⟨hg5,hb5⟩,rfl,by simp,sub_eq (by simp[RT.c])⟩
 rintro g5 ⟨hg5,hb5⟩
 have hvq:(rq (-co n)).c=(rq (Lp.dot n (wO (pC p)) fun c=>if c<n then Lp.xb m (n+m) t c else 0)).c:=by
  rw[hco,Cu,Lp.vQ (x:=Lp.xb m (n+m) t) (y:=fun c=>if c<n then Lp.xb m (n+m) t c else 0) fun c hc=>by rw[if_pos hc]]
 obtain⟨vq,aNW⟩: ∃vq,Lp.dot n (wO (pC p)) (fun c=>if c<n then Lp.xb m (n+m) t c else 0)=vq:=⟨_,rfl⟩
 rw[aNW] at hvq
 rw[hvq]
 simp only[RT.c]
 refine cY (g:=g5) (s:=5) (els:= [[.int .i64 0,.nils,.bool (rq vq).neg,.sl (iv (rq vq).m),.sl (iv (rq vq).d)]]) 0 1 3 (by simp) rfl rfl fun gX hgX hX5=> ?_
 simp[hX5] at hgX
 obtain⟨b3,hb3⟩: ∃b3,b3=upd (upd b2 g5 (some ⟨5,[[.int .i64 0,.lsl gX 3 0 0,.bool (rq vq).neg,.sl (iv (rq vq).m),.sl (iv (rq vq).d)]]⟩)) gX (some ⟨3,[]⟩):=⟨_,rfl⟩
 have b35:b3 g5=some ⟨5,[[.int .i64 0,.lsl gX 3 0 0,.bool (rq vq).neg,.sl (iv (rq vq).m),.sl (iv (rq vq).d)]]⟩:=by rw[hb3];simp[Ne.symm hX5]
 have b3X:b3 gX=some ⟨3,rqs 0 fun _=>0⟩:=by rw[hb3];simp[rqs]
 have s3:Sub b2 b3:=fun x y hx=>by
  have x1:x≠g5:=fun e=>by rw[e,hb5] at hx;cases hx
  have x2:x≠gX:=fun e=>by rw[e,hgX] at hx;cases hx
  rw[hb3];simp[x1,x2,hx]
 refine dH [(1,.ptr p.v),(2,.loc g2 5 0 0),(4,.loc gT 4 0 0),(5,.loc g5 5 0 0)] 87 b3 ⟨rfl,by simp,by rw[hb3];exact sub_eq (by simp)⟩ ?_
 clear hb3
 refine aN ?_
 refine aC ?_
 simp
 refine aJ (fun q:aMU=> [(1,.ptr p.v),(2,.loc g2 5 0 0),(4,.loc gT 4 0 0),(5,.loc g5 5 0 0),(6,.int .i64 q.j)]) (fun q=>q.b) (fun q=>q.j≤n∧q.b g5=some ⟨5,[[.int .i64 0,.lsl q.gX 3 0 q.j,.bool (rq vq).neg,.sl (iv (rq vq).m),.sl (iv (rq vq).d)]]⟩∧q.b q.gX=some ⟨3,rqs q.j fun _=>0⟩∧(q.gX≠g5∧b2 q.gX=none∧(0≤q.gX∨q.j=0))∧Sub b2 q.b) (fun q=>n - q.j) _ ⟨0,gX,b3⟩ ⟨Nat.zero_le _,b35,b3X,⟨hX5,hgX,.inr rfl⟩,s3⟩ ⟨rfl,by simp,Sub.refl _⟩ ?_
 clear s3 b35 b3X hgX hX5
 rintro⟨j,gX,b⟩ ⟨hj,bL5,bX,⟨nX5,Xbl,aLS⟩,hsb⟩
 simp only at hj bL5 bX nX5 Xbl aLS hsb
 have wj:IntKind.i64.wrap ((j:Int)+1)=(j:Int)+1:=i64_in (by omega) (by omega)
 refine aN ?_
 refine aC ?_
 simp[Pg.v,h.aS]
 refine⟨fun hjn=> ?_,fun hjn=> ?_⟩
 ·refine aN (aV ?_)
  have hR0:=dZ 0 (by decide)
  refine dA aM (rem b gX) (dC b gX) [0,1,2] 4 6 (by kernel_rfl) ?_
  simp[Ne.symm nX5,bL5]
  refine aO hR0 ?_
  simp
  refine Dq 3 false ?_
  simp[RT.c]
  intro g4 hg4 hb4
  have n45:g4≠g5:=fun e=>by rw[e,bL5] at hb4;cases hb4
  have n4X:g4≠gX:=fun e=>by rw[e,bX] at hb4;cases hb4
  have rZ: ∀X,Sub (rem b gX) (upd b g4 X):=fun X z y hz=>by
   rw[aF] at hz
   rw[aA]
   grind
  refine⟨rZ _,Dq 4 false ?_⟩
  have tkC:(rqs j fun _=>(0:Rat)).take j=rqs j fun _=>0:=List.take_of_length_le (by simp)
  simp[n4X,Ne.symm n4X,appV,elsV,Int.not_lt.2 hg4,bX,tkC]
  have hsn:(rqs j fun _=>(0:Rat))++ [[V.bool (rq 0).neg,.sl (iv (rq 0).m),.sl (iv (rq 0).d)]]=rqs (j+1) fun _=>0:=by rw[kT];rfl
  rw[hsn]
  refine⟨by omega,fun gN hgN hbN=> ?_⟩
  have nN:gN≠g5∧gN≠g4:=by
   by_cases e:gN=gX
   ·subst e
    exact⟨nX5,Ne.symm n4X⟩
   ·obtain⟨q1,q2⟩:=hbN e
    exact⟨fun e=>(by rw[e,bL5] at q2;cases q2),q1⟩
  obtain⟨nN5,nN4⟩:=nN
  have blN:b2 gN=none:=by
   by_cases e:gN=gX
   ·rw[e];exact Xbl
   ·cases hv:b2 gN with
    | none => rfl
    | some y => have := hsb gN y hv; rw [(hbN e).2] at this; cases this
  have iE: ∀X Y,Sub (rem b gX) (upd (rem (upd b g4 X) gX) gN Y):=fun X Y z y hz=>by
   rw[aF] at hz
   rw[aA,aF,aA]
   grind
  have lE: ∀X Y Z,Sub (upd (upd (rem b gX) gN Y) g5 Z) (upd (upd (rem (upd b g4 X) gX) gN Y) g5 Z):=fun X Y Z z y hz=>by
   simp only[aA,aF] at hz ⊢
   grind
  refine⟨iE _ _,Dq 5 false ?_⟩
  simp
  refine⟨iE _ _,Dq 6 true ?_⟩
  simp[Ne.symm nN5,Ne.symm nX5,n45,Ne.symm n45,bL5]
  refine Dd ?_
  simp
  refine aC ?_
  simp[wj,aB]
  obtain⟨b4,iW⟩: ∃b4,b4=upd (upd (rem b gX) gN (some ⟨3,rqs (j+1) fun _=>0⟩)) g5 (some ⟨5,[[.int .i64 0,.lsl gN 3 0 (j+1),.bool (rq vq).neg,.sl (iv (rq vq).m),.sl (iv (rq vq).d)]]⟩):=⟨_,rfl⟩
  refine⟨⟨j+1,gN,b4⟩,⟨by simp only;omega,by rw[iW];simp,by rw[iW];simp[nN5],⟨nN5,blN,.inl hgN⟩,fun x y hx=> ?_⟩,by simp only;omega,rfl,by simp[Pg.v,h.aS],by rw[iW];exact lE _ _ _⟩
  have x1:x≠g5:=fun e=>by rw[e,hb5] at hx;cases hx
  have x2:x≠gN:=fun e=>by rw[e,blN] at hx;cases hx
  have x3:x≠gX:=fun e=>by rw[e,Xbl] at hx;cases hx
  simp only
  rw[iW];simp[x1,x2,x3];exact hsb x y hx
 have hje:j=n:=by omega
 subst hje
 simp
 have b5:b gT=_:=hsb _ _ bT
 have b5B:b gB=_:=hsb _ _ bB
 have b5R:b gR=_:=hsb _ _ bR
 have hil:ids.length=l:=by have:=hS2.len;simp only[snV,hl] at this;exact this
 have hll:l≤m:=by rw[←hl];exact hr1.len
 have oX: ∀x y,b2 x=some y→x≠gX:=fun x y hx e=>by rw[e,Xbl] at hx;cases hx
 have o5: ∀x y,b2 x=some y→x≠g5:=fun x y hx e=>by rw[e,hb5] at hx;cases hx
 have xT:=oX _ _ bT
 have xB:=oX _ _ bB
 have xR:=oX _ _ bR
 refine aN ?_
 refine aC ?_
 simp[b5]
 refine aJ (fun q:Nat=> [(2,.loc g2 5 0 0),(4,.loc gT 4 0 0),(5,.loc g5 5 0 0),(60,.lsl gB 1 0 l),(61,.int .i64 l),(62,.int .i64 q)]) (fun q=>upd b gX (some ⟨3,rqs j (xUp (j+m) rows t q)⟩)) (fun q=>q≤l) (fun q=>l - q) _ 0 (Nat.zero_le _) ⟨rfl,by simp,sub_eq (by
  funext x;simp only[aA];split
  ·rename_i e
   rw[e,bX];rfl
  ·rfl)⟩ ?_
 intro q hq
 have wq:IntKind.i64.wrap ((q:Int)+1)=(q:Int)+1:=i64_in (by omega) (by omega)
 refine aE ?_
 simp
 refine aE ?_
 simp
 refine⟨fun hql=> ?_,fun hql=> ?_⟩
 ·have I8:(q:Int)<l:=by omega
  obtain⟨gi,hgi⟩: ∃gi,ids[q]? =some gi:=⟨_,List.getElem?_eq_getElem (show q<ids.length by omega)⟩
  have hgj: ∀h,ids[q]'h=gi:=fun h=>by rw[List.getElem?_eq_getElem h] at hgi;exact Option.some.inj hgi
  have hgm:=List.mem_of_getElem? hgi
  have yP:0≤gi:=hS2.pos gi hgm
  have b2i:b2 gi=some ⟨3,rqs n1 (Z q)⟩:=by
   have:=hS2.row q gi hgi
   rw[hZ] at this
   rw[←hn1];exact this
  have xi:=oX _ _ b2i
  have bi:b gi=_:=hsb _ _ b2i
  have hqm:=cM (rows:=rows) (show q<rows.length by rw[hl];exact hql)
  have hbl:t.bs (atR rows q)<j:=hw2 _ hqm
  have hZq:Z q j=t.X (atR rows q) (j+m):=by
   rw[←hZ]
   show t.X (atR rows q) (if j<j then j else j+m)=_
   rw[if_neg (by omega)]
  have htq:oU (Z q j):=by
   rw[hZq];exact Lp.fS (hI2.z.sm (hr1.lt hqm) (by omega)) (qV hml)
  refine aN (aV ?_)
  refine aE ?_
  simp[Ne.symm xB,xB,b5B,hql,I8]
  obtain⟨bc,hbc⟩: ∃bc,bc=upd b gX (some ⟨3,rqs j (xUp (j+m) rows t q)⟩):=⟨_,rfl⟩
  have bcX:bc gX=some ⟨3,rqs j (xUp (j+m) rows t q)⟩:=by rw[hbc];simp
  have bcx: ∀x,x≠gX→bc x=b x:=fun x hx=>by rw[hbc,aG _ _ _ _ hx]
  have bc5:=(bcx g5 (Ne.symm nX5)).trans bL5
  have bcT:=(bcx gT xT).trans b5
  have bcR:=(bcx gR xR).trans b5R
  have bci:=(bcx gi xi).trans bi
  rw[←hbc]
  have htl:=cH htq
  have hcp:=Gf (rq (Z q j)) (Nat.le_trans htl.1 (by decide)) (Nat.le_trans htl.2 (by decide))
  obtain⟨kk,hkk⟩: ∃kk,t.bs (atR rows q)=kk:=⟨_,rfl⟩
  rw[hkk] at hbl
  have Wj:(kk:Int)<j:=by omega
  refine dA aM (rem bc gX) (dC bc gX) [0,1,2,3,4,5,6,7,8,9,10,11,12,13,14,15,16,17] 1 18 (by kernel_rfl) ?_
  simp[nX5,Ne.symm nX5,xT,xR,xi,bc5,bcT,bcR,bci,hql,I8,hil,hgj,hnn,aO1,l3,t3,hkk,hbl,Wj]
  refine aO hcp ?_
  simp[hkk,hbl,Wj]
  refine Dq 18 true ?_
  simp[bcX,hbl,RT.c]
  refine Dd ?_
  simp
  refine aC ?_
  simp[wq,aB]
  have rW:(rqs j (xUp (j+m) rows t q)).set kk (ro (some (Z q j))).c=rqs j (xUp (j+m) rows t (q+1)):=by
   rw[zJ _ _ hbl]
   refine bP fun c _=> ?_
   rw[←hkk,hZq]
   exact Bb aVR hr1 (by rw[hl];exact hql) c
  refine⟨q+1,by omega,by omega,rfl,by simp,?_⟩
  rw[←rW]
  intro z y hz
  by_cases e:z=gX
  ·subst e
   rw[aZ] at hz
   simpa [RT.c,oN] using hz
  ·rw[aG _ _ _ _ e] at hz
   have:=bcx z e
   simp[e,this,hz]
 ·have hqe:q=l:=by omega
  subst hqe
  have hxa:rqs j (xUp (j+m) rows t q)=rqs j fun c=>if c<j then Lp.xb m (j+m) t c else 0:=bP fun c hc=>by
   rw[if_pos hc,←hl];exact Hx hr1 (fun i hi hn=>(hI2.dead i hi hn).1) hc
  rw[hxa]
  have b6:b g2=_:=hsb _ _ b22
  have x2:=oX _ _ b22
  have x25:=o5 _ _ b22
  refine aC ?_
  simp[nX5,Ne.symm nX5,x2,Ne.symm x2,x25,Ne.symm x25,bL5,b6]
  have blb:Sub bl b:=fun x y hx=>hsb x y (Js x y (s0 x y hx))
  have blX:bl gX=none:=by
   cases hv:bl gX with
   | none => rfl
   | some y => have := Js gX y (s0 gX y hv); rw [Xbl] at this; cases this
  refine aK [.agg [.int .i64 0,.lsl gX 3 0 j,.bool (rq vq).neg,.sl (iv (rq vq).m),.sl (iv (rq vq).d)]] 2 (by simp) ?_ fun x y hx=> ?_
  ·have hfX: ∀B:Int→Option Blk,B gX=some ⟨3,rqs j fun c=>if c<j then Lp.xb m (j+m) t c else 0⟩→frz (dropB B bl) 1 (.lsl gX 3 0 j)=some (.sl (rqs j fun c=>if c<j then Lp.xb m (j+m) t c else 0)):=fun B hB=>by
    by_cases e:gX<0
    ·rcases aLS with g | g
     ·omega
     ·rw[g];unfold frz;rw[if_pos e];rfl
    ·exact dD (by omega) blX hB (by simp) (Gc _ _)
   rw[show Gh j (wO (pC p)) (some (some fun c=>if c<j then Lp.xb m (j+m) t c else 0))= .agg [.int .i64 0,.sl (rqs j fun c=>if c<j then Lp.xb m (j+m) t c else 0),.bool (rq vq).neg,.sl (iv (rq vq).m),.sl (iv (rq vq).d)] by rw[←aNW];rfl]
   exact Wc rfl (hfX _ (by
    show upd (upd b gX _) g2 _ gX=_
    rw[aG _ _ _ _ (Ne.symm x2),aZ]))
  ·show upd (upd b gX _) g2 _ x=some y
   rw[aG _ _ _ _ (fun e=>by rw[e,hb2] at hx;cases hx),aG _ _ _ _ (fun e=>by rw[e,blX] at hx;cases hx)]
   exact blb x y hx

noncomputable def aT8 (s : Str) (l : List Int) : Bool := Vk (nC s) (nR s) (eQ (cX s l) (nC s) (nR s))
noncomputable def aXE (s : Str) (l : List Int) : Bool := lOk s l && aT8 s l

def xl (n:Nat) (x:Nat→Rat):List (Option Rat):=(List.range n).map fun c=>some (x c)
@[simp] theorem aFT (n : Nat) (x : Nat → Rat) : (xl n x).length = n := by simp [xl]
theorem aD9 (n:Nat) (x:Nat→Rat):fxs n x=fvs (xl n x):=by simp[fvs,xl,fxs]
theorem Vj {n k:Nat} (x:Nat→Rat) (h:k≤n):(fxs n x).take k=fvs (xl k x):=by
 rw[←aD9]
 unfold fxs
 rw[←List.map_take,List.take_range,Nat.min_eq_left h]
theorem D2 {p:Pg} {n m:Nat} (h:PgN p n m) {x:Nat→Rat} (ho:Lp.opt n m (eQ p n m) (n+m) (wO (pC p))=some (some x)) (c:Nat):fits (x c):=by
 rcases Lp.answers (wO (pC p)) h.init with ⟨e,_⟩| ⟨e,_⟩| ⟨y,e,_,hd,h0⟩
 ·rw[ho] at e;cases e
 ·rw[ho] at e;cases e
 ·rw[ho] at e
  have e:=Option.some.inj (Option.some.inj e)
  subst e
  by_cases hc:c<n
  ·exact cH (Lp.fS (hd.sm hc) (qV h.ml))
  ·rw[h0 c (by omega)];exact fits_int (n:=0) (by decide)
theorem Is {n:Nat} {x:Nat→Rat} (h: ∀c,fits (x c)):okL (xl n x):=fun y hy=>by
 obtain⟨c,_,rfl⟩:=List.mem_map.1 hy
 exact okS (h c)
def xS (s:Str) (n:Nat):Option (Option (Nat→Rat))→V
 | some (some x) => .tup [.sl (fvs (hH s.ms (xl (nC s) x) (nC s))), .sl ((fxs n x).drop (nC s)), .bool true]
 | _ => .tup [.sl [], .sl [], .bool false]
theorem Lw (s:Str) (hm:s.ms.length≤8) (p:Pg) (n m:Nat) (h:PgN p n m) (hn:nC s≤n):RO Tryz.prog 71 [.ptr s.c,.agg p.v] (xS s n (Lp.opt n m (eQ p n m) (n+m) (wO (pC p)))):=by
 have hS:=Nh p n m h
 obtain⟨o,ho⟩: ∃o,Lp.opt n m (eQ p n m) (n+m) (wO (pC p))=o:=⟨_,rfl⟩
 have uI:=fun x (e:o=some (some x))=>D2 h (ho.trans e)
 rw[ho] at hS ⊢
 have hlen:(aS s.ms).length=nC s:=rfl
 refine aI Tryz.func71 rfl rfl (by rw[Tryz.ntmps71];simp) fun bl=> ?_
 rw[Tryz.ntmps71,Tryz.results71]
 refine aE ?_
 simp[Pg.v]
 intro g hg hbg
 refine cW 1 3 (.ptr p.v) bl (by intro z b hz;simp only[aA] at hz ⊢;grind) (by simp[frz,dropB,hbg,V.cl,Pg.v]) ?_
 refine aE ?_
 simp[Pg.v]
 refine aD hS ?_
 rcases o with _ | _ | x
 ·simp[Db]
  refine aC ?_
  simp
  exact aK [.nils,.nils,.bool false] 1 (by simp) (by simp[frz,V.cl,xS]) (Sub.refl _)
 ·simp[Db]
  refine aC ?_
  simp
  exact aK [.nils,.nils,.bool false] 1 (by simp) (by simp[frz,V.cl,xS]) (Sub.refl _)
 ·have hF:=Xl s (xl (nC s) x) hm (Is (uI x rfl)) (by simp[nC])
  rw[hlen] at hF
  simp[Db]
  refine aN ?_
  refine aC ?_
  simp
  refine aC ?_
  simp
  refine aD (pQ s hm) ?_
  simp[hlen]
  have hcl: ∀y,y∈fxs n x→1=y.length:=fun y hy=>by
   obtain⟨c,_,rfl⟩:=List.mem_map.1 hy
   rfl
  have hni:(nC s:Int)≤n:=by omega
  refine bW aM (by kernel_rfl) ?_
  simp[sliV,hni,hn,Vj x hn]
  refine⟨hcl,aO hF ?_⟩
  have htk:(fxs n x).take n=fxs n x:=List.take_of_length_le (by simp)
  simp[sliV,hni,hn,htk]
  refine⟨hcl,?_⟩
  have e:retV [.sl (fvs (hH s.ms (xl (nC s) x) (nC s))),.sl ((fxs n x).drop (nC s)),.bool true]=xS s n (some (some x)):=rfl
  exact aK [.sl (fvs (hH s.ms (xl (nC s) x) (nC s))),.sl ((fxs n x).drop (nC s)),.bool true] 1 (by simp) (by rw[e];simp[frz,V.cl,xS]) (Sub.refl _)
noncomputable def rY (s : Str) : Option (Option (Nat → Rat)) → List (Option Rat)
 | some (some x) => hH s.ms (xl (nC s) x) (nC s)
 | _ => [none]
noncomputable def aXL (s : Str) (l : List Int) : List (Option Rat) :=
 if lOk s l=true then rY s (Lp.opt (nC s) (nR s) (eQ (cX s l) (nC s) (nR s)) (nC s+nR s) (wO (pC (cX s l)))) else [none]
theorem Ql {n:Nat} {x:Nat→Rat} (h: ∀c,fits (x c)):cO (cJ (xl n x))=xl n x:=by
 unfold cO cJ xl
 rw[List.map_map,List.map_map]
 exact List.map_congr_left fun c _=>G8 (okS (h c))
theorem Sx {n:Nat} {x:Nat→Rat} (h: ∀c,fits (x c)):lZ (cJ (xl n x))=true:=by
 rw[xD (Is h)]
 simp[cP,xl]
theorem Ui {s:Str} (hs:sOk s=true) {x:Nat→Rat} (h: ∀c,fits (x c)):uU s (cJ (xl (nC s) x))=hH s.ms (xl (nC s) x) (nC s):=by
 have hk:sD s (cJ (xl (nC s) x))=true:=by
  unfold sD
  rw[hs,Sx h]
  simp[nC]
 unfold uU
 rw[if_pos hk,Ql h];rfl
theorem Um {s:Str} (hs:SOk s) {o:Option (Option (Nat→Rat))} (h: ∀x,o=some (some x)→ ∀c,fits (x c)):okL (rY s o)∧(rY s o).length≤24:=by
 have:=hs.nm
 rcases o with _ | _ | x
 ·exact⟨uO,by simp[rY]⟩
 ·exact⟨uO,by simp[rY]⟩
 ·exact⟨zI s.ms (Is (h x rfl)) _,by show(hH _ _ _).length≤24;rw[fA];omega⟩
theorem Vp {s:Str} {l:List Int} (h:lOk s l=true):sOk s=true:=by
 unfold lOk at h
 rw[Bool.and_eq_true] at h
 exact h.1
theorem Lm (s:Str) (hs:s.sz) (hk:sOk s=true) {x:Nat→Rat} (h: ∀c,fits (x c)):RO Tryz.prog 135 [.agg s.c,.sl (rqs (nC s) x)] (.tup [.sl (rv (stQ (rY s (some (some x))))),.bool (cP (rY s (some (some x))))]):=by
 have hn:nC s≤16:=Ic (R1 hk)
 have:=qA s (cJ (xl (nC s) x)) hs.js hs.ms hs.nm (L0 (Is h) (by simp;omega))
 rw[Ui hk h] at this
 rw[aAJ]
 exact this

def sgT (t:Bool):Int:=if t then 1 else -1
theorem zZ (t:Bool):sgT t=1∨sgT t= -1:=by cases t<;>simp[sgT]
def pZ (s:Str) (l:List Int) (k:Int):Bool:=lOk s l && (decide (0≤k)&& decide (k<s.ms.length))
noncomputable def pI (s : Str) (l : List Int) (k : Int) (t : Bool) : List (Option Rat) :=
 if pZ s l k=true then rY s (Lp.opt (nC s) (nR s) (eQ (jF s l k (sgT t)) (nC s) (nR s)) (nC s+nR s) (wO (pC (jF s l k (sgT t))))) else [none]
theorem rK {s:Str} {l:List Int} {k:Int} (h:pZ s l k=true):lOk s l=true:=by
 unfold pZ at h
 rw[Bool.and_eq_true] at h
 exact h.1
theorem Q8 (s:Str) (l:List Int) (k:Int) (t:Bool):okL (pI s l k t)∧(pI s l k t).length≤24:=by
 unfold pI
 by_cases h:pZ s l k=true
 ·rw[if_pos h]
  have hL:=El (rK h)
  exact Um hL.sok fun x e=>D2 (A8 hL k _ (zZ t)) e
 ·rw[if_neg h];exact⟨uO,by simp⟩
theorem Lq (t:Bool):RO Tryz.prog 142 [.bool t] (.int .i64 (sgT t)):=by
 refine aI Tryz.func142 rfl rfl (by rw[Tryz.ntmps142];simp) fun bl=> ?_
 rw[Tryz.ntmps142,Tryz.results142]
 refine aC ?_
 simp
 cases t
 ·simp
  exact aP (by simp[sgT]) rfl rfl
 ·simp
  exact aP (by simp[sgT]) rfl rfl
theorem vG (s:Str) (l:List Int) (k:Int) (t:Bool) (hs:s.sz) (hl:l.length≤1048576):RO Tryz.prog 66 [.agg s.c,.sl (iv l),.int .i64 k,.bool t] (.tup [.sl (rv (stQ (pI s l k t))),.bool (cP (pI s l k t))]):=by
 have hms:=hs.ms
 refine aI Tryz.func66 rfl rfl (by rw[Tryz.ntmps66];simp) fun bl=> ?_
 rw[Tryz.ntmps66,Tryz.results66]
 refine aE ?_
 simp[Str.c]
 intro g hg hbg
 refine cW 1 4 (.ptr s.c) bl (by intro z b hz;simp only[aA] at hz ⊢;grind) (by simp[frz,dropB,hbg,V.cl,Str.c]) ?_
 refine aE ?_
 simp[Str.c]
 refine bD [(1,.sl (iv l)),(2,.int .i64 k),(3,.bool t),(4,.ptr s.c)] _ bl 24 (.bool (!pZ s l k)) ⟨rfl,by simp[Str.c],Sub.refl _⟩ rfl ?_ ?_
 ·simp[Str.c]
  refine aD (A6 s l hs.js hs.ms hs.nm (by omega)) ?_
  cases h1:lOk s l
  ·simp[pZ,h1]
  simp[pZ,h1,Str.c]
  rw[i64_in (by omega) (by omega)]
  refine aD (iS _ _ _) ?_
  by_cases h4:0≤k
  ·by_cases h5:k<s.ms.length
   ·have h6:k≤(s.ms.length:Int) - 1:=by omega
    simp[h4,h5,h6]
   ·have h6: ¬ k≤(s.ms.length:Int) - 1:=by omega
    simp[h4,h5,h6]
  ·simp[h4]
 cases hp:pZ s l k
 ·have hz:pI s l k t= [none]:=by unfold pI;rw[if_neg (by simp[hp])]
  rw[hz]
  simp
  exact aK [.nils,.bool false] 1 (by simp) (by simp[frz,V.cl,stQ,cP,rv,cJ]) (Sub.refl _)
 have hL:=El (rK hp)
 have hz:pI s l k t=rY s (Lp.opt (nC s) (nR s) (eQ (jF s l k (sgT t)) (nC s) (nR s)) (nC s+nR s) (wO (pC (jF s l k (sgT t))))):=by unfold pI;rw[if_pos hp]
 have hpg:=A8 hL k _ (zZ t)
 have hA:=Lb s l hL k _ (zZ t)
 have hS:=Ai (jF s l k (sgT t)) (nC s) (nR s) hpg
 have uI:=fun x (e:Lp.opt (nC s) (nR s) (eQ (jF s l k (sgT t)) (nC s) (nR s)) (nC s+nR s) (wO (pC (jF s l k (sgT t))))=some (some x))=>D2 hpg e
 rw[hz]
 obtain⟨p,hp2⟩: ∃p,jF s l k (sgT t)=p:=⟨_,rfl⟩
 rw[hp2] at hS hA uI ⊢
 obtain⟨o,ho⟩: ∃o,Lp.opt (nC s) (nR s) (eQ p (nC s) (nR s)) (nC s+nR s) (wO (pC p))=o:=⟨_,rfl⟩
 rw[ho] at hS uI ⊢
 simp
 refine aE ?_
 simp
 refine gH (fun _:Unit=> [(1,.sl (iv l)),(2,.int .i64 k),(4,.ptr s.c),(10,.int .i64 (sgT t))]) (fun _=>bl) (fun _=>True) 41 ?_ ?_
 ·refine aC ?_
  simp
  cases t
  ·simp[aH]
   exact⟨rfl,by simp[Str.c,sgT],Sub.refl _⟩
  ·simp[aH]
   exact⟨rfl,by simp[Str.c,sgT],Sub.refl _⟩
 rintro⟨⟩ -
 refine aC ?_
 simp[Str.c]
 refine aD hA ?_
 simp
 refine aD hS ?_
 rcases o with _ | _ | x
 ·simp[Gh]
  intro g6 hg6 hb6
  exact aK [.nils,.bool false] 1 (by simp) (by simp[frz,V.cl,rY,stQ,cP,rv,cJ]) (by simp[hb6])
 ·simp[Gh]
  intro g6 hg6 hb6
  exact aK [.nils,.bool false] 1 (by simp) (by simp[frz,V.cl,rY,stQ,cP,rv,cJ]) (by simp[hb6])
 ·have hD:=Lm s hs (Vp (rK hp)) (uI x rfl)
  simp[Gh,RT.c]
  intro g6 hg6 hb6
  refine aD hD ?_
  simp
  exact aK [.sl (rv (stQ (rY s (some (some x))))),.bool (cP (rY s (some (some x))))] 1 (by simp) (by simp[frz,V.cl]) (by simp[hb6])
theorem mV (s:Str) (l:List Int) (k:Int) (t:Bool) (hs:s.sz) (hl:l.length≤1048576):NW Tryz.prog 67 [.agg s.c,.sl (iv l),.int .i64 k,.bool t] (dV (stQ (pI s l k t)) (cP (pI s l k t))):=by
 obtain⟨hok,hlen⟩:=Q8 s l k t
 have hms:=hs.ms
 refine iD Tryz.func67 rfl rfl (by rw[Tryz.ntmps67];simp) fun bl=> ?_
 rw[Tryz.ntmps67,Tryz.results67]
 refine aE ?_
 simp[Str.c]
 intro g hg hbg
 refine cW 1 4 (.ptr s.c) bl (by intro z b hz;simp only[aA] at hz ⊢;grind) (by simp[frz,dropB,hbg,V.cl,Str.c]) ?_
 refine aE ?_
 simp[Str.c]
 refine bD [(1,.sl (iv l)),(2,.int .i64 k),(3,.bool t),(4,.ptr s.c)] _ bl 28 (.bool (!pZ s l k)) ⟨rfl,by simp[Str.c],Sub.refl _⟩ rfl ?_ ?_
 ·simp[Str.c]
  refine aD (G1 s l hs.js hs.ms hs.nm (by omega)) ?_
  cases h1:lOk s l
  ·simp[pZ,h1]
  simp[pZ,h1,Str.c]
  by_cases h4:0≤k
  ·have h4': ¬ k<0:=by omega
   by_cases h5:k<s.ms.length
   ·have h6: ¬ (s.ms.length:Int)≤k:=by omega
    simp[h4,h4',h5,h6,Str.c]
   ·have h6:(s.ms.length:Int)≤k:=by omega
    simp[h4,h4',h5,h6,Str.c]
  ·have h4':k<0:=by omega
   simp[h4,h4']
 cases hp:pZ s l k
 ·have hz:pI s l k t= [none]:=by unfold pI;rw[if_neg (by simp[hp])]
  rw[hz]
  simp
  exact fH [.nils,.bool false] [] (by simp) (zF _) (by simp) (Sub.refl _)
 have hL:=El (rK hp)
 have hz:pI s l k t=rY s (Lp.opt (nC s) (nR s) (eQ (jF s l k (sgT t)) (nC s) (nR s)) (nC s+nR s) (wO (pC (jF s l k (sgT t))))):=by unfold pI;rw[if_pos hp]
 have hT:=Lw s hL.sok.nm (jF s l k (sgT t)) (nC s) (nR s) (A8 hL k _ (zZ t)) (Nat.le_refl _)
 rw[hz] at hok hlen ⊢
 obtain⟨o,ho⟩: ∃o,Lp.opt (nC s) (nR s) (eQ (jF s l k (sgT t)) (nC s) (nR s)) (nC s+nR s) (wO (pC (jF s l k (sgT t))))=o:=⟨_,rfl⟩
 rw[ho] at hT hok hlen ⊢
 simp
 refine aE ?_
 simp
 refine cQ (yJ s l hL) fun v gs b1 o1 f fr=> ?_
 obtain⟨va,vb,vc,ga,gb,gc,rfl,rfl,d1,d2,oa,ob,oc⟩:=Fy.1 o1
 have hva:=jN oa
 have hvb:=jN ob
 have hvc:=jN oc
 have s1:Sub bl b1:=fun x y hx=>bJ f fr hx
 simp[hva,hvb,hvc]
 intro gp hgp hbp
 have hin: ∀x,x∈ga++(gb++gc)→ ∃y,b1 x=some y:=o1.has
 have hnp:gp∉ga++(gb++gc):=fun h=>by obtain⟨y,hy⟩:=hin gp h;rw[hbp] at hy;cases hy
 simp only[List.mem_append,not_or] at hnp
 obtain⟨npa,npb,npc⟩:=hnp
 obtain⟨b2,hb2⟩: ∃b2,b2=upd b1 gp (some ⟨5,[[.int .i64 (nR s),.int .i64 (nC s),va,vb,vc]]⟩):=⟨_,rfl⟩
 have mP:(cX s l).rows=nR s:=rfl
 have Ss:(cX s l).aS=nC s:=rfl
 refine dH [(2,.int .i64 k),(3,.bool t),(4,.ptr s.c),(10,.loc gp 5 0 0)] 47 b2 ⟨rfl,by simp[Str.c],by rw[hb2];exact sub_eq (by simp[mP,Ss])⟩ ?_
 have b2p:b2 gp=some ⟨5,[[.int .i64 (nR s),.int .i64 (nC s),va,vb,vc]]⟩:=by rw[hb2];simp
 have b2x: ∀x,x≠gp→b2 x=b1 x:=fun x hx=>by rw[hb2,aG _ _ _ _ hx]
 clear hb2
 have ok2: ∀ {d:D} {v:V} {gs:List Int},OwnD b1 d v gs→gp∉gs→OwnD b2 d v gs:=fun o hn=>o.cU fun x hx y hy=>by rw[b2x x (fun e=>hn (e▸hx))];exact hy
 have f0: ∀x,x∈ga++(gb++gc)→bl x=none:=f
 have fp:bl gp=none:=aR s1 hbp
 refine P7 (g:=gp) (s:=5) (els:= [[.int .i64 (nR s),.int .i64 (nC s),va,vb,vc]]) 0 4 b2p rfl rfl (ok2 oc npc) npc fun gC b3 b3p b3C nCp aAE Cor b3x=> ?_
 have nCa:gC∉ga:=fun h=>by
  rcases Cor with g | g
  ·exact d1 gC h (List.mem_append.2 (.inr g))
  ·have g:b2 gC=none:=g
   obtain⟨y,hy⟩:=(ok2 oa npa).has gC h;rw[g] at hy;cases hy
 have nCb:gC∉gb:=fun h=>by
  rcases Cor with g | g
  ·exact d2 gC h g
  ·have g:b2 gC=none:=g
   obtain⟨y,hy⟩:=(ok2 ob npb).has gC h;rw[g] at hy;cases hy
 have fC:bl gC=none:=by
  rcases Cor with g | g
  ·exact f0 gC (by simp[g])
  ·have g:b2 gC=none:=g
   rw[b2x gC nCp] at g;exact aR s1 g
 have oa3:OwnD b3 (fl 1 (iv (cX s l).a)) va ga:=(ok2 oa npa).cU fun x hx y hy=>by rw[b3x x (fun e=>npa (e▸hx)) (fun e=>nCa (e▸hx))];exact hy
 have ob3:OwnD b3 (fl 1 (iv (cX s l).b)) vb gb:=(ok2 ob npb).cU fun x hx y hy=>by rw[b3x x (fun e=>npb (e▸hx)) (fun e=>nCb (e▸hx))];exact hy
 have s3:Sub bl b3:=fun x y hx=>by
  have x1:x≠gp:=fun e=>by rw[e,fp] at hx;cases hx
  exact(b3x x x1 (fun e=>by rw[e,fC] at hx;cases hx)).trans ((b2x x x1).trans (s1 x y hx))
 rw[show(cX s l).c.length=nC s by simp[cX]] at b3p
 rw[show(cX s l).c=lz (nC s) (mG s k (sgT t) 0) from(F5 s k _).symm] at b3C
 simp only[List.set] at b3p
 clear Cor b3x b2x b2p ok2 hin o1 hbp s1
 refine dH [(2,.int .i64 k),(3,.bool t),(4,.ptr s.c),(10,.loc gp 5 0 0)] 47 b3 ⟨rfl,by simp[Str.c],Sub.refl _⟩ ?_
 refine aE ?_
 simp
 refine aD (Lq t) ?_
 simp
 refine aB9 s hL.sok k _ (zZ t) gp gC _ _ va vb _ b3p b3C nCp ?_
 simp
 obtain⟨b4,hb4⟩: ∃b4,b4=upd b3 gC (some ⟨1,iv (lz (nC s) (mI s k (sgT t)))⟩):=⟨_,rfl⟩
 rw[←hb4]
 have b4C:b4 gC=some ⟨1,iv (lz (nC s) (mI s k (sgT t)))⟩:=by rw[hb4];simp
 have b4x: ∀x,x≠gC→b4 x=b3 x:=fun x hx=>by rw[hb4,aG _ _ _ _ hx]
 have b4p:=(b4x gp (Ne.symm nCp)).trans b3p
 have s4:Sub bl b4:=fun x y hx=>by rw[b4x x (fun e=>by rw[e,fC] at hx;cases hx)];exact s3 x y hx
 have oa4:OwnD (dropB b4 bl) (fl 1 (iv (cX s l).a)) va ga:=oa3.cU fun x hx y hy=>by unfold dropB;rw[f0 x (List.mem_append.2 (.inl hx))];simp only;rw[b4x x (fun e=>nCa (e▸hx))];exact hy
 have ob4:OwnD (dropB b4 bl) (fl 1 (iv (cX s l).b)) vb gb:=ob3.cU fun x hx y hy=>by unfold dropB;rw[f0 x (List.mem_append.2 (.inr (List.mem_append.2 (.inl hx))))];simp only;rw[b4x x (fun e=>nCb (e▸hx))];exact hy
 have oc4:OwnD (dropB b4 bl) (fl 1 (iv (lz (nC s) (mI s k (sgT t))))) (.lsl gC 1 0 (nC s)) [gC]:=dI.2 (.inr ⟨gC,by simp,rfl,by unfold dropB;rw[fC];exact b4C,fun h=>by have:=aAE h;rw[show nC s=0 by simpa [cX] using this];rfl⟩)
 clear hb4
 refine dH [(4,.ptr s.c),(10,.loc gp 5 0 0)] 47 b4 ⟨rfl,by simp[Str.c],Sub.refl _⟩ ?_
 refine aE ?_
 simp[b4p,hva,hvb]
 refine gD 3 bl [.ptr s.c,.agg (jF s l k (sgT t)).v] s4 ?_ hT ?_
 ·have e:frz (dropB b4 bl) 3 (.agg [.int .i64 (nR s),.int .i64 (nC s),va,vb,.lsl gC 1 0 (nC s)])=some (.agg (jF s l k (sgT t)).v):=by
   rw[oM,List.mapM_cons,vO rfl,List.mapM_cons,vO rfl,List.mapM_cons,qC oa4 1,List.mapM_cons,qC ob4 1,List.mapM_cons,qC oc4 1]
   simp[Pg.v,jF,cX]
  simp[e]
  simp[frz]
 rcases o with _ | _ | x
 ·simp[xS]
  refine aC ?_
  simp
  exact fH [.nils,.bool false] [] (by simp) (zF _) (by simp) (Sub.refl _)
 ·simp[xS]
  refine aC ?_
  simp
  exact fH [.nils,.bool false] [] (by simp) (zF _) (by simp) (Sub.refl _)
 ·simp[xS]
  refine aC ?_
  simp
  refine cQ (Kd (rY s (some (some x))) hok (by omega)) fun v gs b' o f fr=> ?_
  obtain⟨w,rfl,ow,w1,w2⟩:=No o
  simp
  exact fH [w,.bool (cP (rY s (some (some x))))] gs (by simp) o (fun x hx=>f x hx) (fun x y hy=>bJ f fr hy)
theorem vF (s:Str) (l:List Int) (k:Int) (t:Bool) (hs:s.sz) (hl:l.length≤1048576):RO Tryz.prog 67 [.agg s.c,.sl (iv l),.int .i64 k,.bool t] (.tup [.sl (rv (stQ (pI s l k t))),.bool (cP (pI s l k t))]):=by
 have:=jA 3 (mV s l k t hs hl) (aA2 _ _ 0)
 rwa [aM1] at this
end Go.Proofs.YticmgmemnpcbbaaGreat.Vm
