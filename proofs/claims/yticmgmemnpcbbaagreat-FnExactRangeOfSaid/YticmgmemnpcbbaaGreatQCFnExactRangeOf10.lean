/- FnExactRangeOf: for every structure and list of numbers and number the program's RangeOf returns what the reference's returns; no condition. -/



import Derived.Test.YticmgmemnpcbbaaGreatQCFnExactRangeOf9

namespace Go.Proofs.YticmgmemnpcbbaaGreat.Vm
open Go Go.RowKit Go.Proofs
set_option linter.unusedSimpArgs false
set_option linter.unusedVariables false
structure aV5 (p : Pg) (n m : Nat) : Prop where
 a: ∀x,x∈p.a→x.natAbs≤100
 b: ∀x,x∈p.b→x.natAbs≤100
 c: ∀x,x∈p.c→x.natAbs≤100
 m:m≤20
 n:n≤40
noncomputable def Ul (n m : Nat) (E : Nat → Nat → Rat) : Bool := open Classical in decide (∃ x, Lp.jL n m E (n + m) x)
theorem Mn {n m:Nat} {E:Nat→Nat→Rat} :Ul n m E=true ↔ ∃x,Lp.jL n m E (n+m) x:=by unfold Ul;simp
theorem tZ (n m c:Nat):Lp.isInt (Lp.bE n m c)∧ -((1000:Nat):Rat)≤Lp.bE n m c∧Lp.bE n m c≤((1000:Nat):Rat):=by
 unfold Lp.bE
 split
 ·exact⟨⟨-1,rfl⟩,by decide,by decide⟩
 ·exact⟨⟨0,rfl⟩,by decide,by decide⟩
theorem Ik {bl:Int→Option Blk} {K:V→(Int→Option Blk)→Prop} (p:Pg) (n m:Nat) (h:PgN p n m) (g:SG) (hS:SS bl g (snV (List.range m) (n+m) (n+m) m (Lp.bE n m) (Lp.kH n (eQ p n m))))
  (hK: ∀b' T r,Lp.pW n m (n+m+1) 1000 (eQ p n m) T→SS b' g (snV (List.range m) (n+m) (n+m) m (Lp.bE n m) T)→(∀x y,bl x=some y→x∉g.all→b' x=some y)→K (.bool r) b'):
  bW Tryz.prog 190 [.loc g.T 4 0 0,.bool false] bl K:=by
 have hml:=h.ml
 have hnl:=h.nl
 obtain⟨e,h1,h2,h3,h4⟩:=Lp.sJ (F:=fun c=>c<n+m) (N':=n+m) h.init (fun c hc=>hc) (Nat.le_refl _) (fun c hc=>⟨by omega,by omega⟩)
 have hR:Rb n m (n+m) (eQ p n m) (List.range m) false (Lp.bE n m) (Lp.okW m (Lp.bE n m) fun c=>c<n+m):=by
  refine⟨hml,hnl,Nat.le_refl _,lQ m,fun T _ i hi hn=>absurd (by simpa using hi) hn,fun c _=>tZ n m c,fun T hI j hj hb hok=> ?_⟩
  obtain⟨q,hq,e1⟩:=hb
  have hq':q<m:=by simpa using hq
  have e2:=Lp.kY hI.z.ti (Lp.bE n m) hq'
  simp only at e1
  rw[dM hq'] at e1
  rw[e1] at e2
  have:=hok.2
  rw[e2] at this;exact absurd this (by decide)
 have hnx:Lp.nx (n+m) (n+m) (List.range m) (Lp.okW m (Lp.bE n m) fun c=>c<n+m) (Lp.orb (Lp.nx (n+m) (n+m) (List.range m) (Lp.okW m (Lp.bE n m) fun c=>c<n+m)) (Lp.kH n (eQ p n m)) e)=none:=by
  unfold Lp.nx at h1 ⊢
  rw[h1]
 refine l10Run_cp hR g (Lp.kH n (eQ p n m)) e (fun T hI j hj hnb=> ?_) hnx h2 h3 hS (fun b' _ hS' hx=>hK b' _ true h4 hS' hx) (fun b' k hk _ _=>absurd hk (by rw[h1];simp))
 have hV:=hR.view hI
 have hco:(snV (List.range m) (n+m) (n+m) m (Lp.bE n m) T).co j=Lp.rc m (Lp.bE n m) T j:=by
  show Lp.rc m (Lp.bE n m) T (if j<n+m then j else n+m)=_
  rw[if_pos hj]
 have hfl:=U2 (snV (List.range m) (n+m) (n+m) m (Lp.bE n m) T) j (show j<n+m+1 by omega) (cJ (hV.tm.co j (show j<n+m+1 by omega)))
 refine⟨_,?_,hfl⟩
 rw[Lp.A8,hco]
 unfold Lp.okW
 exact⟨fun hp=>⟨hj,hp⟩,fun hp=>hp.2⟩
theorem pW.has {p:Pg} {n m:Nat} {T:Lp.Tab} (h:Lp.pW n m (n+m+1) 1000 (eQ p n m) T):(Lp.rc m (Lp.bE n m) T (n+m)=0) ↔ Ul n m (eQ p n m)=true:=by
 rw[Mn]
 constructor
 ·intro h0;exact⟨_,h.Mg h0⟩
 ·rintro⟨x,hx⟩
  exact Classical.byContradiction fun h0=>h.no h0 x hx
end Go.Proofs.YticmgmemnpcbbaaGreat.Vm

namespace Go.Proofs.YticmgmemnpcbbaaGreat.Lp
set_option linter.unusedSimpArgs false
set_option linter.unusedVariables false
def part (w:Nat→Rat) (t:Tab) (rw_:Nat→Nat) (i c:Nat):Rat:=w c - S i fun p=>t.X (rw_ p) c*w (t.bs (rw_ p))
theorem TZ.part {m N K W:Nat} {E:Nat→Nat→Rat} {t:Tab} (h:TZ m N K E t) {w:Nat→Rat} (hw: ∀c,c<N→isInt (w c)∧ -(W:Rat)≤w c∧w c≤W) {c:Nat} (hc:c<N) (hW:1≤W) {rw_:Nat→Nat} {i:Nat} (hi:i≤m) (hr: ∀p,p<i→rw_ p<m):Lp.sm ((m+1)*(W*lid K m)) (Lp.part w t rw_ i c):=by
 obtain⟨hvi,hvl⟩:=h.mD
 obtain⟨v,hv⟩:=hvi
 have hne:=h.vol
 have e:Lp.part w t rw_ i c*Lp.vol m E t=w c*Lp.vol m E t - S i fun p=>w (t.bs (rw_ p))*(t.X (rw_ p) c*Lp.vol m E t):=by
  unfold Lp.part
  rw[show(S i fun p=>w (t.bs (rw_ p))*(t.X (rw_ p) c*Lp.vol m E t))=(S i fun p=>t.X (rw_ p) c*w (t.bs (rw_ p)))*Lp.vol m E t by rw[←oC];exact bS fun i _=>by grind]
  grind
 have hint:isInt (Lp.part w t rw_ i c*Lp.vol m E t):=by
  rw[e]
  exact J4 (kT (hw c hc).1 h.mD.1) (xZ fun p hp=>kT (hw _ (h.bs _ (hr p hp))).1 (h.entry (hr p hp) hc).1)
 have b1:=uB (hw c hc).2 hvl
 have b2:=Hc (n:=i) (f:=fun p=>w (t.bs (rw_ p))*(t.X (rw_ p) c*Lp.vol m E t)) (B:=(W:Rat)*lid K m) fun p hp=>uB (hw _ (h.bs _ (hr p hp))).2 (h.entry (hr p hp) hc).2
 have hB:(((m+1)*(W*lid K m):Nat):Rat)=(m:Rat)*((W:Rat)*lid K m)+(W:Rat)*lid K m:=by
  rw[Rat.natCast_mul,Rat.natCast_mul,Rat.natCast_add]
  grind
 have hle:(i:Rat)*((W:Rat)*lid K m)≤(m:Rat)*((W:Rat)*lid K m):=by
  have:i*(W*lid K m)≤m*(W*lid K m):=Nat.mul_le_mul_right _ hi
  have:=Rat.natCast_le_natCast.2 this
  simp only[Rat.natCast_mul] at this
  exact this
 obtain⟨a,ha⟩:=hint
 refine⟨a,v,fun e0=>hne (by rw[hv,e0];rfl),by rw[←hv,ha],mB ha ?_,?_⟩
 ·rw[hB,e]
  grind
 ·have h1:=mB hv hvl
  have:lid K m≤(m+1)*(W*lid K m):=by
   calc lid K m=1*(1*lid K m):=by omega
    _≤(m+1)*(W*lid K m):=Nat.mul_le_mul (by omega) (Nat.mul_le_mul hW (Nat.le_refl _))
  omega
theorem Cp {m:Nat} {E:Nat→Nat→Rat} {t:Tab} (h:TI m E t) {w:Nat→Rat} {rw_:Nat→Nat} {i:Nat} (hi:rw_ i<m) (hr: ∀p,p<i→rw_ p<m) (hne: ∀p,p<i→rw_ p≠rw_ i):Lp.part w t rw_ i (t.bs (rw_ i))=w (t.bs (rw_ i)):=by
 unfold Lp.part
 rw[jD]
 ·grind
 ·intro p hp
  rw[h.unit _ _ (hr p hp) hi,if_neg (hne p hp)];grind
theorem Ke (w:Nat→Rat) (t:Tab) (rw_:Nat→Nat) (i c:Nat):Lp.part w t rw_ (i+1) c=Lp.part w t rw_ i c - w (t.bs (rw_ i))*t.X (rw_ i) c:=by
 unfold Lp.part
 rw[S];grind
end Go.Proofs.YticmgmemnpcbbaaGreat.Lp

namespace Go.Proofs.YticmgmemnpcbbaaGreat.Vm
open Go Go.RowKit Go.Proofs
set_option linter.unusedSimpArgs false
set_option linter.unusedVariables false
theorem Bk {n0 m n:Nat} {E:Nat→Nat→Rat} {rows:List Nat} {w0:Nat→Rat} {T:Lp.Tab} (hml:m≤17) (hnl:n0+m≤100) (hnn:n≤n0+m) (hr:Rows m rows) (hw: ∀c,c<n0+m+1→Lp.isInt (w0 c)∧ -((1000:Nat):Rat)≤w0 c∧w0 c≤((1000:Nat):Rat)) (z:Lp.TZ m (n0+m+1) 1000 E T):Tz (snV rows n (n0+m) m w0 T):=by
 have hl:=hr.len
 refine⟨fun i c hi hc=> ?_,fun c hc=> ?_,?_,?_⟩
 ·have hi':i<rows.length:=hi
  have hin:=hr.lt (cM hi')
  exact Lp.fJ (z.sm (c:=if c<n then c else n0+m) hin (by split<;>omega)) (uM hml)
 ·exact Lp.fJ (z.rc hw (c:=if c<n then c else n0+m) (by split<;>omega) (by decide)) (tE hml)
 ·show n+1≤200;omega
 ·show rows.length≤100;omega
theorem Qb {w j:Nat} {f g:Nat→Rat} (hj:j≤w) (h: ∀c,c<j→f c=g c):(rqs w f).take j=rqs j g:=by
 unfold rqs
 rw[←List.map_take,List.take_range,Nat.min_eq_left hj]
 exact List.map_congr_left fun c hc=>by rw[h c (by simpa using hc)]
theorem qJ {L:List Nat} (r:Nat) {z:Nat} (h:z<L.length):atR (L++ [r]) z=atR L z:=by
 unfold atR
 rw[List.getD_eq_getElem?_getD,List.getD_eq_getElem?_getD,List.getElem?_append_left h]
theorem wK {L:List Nat} (r:Nat) {l:Nat} (h:L.length=l):atR (L++ [r]) l=r:=by
 unfold atR
 rw[List.getD_eq_getElem?_getD,List.getElem?_append_right (by omega),h,Nat.sub_self];rfl
theorem Ql {r:Nat} {f g:Nat→Nat} (h: ∀z,z<r→f z=g z):lb r f=lb r g:=List.map_congr_left fun c hc=>by rw[h c (by simpa using hc)]
structure aHT where
 i:Nat
 b:Int→Option Blk
structure aBM where
 j:Nat
 d:Bool
 b:Int→Option Blk
set_option maxHeartbeats 2000000 in
theorem P3 {bl:Int→Option Blk} {K:V→(Int→Option Blk)→Prop} (p:Pg) (n m:Nat) (h:PgN p n m) (g:SG) (T:Lp.Tab) (h4:Lp.pW n m (n+m+1) 1000 (eQ p n m) T) (hp:Lp.rc m (Lp.bE n m) T (n+m)=0) (hS:SS bl g (snV (List.range m) (n+m) (n+m) m (Lp.bE n m) T))
  (hK: ∀b' g',SS b' g' (snV (Lp.bK n (Lp.kicks n T m) m) n (n+m) m (wO (pC p)) (Lp.kicks n T m))→(∀x,x∈g'.all→bl x=none)→(∀x y,bl x=some y→x∉g.all→b' x=some y)→K (.loc g'.T 4 0 0) b'):
  bW Tryz.prog 201 [.agg p.v,.loc g.T 4 0 0] bl K:=by
 have hml:=h.ml
 have hnl:=h.nl
 have hkk:=Lp.jP (h4.kN hp) (show n≤n+m+1 by omega)
 have hrl:(List.range m).length=m:=by simp
 obtain⟨N,hN⟩: ∃N,n+m=N:=⟨_,rfl⟩
 refine bO Tryz.func201 rfl rfl (by rw[Tryz.ntmps201];simp) ?_
 rw[Tryz.ntmps201,Tryz.results201]
 refine aE ?_
 simp[Pg.v]
 intro g2 hg2 hb2
 refine cP 1 2 (.ptr p.v) bl (by intro z b hz;simp only[aA] at hz ⊢;grind) (by simp[frz,dropB,hb2,V.cl,Pg.v]) ?_
 have bT:bl g.T=some ⟨4,[[.int .i64 N,.lsl g.R 1 0 m,.lsl g.B 1 0 m,.lsl g.C 3 0 (N+1)]]⟩:=by
  have:=hS.hd
  simp only[snV,hrl] at this
  rw[←hN];exact this
 refine aN ?_
 refine aC ?_
 simp[bT]
 refine aJ (fun q:aHT=> [(1,.loc g.T 4 0 0),(2,.ptr p.v),(18,.int .i64 m),(19,.int .i64 q.i)]) (fun q=>q.b) (fun q=>q.i≤m∧SS q.b g (snV (List.range m) (n+m) (n+m) m (Lp.bE n m) (Lp.kicks n T q.i))∧ ∀x y,bl x=some y→x∉g.all→q.b x=some y) (fun q=>m - q.i) _ ⟨0,bl⟩ ⟨Nat.zero_le _,hS,fun _ _ hx _=>hx⟩ ⟨rfl,by simp[Pg.v],Sub.refl _⟩ ?_
 clear bT hS
 rintro⟨i,b⟩ ⟨hi,hSb,hfb⟩
 simp only at hi hSb hfb
 have wi:IntKind.i64.wrap ((i:Int)+1)=(i:Int)+1:=i64_in (by omega) (by omega)
 obtain⟨U,hU⟩: ∃U,Lp.kicks n T i=U:=⟨_,rfl⟩
 rw[hU] at hSb
 have hKi:=hkk i hi
 rw[hU] at hKi
 refine aE ?_
 simp
 refine aE ?_
 simp
 refine⟨fun him=> ?_,fun him=> ?_⟩
 ·have oV:Lp.kicks n T (i+1)=Lp.kN n U i:=by rw[Lp.kicks,hU]
  have hKn:=hkk (i+1) (by omega)
  rw[oV] at hKn
  refine aN (aT ?_)
  refine aE ?_
  simp
  refine aC ?_
  simp
  refine aJ (fun q:aBM=> [(1,.loc g.T 4 0 0),(2,.ptr p.v),(18,.int .i64 m),(19,.int .i64 i),(5,.int .i64 i),(6,.int .i64 q.j)]) (fun q=>q.b) (fun q=>q.j≤n∧(∀x y,bl x=some y→x∉g.all→q.b x=some y)∧((q.d=false∧ ¬ U.bs i<n∧(∀c,c<q.j→ ¬ U.X i c≠0)∧SS q.b g (snV (List.range m) (n+m) (n+m) m (Lp.bE n m) U))∨(q.d=true∧(Lp.kN n U i).bs i<n∧SS q.b g (snV (List.range m) (n+m) (n+m) m (Lp.bE n m) (Lp.kN n U i))))) (fun q=>n - q.j) _ ⟨0,decide (U.bs i<n),b⟩ ⟨Nat.zero_le _,hfb,?_⟩ ⟨rfl,by simp[Pg.v],Sub.refl _⟩ ?_
  ·by_cases e:U.bs i<n
   ·have ek:Lp.kN n U i=U:=by unfold Lp.kN;rw[if_pos e]
    exact .inr ⟨by simp[e],by rw[ek];exact e,by rw[ek];exact hSb⟩
   ·exact .inl ⟨by simp[e],e,fun c hc=>by simp only at hc;omega,hSb⟩
  clear hSb hfb
  rintro⟨j,d,b⟩ ⟨hj,hfb,hst⟩
  simp only at hj hfb hst
  have wj:IntKind.i64.wrap ((j:Int)+1)=(j:Int)+1:=i64_in (by omega) (by omega)
  rcases hst with ⟨rfl,hnb,cD,hSb⟩| ⟨rfl,hkb,hSb⟩
  ·have bT:b g.T=some ⟨4,[[.int .i64 N,.lsl g.R 1 0 m,.lsl g.B 1 0 m,.lsl g.C 3 0 (N+1)]]⟩:=by
    have:=hSb.hd
    simp only[snV,hrl] at this
    rw[←hN];exact this
   have bB:b g.B=some ⟨1,iv (lb m fun q=>U.bs (atR (List.range m) q))⟩:=by
    have:=hSb.ba
    simp only[snV,hrl] at this
    exact this
   have Cd:(i:Int)<m:=by omega
   have hge:n≤U.bs i:=by omega
   refine aN (aN ?_)
   refine tG aM (by kernel_rfl) [(1,.loc g.T 4 0 0),(2,.ptr p.v),(18,.int .i64 m),(19,.int .i64 i),(5,.int .i64 i),(6,.int .i64 j)] _ b 37 (.bool (decide (j<n))) ⟨rfl,by simp[Pg.v],Sub.refl _⟩ rfl ?_ ?_
   ·simp[Pg.v,h.bD]
    by_cases e:j<n
    ·simp[e,bT,bB,him,Cd,dM him,hge]
    ·simp[e]
   simp
   refine aC ?_
   simp
   refine⟨fun hjn=> ?_,fun hjn=> ?_⟩
   ·have hRt:SG.mk g.T g.R g.B g.C g.ids=g:=rfl
    obtain⟨gi,hgi,xK,xS,mP⟩:=hSb.at i (show i<(List.range m).length by rw[hrl];exact him)
    obtain⟨zr,hzr⟩: ∃zr,(snV (List.range m) (n+m) (n+m) m (Lp.bE n m) U).Z i=zr:=⟨_,rfl⟩
    have aHH:b gi=some ⟨3,rqs (N+1) zr⟩:=by rw[mP,←hzr,←hN];rfl
    have bR:b g.R=some ⟨1,g.ids.map fun x=> [.lsl x 3 0 (N+1)]⟩:=by
     have:=hSb.top
     simp only[snV] at this
     rw[←hN];exact this
    have hil:g.ids.length=m:=by have:=hSb.len;simp only[snV,hrl] at this;exact this
    have hgj: ∀h,g.ids[i]'h=gi:=fun h=>by rw[List.getElem?_eq_getElem h] at hgi;exact Option.some.inj hgi
    have hjN:j<N+1:=by omega
    have aS1:(j:Int)<(N:Int)+1:=by omega
    have hzj:zr j=U.X i j:=by
     rw[←hzr]
     show U.X (atR (List.range m) i) (if j<n+m then j else n+m)=_
     rw[dM him,if_pos (by omega)]
    have htm:=Bk hml hnl (Nat.le_refl (n+m)) (lQ m) (fun c _=>tZ n m c) hKi.z
    have hfz:fits (U.X i j):=by
     have:=htm.z i j (show i<(List.range m).length by rw[hrl];exact him) (show j<n+m+1 by omega)
     rw[hzr,hzj] at this
     exact cJ this
    have l3: ∀q:Rat,(rq q).c.length=3:=fun _=>rfl
    have t3: ∀q:Rat,(rq q).c.take 3=(rq q).c:=fun _=>rfl
    refine aN (aT ?_)
    refine aN ?_
    refine aC ?_
    simp[bT,bR,him,Cd,hil,hgj,aHH,hjN,aS1,hzj,l3,t3]
    refine aD (gK hfz) ?_
    simp
    by_cases hz:U.X i j=0
    ·refine aC ?_
     simp[hz]
     refine aC ?_
     simp[wj,aB]
     refine⟨⟨j+1,false,b⟩,⟨by simp only;omega,hfb,.inl ⟨rfl,hge,fun c hc=> ?_,hSb⟩⟩,by simp only;omega,rfl,by simp[Pg.v],Sub.refl _⟩
     by_cases e:c=j
     ·rw[e];exact hz
     ·exact Classical.not_not.1 (cD c (by simp only at hc;omega))
    ·have ek:Lp.kN n U i=Lp.piv U i j:=by unfold Lp.kN;rw[if_neg hnb,Lp.dI.2 ⟨hjn,hz,cD⟩]
     have hat:=dM him
     obtain⟨p1,p2,p3⟩:=Gi (n0:=n) (n:=n+m) (w0:=Lp.bE n m) (T:=U) (lQ m) (pr:=i) (k:=j) (by rw[hrl];exact him) (by omega) (by rw[hat];exact hz)
     rw[hat] at p1 p2 p3
     have aCV:=Bk hml hnl (Nat.le_refl (n+m)) (lQ m) (fun c _=>tZ n m c) hKn.z
     rw[ek] at aCV
     refine aC ?_
     simp[hz]
     refine wU g (snV (List.range m) (n+m) (n+m) m (Lp.bE n m) U) i j hSb (show i<(List.range m).length by rw[hrl];exact him) (show j<n+m+1 by omega) htm (by rw[hzr,hzj];exact hz) ⟨fun a c ha hc=> ?_,fun c hc=> ?_,htm.w,htm.r⟩ fun b' hS' hx'=> ?_
     ·show nU (zpv _ i j a c)
      rw[p1 a c ha];exact aCV.z a c ha hc
     ·show nU (cpv _ _ i j c)
      rw[p2 c];exact aCV.co c hc
     simp
     refine aC ?_
     simp[wj,aB]
     refine⟨⟨j+1,true,b'⟩,⟨by simp only;omega,fun x y g1 g2=>hx' x y (hfb x y g1 g2) g2,.inr ⟨rfl,by rw[ek,Lp.dQ];exact hjn,?_⟩⟩,by simp only;omega,rfl,by simp[Pg.v],Sub.refl _⟩
     rw[ek]
     exact hS'.congr (fun q c hq _=>p1 q c hq) (fun c _=>p2 c) (fun q hq=>p3 q hq)
   ·have hje:j=n:=by omega
    have ek:Lp.kN n U i=U:=by
     unfold Lp.kN
     rw[if_neg hnb,Lp.eO.2 fun c hc=>cD c (by omega)]
    refine aC ?_
    simp[wi,aB]
    refine⟨⟨i+1,b⟩,⟨by simp only;omega,by simp only;rw[oV,ek];exact hSb,hfb⟩,by simp only;omega,rfl,by simp[Pg.v],Sub.refl _⟩
  ·have bT:b g.T=some ⟨4,[[.int .i64 N,.lsl g.R 1 0 m,.lsl g.B 1 0 m,.lsl g.C 3 0 (N+1)]]⟩:=by
    have:=hSb.hd
    simp only[snV,hrl] at this
    rw[←hN];exact this
   have bB:b g.B=some ⟨1,iv (lb m fun q=>(Lp.kN n U i).bs (atR (List.range m) q))⟩:=by
    have:=hSb.ba
    simp only[snV,hrl] at this
    exact this
   have Cd:(i:Int)<m:=by omega
   have hlt: ¬ n≤(Lp.kN n U i).bs i:=by omega
   refine aN (aN ?_)
   refine tG aM (by kernel_rfl) [(1,.loc g.T 4 0 0),(2,.ptr p.v),(18,.int .i64 m),(19,.int .i64 i),(5,.int .i64 i),(6,.int .i64 j)] _ b 37 (.bool false) ⟨rfl,by simp[Pg.v],Sub.refl _⟩ rfl ?_ ?_
   ·simp[Pg.v,h.bD]
    by_cases e:j<n
    ·simp[e,bT,bB,him,Cd,dM him,hlt]
     try omega
    ·simp[e]
   simp
   refine aC ?_
   simp
   refine aC ?_
   simp[wi,aB]
   refine⟨⟨i+1,b⟩,⟨by simp only;omega,by simp only;rw[oV];exact hSb,hfb⟩,by simp only;omega,rfl,by simp[Pg.v],Sub.refl _⟩
 ·have hie:i=m:=by omega
  subst hie
  clear him hi wi
  obtain⟨rows,lU⟩: ∃rows,Lp.bK n (Lp.kicks n T i) i=rows:=⟨_,rfl⟩
  rw[lU] at hK
  rw[hU] at hK lU
  have mG:=vX n i U
  have hRl:(List.range i).length=i:=hrl
  have hin: ∀x,x∈g.all→ ∃y,b x=some y:=fun x hx=>by
   simp only[SG.all,List.mem_cons] at hx
   rcases hx with rfl | rfl | rfl | rfl | hx
   ·exact⟨_,hSb.hd⟩
   ·exact⟨_,hSb.top⟩
   ·exact⟨_,hSb.ba⟩
   ·exact⟨_,hSb.cst⟩
   ·obtain⟨q,hq⟩:=List.mem_iff_getElem?.1 hx
    exact⟨_,hSb.row q x hq⟩
  have frB: ∀x,b x=none→bl x=none:=fun x hx=>by
   cases hv:bl x with
   | none => rfl
   | some y =>
     by_cases e:x∈g.all
     ·obtain⟨z,hz⟩:=hin x e
      rw[hx] at hz;cases hz
     ·have:=hfb x y hv e
      rw[hx] at this;cases this
  have bT0:b g.T=some ⟨4,[[.int .i64 N,.lsl g.R 1 0 i,.lsl g.B 1 0 i,.lsl g.C 3 0 (N+1)]]⟩:=by
   have:=hSb.hd
   simp only[snV,hrl] at this
   rw[←hN];exact this
  have bR0:b g.R=some ⟨1,g.ids.map fun x=> [.lsl x 3 0 (N+1)]⟩:=by
   have:=hSb.top
   simp only[snV] at this
   rw[←hN];exact this
  have bB0:b g.B=some ⟨1,iv (lb i fun q=>U.bs (atR (List.range i) q))⟩:=by
   have:=hSb.ba
   simp only[snV,hrl] at this
   exact this
  have hil:g.ids.length=i:=by have:=hSb.len;simp only[snV,hrl] at this;exact this
  have aUP: ∀q x,g.ids[q]? =some x→b x=some ⟨3,rqs (N+1) fun c=>U.X q (if c<N then c else N)⟩:=fun q x hq=>by
   have hqi:q<i:=by rw[←hil];exact(List.getElem?_eq_some_iff.1 hq).1
   rw[hSb.row q x hq]
   simp only[snV]
   rw[hN,dM hqi]
  obtain⟨w,hw⟩: ∃w,wO (pC p)=w:=⟨_,rfl⟩
  rw[hw] at hK
  have hwi: ∀c,w c=((pC p c:Int):Rat):=fun c=>by rw[←hw];rfl
  have hpc: ∀c,(pC p c).natAbs≤1000:=fun c=>iM h.cm c
  refine aE ?_
  simp[Pg.v,h.bD]
  intro gT hgT hbT
  refine cX [(1,.loc g.T 4 0 0),(2,.ptr p.v),(7,.loc gT 4 0 0)] 179 (upd b gT (some ⟨4,[[.int .i64 n,.nils,.nils,.nils]]⟩)) ⟨rfl,by simp[Pg.v,h.bD],sub_eq (by simp)⟩ ?_
  refine dC (g:=gT) (s:=4) (els:= [[.int .i64 n,.nils,.nils,.nils]]) 0 1 1 (by simp) rfl rfl fun gR hgR hRT=> ?_
  simp[hRT] at hgR
  refine dC (g:=gT) (s:=4) (els:= [[.int .i64 n,.lsl gR 1 0 0,.nils,.nils]]) 0 2 1 (by simp[Ne.symm hRT]) rfl rfl fun gB hgB hBT=> ?_
  simp[hBT] at hgB
  obtain⟨hBR,hgB⟩:=hgB
  refine dC (g:=gT) (s:=4) (els:= [[.int .i64 n,.lsl gR 1 0 0,.lsl gB 1 0 0,.nils]]) 0 3 3 (by simp[Ne.symm hBT]) rfl rfl fun gC hgC hCT=> ?_
  simp[hCT] at hgC
  obtain⟨hCB,hCR,hgC⟩:=hgC
  obtain⟨b1,hb1⟩: ∃b1,b1=upd (upd (upd (upd (upd (upd (upd b gT (some ⟨4,[[.int .i64 n,.nils,.nils,.nils]]⟩)) gT (some ⟨4,[[.int .i64 n,.lsl gR 1 0 0,.nils,.nils]]⟩)) gR (some ⟨1,[]⟩)) gT (some ⟨4,[[.int .i64 n,.lsl gR 1 0 0,.lsl gB 1 0 0,.nils]]⟩)) gB (some ⟨1,[]⟩)) gT (some ⟨4,[[.int .i64 n,.lsl gR 1 0 0,.lsl gB 1 0 0,.lsl gC 3 0 0]]⟩)) gC (some ⟨3,[]⟩):=⟨_,rfl⟩
  have b1T:b1 gT=some ⟨4,[[.int .i64 n,.lsl gR 1 0 0,.lsl gB 1 0 0,.lsl gC 3 0 0]]⟩:=by rw[hb1];simp[Ne.symm hCT]
  have b1R:b1 gR=some ⟨1,[]⟩:=by rw[hb1];simp[Ne.symm hCR,hRT,Ne.symm hBR]
  have b1B:b1 gB=some ⟨1,[]⟩:=by rw[hb1];simp[Ne.symm hCB,hBT]
  have b1C:b1 gC=some ⟨3,rqs 0 w⟩:=by rw[hb1];simp[rqs]
  have s1:Sub b b1:=fun x y hx=>by
   have x1:x≠gT:=fun e=>by rw[e,hbT] at hx;cases hx
   have x2:x≠gR:=fun e=>by rw[e,hgR] at hx;cases hx
   have x3:x≠gB:=fun e=>by rw[e,hgB] at hx;cases hx
   have x4:x≠gC:=fun e=>by rw[e,hgC] at hx;cases hx
   rw[hb1];simp[x1,x2,x3,x4,hx]
  refine cX [(1,.loc g.T 4 0 0),(2,.ptr p.v),(7,.loc gT 4 0 0)] 179 b1 ⟨rfl,by simp,by rw[hb1];exact sub_eq (by simp)⟩ ?_
  clear hb1
  refine aN ?_
  refine aC ?_
  simp
  refine aJ (fun q:Lt=> [(1,.loc g.T 4 0 0),(2,.ptr p.v),(7,.loc gT 4 0 0),(8,.int .i64 q.j)]) (fun q=>q.b) (fun q=>q.j≤n∧q.b gT=some ⟨4,[[.int .i64 n,.lsl gR 1 0 0,.lsl gB 1 0 0,.lsl q.gC 3 0 q.j]]⟩∧q.b gR=some ⟨1,[]⟩∧q.b gB=some ⟨1,[]⟩∧q.b q.gC=some ⟨3,rqs q.j w⟩∧(q.gC≠gT∧q.gC≠gR∧q.gC≠gB∧b q.gC=none)∧Sub b q.b) (fun q=>n - q.j) _ ⟨0,gC,b1⟩ ⟨Nat.zero_le _,b1T,b1R,b1B,b1C,⟨hCT,hCR,hCB,hgC⟩,s1⟩ ⟨rfl,by simp,Sub.refl _⟩ ?_
  clear s1 b1T b1R b1B b1C hgC hCB hCR hCT
  rintro⟨j,gC,c⟩ ⟨hj,cT,cR,cB,cC,⟨nCT,nCR,nCB,cbl⟩,hsb⟩
  simp only at hj cT cR cB cC nCT nCR nCB cbl hsb
  have wj:IntKind.i64.wrap ((j:Int)+1)=(j:Int)+1:=i64_in (by omega) (by omega)
  refine aN ?_
  refine aC ?_
  simp[Pg.v,h.bD]
  refine⟨fun hjn=> ?_,fun hjn=> ?_⟩
  ·refine aN (aT ?_)
   have hR0:=dU (pC p j) (by have:=hpc j;omega)
   rw[←hwi] at hR0
   refine dD aM (rem c gC) (cW c gC) [0,1,2,3,4,5,6,7,8,9,10] 5 15 (by kernel_rfl) ?_
   simp[Ne.symm nCT,cT,Pg.v,h.c,hjn]
   refine aO hR0 ?_
   simp
   refine Dq 11 false ?_
   simp[RT.c]
   intro g4 hg4 hb4
   have n4T:g4≠gT:=fun e=>by rw[e,cT] at hb4;cases hb4
   have n4R:g4≠gR:=fun e=>by rw[e,cR] at hb4;cases hb4
   have n4B:g4≠gB:=fun e=>by rw[e,cB] at hb4;cases hb4
   have n4C:g4≠gC:=fun e=>by rw[e,cC] at hb4;cases hb4
   have rI: ∀X,Sub (rem c gC) (upd c g4 X):=fun X z y hz=>by
    rw[aF] at hz
    rw[aA]
    grind
   refine⟨rI _,Dq 12 false ?_⟩
   have tkC:(rqs j w).take j=rqs j w:=List.take_of_length_le (by simp)
   simp[n4C,Ne.symm n4C,appV,elsV,Int.not_lt.2 hg4,cC,tkC]
   have hsn:rqs j w++ [[V.bool (rq (w j)).neg,.sl (iv (rq (w j)).m),.sl (iv (rq (w j)).d)]]=rqs (j+1) w:=by rw[kF];rfl
   rw[hsn]
   refine⟨by omega,fun gN hgN hbN=> ?_⟩
   have nN:gN≠gT∧gN≠gR∧gN≠gB∧gN≠g4:=by
    by_cases e:gN=gC
    ·subst e
     exact⟨nCT,nCR,nCB,Ne.symm n4C⟩
    ·obtain⟨q1,q2⟩:=hbN e
     exact⟨fun e=>(by rw[e,cT] at q2;cases q2),fun e=>(by rw[e,cR] at q2;cases q2),fun e=>(by rw[e,cB] at q2;cases q2),q1⟩
   obtain⟨nNT,nNR,nNB,nN4⟩:=nN
   have blN:b gN=none:=by
    by_cases e:gN=gC
    ·rw[e];exact cbl
    ·cases hv:b gN with
     | none => rfl
     | some y => have := hsb gN y hv; rw [(hbN e).2] at this; cases this
   have gY: ∀X Y,Sub (rem c gC) (upd (rem (upd c g4 X) gC) gN Y):=fun X Y z y hz=>by
    rw[aF] at hz
    rw[aA,aF,aA]
    grind
   have kJ: ∀X Y Z,Sub (upd (upd (rem c gC) gN Y) gT Z) (upd (upd (rem (upd c g4 X) gC) gN Y) gT Z):=fun X Y Z z y hz=>by
    simp only[aA,aF] at hz ⊢
    grind
   refine⟨gY _ _,Dq 13 false ?_⟩
   simp
   refine⟨gY _ _,Dq 14 false ?_⟩
   simp
   refine⟨gY _ _,Dq 15 true ?_⟩
   simp[Ne.symm nNT,Ne.symm nCT,n4T,Ne.symm n4T,cT]
   refine Dd ?_
   simp
   refine aC ?_
   simp[wj,aB]
   obtain⟨b2,hb2⟩: ∃b2,b2=upd (upd (rem c gC) gN (some ⟨3,rqs (j+1) w⟩)) gT (some ⟨4,[[.int .i64 n,.lsl gR 1 0 0,.lsl gB 1 0 0,.lsl gN 3 0 (j+1)]]⟩):=⟨_,rfl⟩
   refine⟨⟨j+1,gN,b2⟩,⟨by simp only;omega,by rw[hb2];simp,by rw[hb2];simp[hRT,Ne.symm nNR,Ne.symm nCR,cR],by rw[hb2];simp[hBT,Ne.symm nNB,Ne.symm nCB,cB],by rw[hb2];simp[nNT],⟨nNT,nNR,nNB,blN⟩,fun x y hx=> ?_⟩,by simp only;omega,rfl,by simp[Pg.v,h.bD,h.c],by rw[hb2];exact kJ _ _ _⟩
   have x1:x≠gT:=fun e=>by rw[e,hbT] at hx;cases hx
   have x2:x≠gN:=fun e=>by rw[e,blN] at hx;cases hx
   have x3:x≠gC:=fun e=>by rw[e,cbl] at hx;cases hx
   simp only
   rw[hb2];simp[x1,x2,x3];exact hsb x y hx
  have Rj:j=n:=by omega
  subst Rj
  have hwN:w (j+i)=0:=by
   rw[hwi,show pC p (j+i)=0 by unfold pC;rw[List.getD_eq_getElem?_getD,List.getElem?_eq_none (by have:=h.cl;omega)];rfl];rfl
  obtain⟨ph,hph⟩: ∃ph:Nat→Nat,ph=fun c=>if c<j then c else j+i:=⟨_,rfl⟩
  have hpl: ∀c,c<j→ph c=c:=fun c hc=>by rw[hph];simp only;rw[if_pos hc]
  have hpn:ph j=j+i:=by rw[hph];simp only;rw[if_neg (by omega)]
  have hR0:=dU 0 (by decide)
  rw[show(((0:Int):Rat))=w (ph j) by rw[hpn,hwN];rfl] at hR0
  refine aN ?_
  refine dD aM (rem c gC) (cW c gC) [0,1,2,3,4,5] 5 10 (by kernel_rfl) ?_
  simp[Ne.symm nCT,cT]
  refine aO hR0 ?_
  simp
  refine Dq 6 false ?_
  simp[RT.c]
  intro g4 hg4 hb4
  have n4T:g4≠gT:=fun e=>by rw[e,cT] at hb4;cases hb4
  have n4R:g4≠gR:=fun e=>by rw[e,cR] at hb4;cases hb4
  have n4B:g4≠gB:=fun e=>by rw[e,cB] at hb4;cases hb4
  have n4C:g4≠gC:=fun e=>by rw[e,cC] at hb4;cases hb4
  have rI: ∀X,Sub (rem c gC) (upd c g4 X):=fun X z y hz=>by
   rw[aF] at hz
   rw[aA]
   grind
  refine⟨rI _,Dq 7 false ?_⟩
  have tkC:(rqs j w).take j=rqs j w:=List.take_of_length_le (by simp)
  simp[n4C,Ne.symm n4C,appV,elsV,Int.not_lt.2 hg4,cC,tkC]
  obtain⟨j1,hj1⟩: ∃j1,j+1=j1:=⟨_,rfl⟩
  have hsn:rqs j w++ [[V.bool (rq (w (ph j))).neg,.sl (iv (rq (w (ph j))).m),.sl (iv (rq (w (ph j))).d)]]=rqs j1 fun c=>w (ph c):=by
   rw[←hj1,kF,bU (f:=fun c=>w (ph c)) (g:=w) fun c hc=>by rw[hpl c hc]];rfl
  rw[hsn,hj1]
  refine⟨by omega,fun gN hgN hbN=> ?_⟩
  have nN:gN≠gT∧gN≠gR∧gN≠gB∧gN≠g4:=by
   by_cases e:gN=gC
   ·subst e
    exact⟨nCT,nCR,nCB,Ne.symm n4C⟩
   ·obtain⟨q1,q2⟩:=hbN e
    exact⟨fun e=>(by rw[e,cT] at q2;cases q2),fun e=>(by rw[e,cR] at q2;cases q2),fun e=>(by rw[e,cB] at q2;cases q2),q1⟩
  obtain⟨nNT,nNR,nNB,nN4⟩:=nN
  have blN:b gN=none:=by
   by_cases e:gN=gC
   ·rw[e];exact cbl
   ·cases hv:b gN with
    | none => rfl
    | some y => have := hsb gN y hv; rw [(hbN e).2] at this; cases this
  have gY: ∀X Y,Sub (rem c gC) (upd (rem (upd c g4 X) gC) gN Y):=fun X Y z y hz=>by
   rw[aF] at hz
   rw[aA,aF,aA]
   grind
  have kJ: ∀X Y Z,Sub (upd (upd (rem c gC) gN Y) gT Z) (upd (upd (rem (upd c g4 X) gC) gN Y) gT Z):=fun X Y Z z y hz=>by
   simp only[aA,aF] at hz ⊢
   grind
  refine⟨gY _ _,Dq 8 false ?_⟩
  simp
  refine⟨gY _ _,Dq 9 false ?_⟩
  simp
  refine⟨gY _ _,Dq 10 true ?_⟩
  simp[Ne.symm nNT,Ne.symm nCT,n4T,Ne.symm n4T,cT]
  refine Dd ?_
  simp
  obtain⟨b2,hb2⟩: ∃b2,b2=upd (upd (rem c gC) gN (some ⟨3,rqs j1 fun c=>w (ph c)⟩)) gT (some ⟨4,[[.int .i64 j,.lsl gR 1 0 0,.lsl gB 1 0 0,.lsl gN 3 0 j1]]⟩):=⟨_,rfl⟩
  have hS2:SS b2 ⟨gT,gR,gB,gN,[]⟩ ⟨0,j1,j,fun q c=>U.X (atR [] q) (ph c),fun c=>w (ph c),fun q=>U.bs (atR [] q)⟩:=by
   refine⟨rfl,by rw[hb2];simp[hRT,Ne.symm nNR,Ne.symm nCR,cR],fun q x hx=>(by cases hx),fun x hx=>(by cases hx),by rw[hb2];simp,by rw[hb2];simp[hBT,Ne.symm nNB,Ne.symm nCB,cB,lb,iv],by rw[hb2];simp[nNT],hgT,fun _=>rfl,fun _=>rfl,hgN,?_⟩
   simp[SG.all];grind
  have s2:Sub b b2:=fun x y hx=>by
   have x1:x≠gT:=fun e=>by rw[e,hbT] at hx;cases hx
   have x2:x≠gN:=fun e=>by rw[e,blN] at hx;cases hx
   have x3:x≠gC:=fun e=>by rw[e,cbl] at hx;cases hx
   rw[hb2];simp[x1,x2,x3];exact hsb x y hx
  have aMI: ∀x,x∈SG.all ⟨gT,gR,gB,gN,[]⟩→b x=none:=by simp[SG.all,hbT,hgR,hgB,blN]
  refine cX [(1,.loc g.T 4 0 0),(2,.ptr p.v),(7,.loc gT 4 0 0)] 179 b2 ⟨rfl,by simp[Pg.v,h.bD],by rw[hb2];exact kJ _ _ _⟩ ?_
  clear hb2 kJ gY hsn tkC rI hsb cbl nCB nCR nCT cC cB cR cT wj hj hbN blN
  have aJ5:b2 g.T=_:=s2 _ _ bT0
  refine aN ?_
  refine aC ?_
  simp[aJ5]
  refine aJ (fun q:Nv=> [(1,.loc g.T 4 0 0),(2,.ptr p.v),(7,.loc gT 4 0 0),(95,.lsl g.R 1 0 i),(96,.int .i64 i),(97,.int .i64 q.i)]) (fun q=>q.b) (fun q=>q.i≤i∧SS q.b q.g ⟨(Lp.bK j U q.i).length,j1,j,fun z c=>U.X (atR (Lp.bK j U q.i) z) (ph c),fun c=>w (ph c),fun z=>U.bs (atR (Lp.bK j U q.i) z)⟩∧q.g.T=gT∧(∀x,x∈q.g.all→b x=none)∧Sub b q.b) (fun q=>i - q.i) _ ⟨0,⟨gT,gR,gB,gN,[]⟩,b2⟩ ⟨Nat.zero_le _,hS2,rfl,aMI,s2⟩ ⟨rfl,by simp[Pg.v,h.bD],Sub.refl _⟩ ?_
  clear hS2 aMI s2 aJ5
  clear hg4 n4T n4R n4B n4C nNT nNR nNB nN4
  rintro⟨r,⟨gT',gR',gB',gC',ids⟩,b'⟩ ⟨hri,hS,e1,hal,hsb⟩
  simp only at hri hS e1 hsb
  subst e1
  have hal: ∀x,x∈SG.all ⟨gT',gR',gB',gC',ids⟩→b x=none:=hal
  have wr:IntKind.i64.wrap ((r:Int)+1)=(r:Int)+1:=i64_in (by omega) (by omega)
  have b'T:b' g.T=_:=hsb _ _ bT0
  have b'R:b' g.R=_:=hsb _ _ bR0
  have b'B:b' g.B=_:=hsb _ _ bB0
  refine aE ?_
  simp
  refine aE ?_
  simp
  refine⟨fun him=> ?_,fun him=> ?_⟩
  ·refine aN (aT ?_)
   have Cd:(r:Int)<i:=by omega
   obtain⟨gi,hgi⟩: ∃gi,g.ids[r]? =some gi:=⟨_,List.getElem?_eq_getElem (show r<g.ids.length by omega)⟩
   have hgj: ∀h,g.ids[r]'h=gi:=fun h=>by rw[List.getElem?_eq_getElem h] at hgi;exact Option.some.inj hgi
   have mP:=aUP r gi hgi
   have xS:0≤gi:=hSb.pos gi (List.mem_of_getElem? hgi)
   have b'i:b' gi=_:=hsb _ _ mP
   refine aE ?_
   simp[b'R,him,Cd,hil,hgj]
   refine aN ?_
   refine cQ aM (by kernel_rfl) ?_
   simp[b'T,b'B,Pg.v,h.bD,him,Cd,dM him]
   obtain⟨L,hL⟩: ∃L,Lp.bK j U r=L:=⟨_,rfl⟩
   have hls:=vO j r U
   rw[hL] at hS hls
   refine aC ?_
   simp
   refine⟨fun N8=> ?_,fun Wr=> ?_⟩
   ·have aBR:U.bs r<j:=by omega
    rw[if_pos aBR] at hls
    have aX4: ∀x,x∈SG.all ⟨gT',gR',gB',gC',ids⟩→ ∃y,b' x=some y:=fun x hx=>by
     simp only[SG.all,List.mem_cons] at hx
     rcases hx with rfl | rfl | rfl | rfl | hx
     ·exact⟨_,hS.hd⟩
     ·exact⟨_,hS.top⟩
     ·exact⟨_,hS.ba⟩
     ·exact⟨_,hS.cst⟩
     ·obtain⟨q,hq⟩:=List.mem_iff_getElem?.1 hx
      exact⟨_,hS.row q x hq⟩
    intro g5 hg5 hb5
    have n5i:g5≠gi:=fun e=>by rw[e,b'i] at hb5;cases hb5
    have hjN: ¬ (N:Int)+1<j:=by omega
    have aGX:j≤N+1:=by omega
    have aSC:(j:Int)≤(N:Int)+1:=by omega
    have tkw:(rqs (N+1) fun c=>U.X r (if c<N then c else N)).take j=rqs j fun c=>U.X r c:=Qb aGX fun c hc=>by rw[if_pos (by omega)]
    simp[Pg.v,h.bD,sliV,appV,elsV,n5i,Ne.symm n5i,b'i,Int.not_lt.2 hg5,hjN,aGX,aSC,tkw,xS,Int.not_lt.2 xS]
    refine⟨by omega,fun gw hgw hbw=> ?_⟩
    have bw:b' gw=none:=by
     by_cases e:gw=g5
     ·rw[e];exact hb5
     ·exact(hbw e).2
    obtain⟨l,hl⟩: ∃l,L.length=l:=⟨_,rfl⟩
    rw[hl] at hS
    obtain⟨bx,hbx⟩: ∃bx,bx=upd b' gw (some ⟨3,rqs j fun c=>U.X r c⟩):=⟨_,rfl⟩
    refine cX [(1,.loc g.T 4 0 0),(2,.ptr p.v),(7,.loc gT' 4 0 0),(95,.lsl g.R 1 0 i),(96,.int .i64 i),(97,.int .i64 r),(9,.int .i64 r),(10,.lsl gi 3 0 (N+1)),(11,.lsl gw 3 0 j)] 179 bx ⟨rfl,by simp[Pg.v,h.bD],?_⟩ ?_
    ·rw[hbx]
     intro z y hz
     simp only[aA,aF] at hz ⊢
     grind
    clear hbw hgj hgi
    have Ah: ∀x y,b' x=some y→x≠gw:=fun x y hx e=>by rw[e,bw] at hx;cases hx
    have old: ∀x y,b x=some y→x≠gT'∧x≠gR'∧x≠gB'∧x≠gC':=fun x y hx=>
     ⟨fun e=>(by rw[e,hal gT' (by simp[SG.all])] at hx;cases hx),fun e=>(by rw[e,hal gR' (by simp[SG.all])] at hx;cases hx),fun e=>(by rw[e,hal gB' (by simp[SG.all])] at hx;cases hx),fun e=>(by rw[e,hal gC' (by simp[SG.all])] at hx;cases hx)⟩
    obtain⟨oTT,oTR,oTB,oTC⟩:=old _ _ bT0
    obtain⟨oBT,oBR,oBB,oBC⟩:=old _ _ bB0
    obtain⟨iT,iR,iB,iC⟩:=old _ _ mP
    have nd:=hS.nd
    simp only[SG.all,List.nodup_cons,List.mem_cons,not_or] at nd
    obtain⟨⟨nTR,nTB,nTC,nTi⟩,⟨nRB,nRC,nRi⟩,⟨nBC,nBi⟩,nCi,nds⟩:=nd
    have Im:=hS.len
    have zB:b' gT'=_:=hS.hd
    have Q3:b' gR'=_:=hS.top
    have F4:b' gB'=_:=hS.ba
    simp only at Im zB Q3 F4
    have wT:=Ah _ _ zB
    have wR:=Ah _ _ Q3
    have wB:=Ah _ _ F4
    have wC:=Ah _ _ hS.cst
    simp only at wC
    have wT0:=Ah _ _ b'T
    have wi:=Ah _ _ b'i
    have wB0:=Ah _ _ b'B
    have wI:gw∉ids:=fun e=>by
     obtain⟨q,hq⟩:=List.mem_iff_getElem?.1 e
     exact Ah _ _ (hS.row q gw hq) rfl
    have xx: ∀x,x≠gw→bx x=b' x:=fun x hx=>by rw[hbx,aG _ _ _ _ hx]
    have xT:bx g.T=_:=(xx _ wT0).trans b'T
    have xi:bx gi=_:=(xx _ wi).trans b'i
    have xB:bx g.B=_:=(xx _ wB0).trans b'B
    have xT':bx gT'=_:=(xx _ wT).trans zB
    have xR':bx gR'=_:=(xx _ wR).trans Q3
    have xB':bx gB'=_:=(xx _ wB).trans F4
    have xw:bx gw=some ⟨3,rqs j fun c=>U.X r c⟩:=by rw[hbx];simp
    clear hbx
    have aH6: ∀x,bx x=none→x≠gT'∧x≠gR'∧x≠gB'∧x≠gC'∧x≠gw∧x∉ids∧x≠g.T∧x≠g.B∧x≠gi∧b' x=none:=fun x hx=>by
     have q0:x≠gw:=fun e=>by rw[e,xw] at hx;cases hx
     have q1:b' x=none:=by rw[←xx x q0];exact hx
     have nx: ∀y,b' y≠none→x≠y:=fun y hy e=>hy (e▸q1)
     refine⟨nx _ (by rw[zB];simp),nx _ (by rw[Q3];simp),nx _ (by rw[F4];simp),nx _ (by rw[show b' gC'=_ from hS.cst];simp),q0,fun e=> ?_,nx _ (by rw[b'T];simp),nx _ (by rw[b'B];simp),nx _ (by rw[b'i];simp),q1⟩
     obtain⟨q,hq⟩:=List.mem_iff_getElem?.1 e
     rw[hS.row q x hq] at q1;cases q1
    refine dD aM (rem (rem bx gw) gR') (fun x y hx=>cW bx gw x y (cW _ gR' x y hx)) [0,1,2,3,4,5,6,7,8,9,10,11,12] 7 19 (by kernel_rfl) ?_
    have l3: ∀q:Rat,(rq q).c.length=3:=fun _=>rfl
    have t3: ∀q:Rat,(rq q).c.take 3=(rq q).c:=fun _=>rfl
    have hN1:(N:Int)<(N:Int)+1:=by omega
    simp[nTR,wT,oTR,wT0,iR,wi,xT,xT',xi,l3,t3,hN1]
    refine Dq 13 false ?_
    simp[RT.c]
    intro g4 hg4 hb4
    obtain⟨n4T,n4R,n4B,n4C,n4w,n4i,aW7,aX6,aWQ,n4b⟩:=aH6 g4 hb4
    refine⟨(by intro z y hz;simp only[aA,aF] at hz ⊢;grind),Dq 14 false ?_⟩
    have tkC:(rqs j fun c=>U.X r c).take j=rqs j fun c=>U.X r c:=List.take_of_length_le (by simp)
    simp[n4w,Ne.symm n4w,appV,elsV,Int.not_lt.2 hg4,xw,tkC]
    have hsn:(rqs j fun c=>U.X r c)++ [[V.bool (rq (U.X r N)).neg,.sl (iv (rq (U.X r N)).m),.sl (iv (rq (U.X r N)).d)]]=rqs j1 fun c=>U.X r (ph c):=by
     rw[←hj1,kF,bU (f:=fun c=>U.X r (ph c)) (g:=fun c=>U.X r c) fun c hc=>by rw[hpl c hc],hpn,hN];rfl
    rw[hsn,hj1]
    refine⟨by omega,fun gN hgN hbN=> ?_⟩
    have nN:gN≠gT'∧gN≠gR'∧gN≠gB'∧gN≠gC'∧gN∉ids∧gN≠g4∧b' gN=none:=by
     by_cases e:gN=gw
     ·subst e
      exact⟨Ne.symm wT,Ne.symm wR,Ne.symm wB,Ne.symm wC,wI,Ne.symm n4w,bw⟩
     ·obtain⟨q1,q2⟩:=hbN e
      obtain⟨m1,m2,m3,m4,_,m6,_,_,_,m9⟩:=aH6 gN q2
      exact⟨m1,m2,m3,m4,m6,q1,m9⟩
    obtain⟨nNT,nNR,nNB,nNC,nNi,nN4,nNb⟩:=nN
    obtain⟨y,hy⟩: ∃y,y=upd (rem (upd bx g4 (some { sz:=3,els:= [[V.bool (rq (U.X r N)).neg,V.sl (iv (rq (U.X r N)).m),V.sl (iv (rq (U.X r N)).d)]] })) gw) gN (some { sz:=3,els:=rqs j1 fun c=>U.X r (ph c) }):=⟨_,rfl⟩
    have yN:y gN=some ⟨3,rqs j1 fun c=>U.X r (ph c)⟩:=by rw[hy];simp
    have yx: ∀x,b' x≠none→x≠gN→y x=b' x:=fun x hx hn=>by
     have q1:x≠gw:=fun e=>hx (e▸bw)
     have q2:x≠g4:=fun e=>hx (e▸n4b)
     rw[hy,aG _ _ _ _ hn,aF,if_neg q1,aG _ _ _ _ q2,xx x q1]
    have yT':y gT'=_:=(yx _ (by rw[zB];simp) (Ne.symm nNT)).trans zB
    have yR':y gR'=_:=(yx _ (by rw[Q3];simp) (Ne.symm nNR)).trans Q3
    have yB':y gB'=_:=(yx _ (by rw[F4];simp) (Ne.symm nNB)).trans F4
    have Qj:Sub (rem (rem bx gw) gR') y:=by
     intro z v hz
     rw[hy]
     simp only[aA,aF] at hz ⊢
     by_cases e:gN=gw
     ·grind
     ·have:=hbN e
      grind
    rw[←hy]
    refine⟨Qj,Dq 15 false ?_⟩
    simp
    intro g6 hg6 hb6
    have n6:g6≠gT'∧g6≠gR'∧g6≠gB'∧g6≠gN:=⟨fun e=>(by rw[e,yT'] at hb6;cases hb6),fun e=>(by rw[e,yR'] at hb6;cases hb6),fun e=>(by rw[e,yB'] at hb6;cases hb6),fun e=>(by rw[e,yN] at hb6;cases hb6)⟩
    obtain⟨n6T,n6R,n6B,n6N⟩:=n6
    refine⟨fun z v hz=>(by rw[aG _ _ _ _ (fun e=>by rw[e] at hz;have:=Qj _ _ hz;rw[hb6] at this;cases this)];exact Qj z v hz),Dq 16 false ?_⟩
    have tk:(ids.map fun x=> [V.lsl x 3 0 j1]).take l=ids.map fun x=> [V.lsl x 3 0 j1]:=List.take_of_length_le (by simp[Im])
    simp[n6R,Ne.symm n6R,appV,elsV,Int.not_lt.2 hg6,yR',tk,Im]
    have hlr:l≤r:=by rw[←hl,←hL];exact Nat.le_trans (List.length_filter_le _ _) (by simp)
    have Kf: ∀x,y x=none→b' x=none:=fun x hx=>by
     cases hv:b' x with
     | none => rfl
     | some v =>
       by_cases e:x=gN
       ·rw[e,yN] at hx;cases hx
       ·rw[yx x (by rw[hv];simp) e,hv] at hx;cases hx
    refine⟨by omega,fun gQ hgQ hbQ=> ?_⟩
    have nQ:gQ≠gT'∧gQ≠gB'∧gQ≠gC'∧gQ≠gN∧gQ∉ids∧gQ≠g6∧(gQ=gR'∨b' gQ=none):=by
     by_cases e:gQ=gR'
     ·subst e
      exact⟨Ne.symm nTR,nRB,nRC,Ne.symm nNR,nRi,Ne.symm n6R,.inl rfl⟩
     ·obtain⟨q1,q2⟩:=hbQ e
      have q3:=Kf gQ q2
      have nx: ∀y,b' y≠none→gQ≠y:=fun y hy e=>hy (e▸q3)
      refine⟨nx _ (by rw[zB];simp),nx _ (by rw[F4];simp),nx _ (by rw[show b' gC'=_ from hS.cst];simp),fun e2=>(by rw[e2,yN] at q2;cases q2),fun e2=> ?_,q1,.inr q3⟩
      obtain⟨q,hq⟩:=List.mem_iff_getElem?.1 e2
      rw[hS.row q gQ hq] at q3;cases q3
    obtain⟨nQT,nQB,nQC,nQN,nQi,nQ6,nQb⟩:=nQ
    have Gx: ∀X Y,Sub (rem (rem bx gw) gR') (upd (rem (upd y g6 X) gR') gQ Y):=fun X Y z v hz=>by
     have h1:z≠gR':=fun e=>by rw[e,aF,if_pos rfl] at hz;cases hz
     have h2:=Qj z v hz
     have h3:z≠g6:=fun e=>by rw[e,hb6] at h2;cases h2
     have h4:z≠gQ:=fun e=>by
      rw[e] at h1 h2
      rw[(hbQ h1).2] at h2;cases h2
     rw[aG _ _ _ _ h4,aF,if_neg h1,aG _ _ _ _ h3];exact h2
    have Xz: ∀X Y Z,Sub (upd (upd (rem y gR') gQ Y) gT' Z) (upd (upd (rem (upd y g6 X) gR') gQ Y) gT' Z):=fun X Y Z z v hz=>by
     simp only[aA,aF] at hz ⊢
     grind
    refine⟨Gx _ _,Dq 17 false ?_⟩
    simp
    refine⟨Gx _ _,Dq 18 false ?_⟩
    simp
    refine⟨Gx _ _,Dq 19 true ?_⟩
    simp[Ne.symm nQT,nQT,Ne.symm n6T,nTR,yT']
    refine Dd ?_
    simp
    obtain⟨b3,hb3⟩: ∃b3,b3=upd (upd (rem y gR') gQ (some ⟨1,(ids++ [gN]).map fun x=> [.lsl x 3 0 j1]⟩)) gT' (some ⟨4,[[.int .i64 j,.lsl gQ 1 0 (l+1),.lsl gB' 1 0 l,.lsl gC' 3 0 j1]]⟩):=⟨_,rfl⟩
    refine cX [(1,.loc g.T 4 0 0),(2,.ptr p.v),(7,.loc gT' 4 0 0),(95,.lsl g.R 1 0 i),(96,.int .i64 i),(97,.int .i64 r),(9,.int .i64 r)] 179 b3 ⟨rfl,by simp[Pg.v,h.bD],by rw[hb3,List.map_append];exact Xz _ _ _⟩ ?_
    have b3Q:b3 gQ=some ⟨1,(ids++ [gN]).map fun x=> [.lsl x 3 0 j1]⟩:=by rw[hb3];simp[nQT]
    have b3T:b3 gT'=some ⟨4,[[.int .i64 j,.lsl gQ 1 0 (l+1),.lsl gB' 1 0 l,.lsl gC' 3 0 j1]]⟩:=by rw[hb3];simp
    have b3x: ∀x,x≠gT'→x≠gQ→x≠gR'→b3 x=y x:=fun x x1 x2 x3=>by rw[hb3,aG _ _ _ _ x1,aG _ _ _ _ x2,aF,if_neg x3]
    clear hb3 Xz Gx hbQ hsn tkC tk hbN hy Qj
    have nQo: ∀x v,b x=some v→x≠gQ:=fun x v hx e=>by
     rcases nQb with e2 | e2
     ·exact(old x v hx).2.1 (e.trans e2)
     ·have:=hsb x v hx;rw[e,e2] at this;cases this
    have nNo: ∀x v,b x=some v→x≠gN:=fun x v hx e=>by
     have:=hsb x v hx;rw[e,nNb] at this;cases this
    have b3o: ∀x v,b x=some v→b3 x=some v:=fun x v hx=>by
     rw[b3x x (old x v hx).1 (nQo x v hx) (old x v hx).2.1,yx x (by rw[hsb x v hx];simp) (nNo x v hx)];exact hsb x v hx
    have aS9:b3 g.T=_:=b3o _ _ bT0
    have aUW:b3 g.B=_:=b3o _ _ bB0
    have b3B:b3 gB'=_:=(b3x gB' (Ne.symm nTB) (Ne.symm nQB) (Ne.symm nRB)).trans yB'
    refine dD aM (rem b3 gB') (cW b3 gB') [0,1,2,3,4,5,6,7,8,9,10,11] 5 16 (by kernel_rfl) ?_
    simp[nTB,b3T,oTB,oBB,aS9,aUW,him,Cd,dM him]
    refine Dq 12 false ?_
    simp
    intro g5 hg5 hb5
    have n5:g5≠gT'∧g5≠gQ∧g5≠gB':=⟨fun e=>(by rw[e,b3T] at hb5;cases hb5),fun e=>(by rw[e,b3Q] at hb5;cases hb5),fun e=>(by rw[e,b3B] at hb5;cases hb5)⟩
    obtain⟨n5T,n5Q,n5B⟩:=n5
    have Au: ∀X,Sub (rem b3 gB') (upd b3 g5 X):=fun X z y hz=>by
     rw[aF] at hz
     rw[aA]
     grind
    refine⟨Au _,Dq 13 false ?_⟩
    have tkB:(iv (lb l fun z=>U.bs (atR L z))).take l=iv (lb l fun z=>U.bs (atR L z)):=List.take_of_length_le (by simp)
    simp[n5B,Ne.symm n5B,appV,elsV,Int.not_lt.2 hg5,b3B,tkB]
    have hlb:iv (lb l fun z=>U.bs (atR L z))++ [[.int .i64 (U.bs r)]]=iv (lb (l+1) fun z=>U.bs (atR (L++ [r]) z)):=by
     rw[P5,aV,wK r hl,Ql (f:=fun z=>U.bs (atR (L++ [r]) z)) (g:=fun z=>U.bs (atR L z)) fun z hz=>by rw[qJ r (by rw[hl];exact hz)]];rfl
    rw[hlb]
    refine⟨by omega,fun gM hgM hbM=> ?_⟩
    have nM:gM≠gT'∧gM≠gQ∧gM≠gC'∧gM≠gN∧gM∉ids∧gM≠g5∧(gM=gB'∨gM=gR'∨b' gM=none):=by
     by_cases e:gM=gB'
     ·subst e
      exact⟨Ne.symm nTB,Ne.symm nQB,nBC,Ne.symm nNB,nBi,Ne.symm n5B,.inl rfl⟩
     ·obtain⟨q1,q2⟩:=hbM e
      have q3:gM≠gT':=fun e2=>by rw[e2,b3T] at q2;cases q2
      have q4:gM≠gQ:=fun e2=>by rw[e2,b3Q] at q2;cases q2
      by_cases e3:gM=gR'
      ·subst e3
       exact⟨q3,q4,nRC,Ne.symm nNR,nRi,q1,.inr (.inl rfl)⟩
      ·rw[b3x gM q3 q4 e3] at q2
       have q5:=Kf gM q2
       have nx: ∀y,b' y≠none→gM≠y:=fun y hy e=>hy (e▸q5)
       refine⟨q3,q4,nx _ (by rw[show b' gC'=_ from hS.cst];simp),fun e2=>(by rw[e2,yN] at q2;cases q2),fun e2=> ?_,q1,.inr (.inr q5)⟩
       obtain⟨q,hq⟩:=List.mem_iff_getElem?.1 e2
       rw[hS.row q gM hq] at q5;cases q5
    obtain⟨nMT,nMQ,nMC,nMN,nMi,nM5,nMb⟩:=nM
    have lG: ∀X Y,Sub (rem b3 gB') (upd (rem (upd b3 g5 X) gB') gM Y):=fun X Y z y hz=>by
     rw[aF] at hz
     rw[aA,aF,aA]
     grind
    have kJ: ∀X Y Z,Sub (upd (upd (rem b3 gB') gM Y) gT' Z) (upd (upd (rem (upd b3 g5 X) gB') gM Y) gT' Z):=fun X Y Z z y hz=>by
     simp only[aA,aF] at hz ⊢
     grind
    refine⟨lG _ _,Dq 14 false ?_⟩
    simp
    refine⟨lG _ _,Dq 15 false ?_⟩
    simp
    refine⟨lG _ _,Dq 16 true ?_⟩
    simp[Ne.symm nMT,nTB,n5T,Ne.symm n5T,b3T]
    refine Dd ?_
    simp
    refine aC ?_
    simp[wr,aB]
    obtain⟨b4,iG⟩: ∃b4,b4=upd (upd (rem b3 gB') gM (some ⟨1,iv (lb (l+1) fun z=>U.bs (atR (L++ [r]) z))⟩)) gT' (some ⟨4,[[.int .i64 j,.lsl gQ 1 0 (l+1),.lsl gM 1 0 (l+1),.lsl gC' 3 0 j1]]⟩):=⟨_,rfl⟩
    have b4T:b4 gT'=some ⟨4,[[.int .i64 j,.lsl gQ 1 0 (l+1),.lsl gM 1 0 (l+1),.lsl gC' 3 0 j1]]⟩:=by rw[iG];simp
    have b4M:b4 gM=some ⟨1,iv (lb (l+1) fun z=>U.bs (atR (L++ [r]) z))⟩:=by rw[iG];simp[nMT]
    have b4x: ∀x,x≠gT'→x≠gM→x≠gB'→b4 x=b3 x:=fun x x1 x2 x3=>by rw[iG,aG _ _ _ _ x1,aG _ _ _ _ x2,aF,if_neg x3]
    have b4o: ∀x,x≠gT'→x≠gM→x≠gB'→x≠gQ→x≠gR'→b4 x=y x:=fun x x1 x2 x3 x4 x5=>by rw[b4x x x1 x2 x3,b3x x x1 x4 x5]
    have fr: ∀x,b' x=none→b x=none:=fun x hx=>by
     cases hv:b x with
     | none => rfl
     | some v => have := hsb x v hv; rw [hx] at this; cases this
    have blT:b gT'=none:=hal gT' (by simp[SG.all])
    have blR:b gR'=none:=hal gR' (by simp[SG.all])
    have blB:b gB'=none:=hal gB' (by simp[SG.all])
    have blC:b gC'=none:=hal gC' (by simp[SG.all])
    have blN:b gN=none:=fr gN nNb
    have blQ:b gQ=none:=by
     rcases nQb with e | e
     ·rw[e];exact blR
     ·exact fr gQ e
    have blM:b gM=none:=by
     rcases nMb with e | e | e
     ·rw[e];exact blB
     ·rw[e];exact blR
     ·exact fr gM e
    have hyi: ∀x,x∈ids→y x=b' x:=fun x hx=>by
     obtain⟨q,hq⟩:=List.mem_iff_getElem?.1 hx
     exact yx x (by rw[hS.row q x hq];simp) (fun e=>nNi (e▸hx))
    have hS':SS b' ⟨gT',gR',gB',gC',ids⟩ ⟨l,j1,j,fun z c=>U.X (atR (L++ [r]) z) (ph c),fun c=>w (ph c),fun z=>U.bs (atR (L++ [r]) z)⟩:=
     hS.congr (fun z c hz _=>by rw[qJ r (by rw[hl];exact hz)]) (fun _ _=>rfl) (fun z hz=>by rw[qJ r (by rw[hl];exact hz)])
    have Oh:=hS'.snoc (b':=b4) gQ gM gN (by rw[b4x gQ nQT (Ne.symm nMQ) nQB,b3Q]) b4M b4T
     (by simp only;rw[b4o gC' (Ne.symm nTC) (Ne.symm nMC) (Ne.symm nBC) (Ne.symm nQC) (Ne.symm nRC),yx gC' (by rw[show b' gC'=_ from hS.cst];simp) (Ne.symm nNC)])
     (fun x hx=>by simp only at hx;rw[b4o x (fun e=>nTi (e▸hx)) (fun e=>nMi (e▸hx)) (fun e=>nBi (e▸hx)) (fun e=>nQi (e▸hx)) (fun e=>nRi (e▸hx)),hyi x hx])
     (by rw[b4o gN nNT (Ne.symm nMN) nNB (Ne.symm nQN) nNR,yN];show _=some (Blk.mk 3 (rqs j1 fun c=>U.X (atR (L++ [r]) l) (ph c)));rw[wK r hl]) hgN hgQ hgM (by
       simp only[SG.all,List.nodup_cons,List.mem_cons,not_or,List.mem_append,List.mem_singleton,List.nodup_append,List.not_mem_nil,or_false]
       refine⟨⟨Ne.symm nQT,Ne.symm nMT,nTC,nTi,Ne.symm nNT⟩,⟨Ne.symm nMQ,nQC,nQi,nQN⟩,⟨nMC,nMi,nMN⟩,⟨nCi,Ne.symm nNC⟩,nds,by simp,fun a ha c hc=> ?_⟩
       rw[hc];exact fun e=>nNi (e▸ha))
    have hLl:(L++ [r]).length=l+1:=by simp[hl]
    refine⟨⟨r+1,⟨gT',gQ,gM,gC',ids++ [gN]⟩,b4⟩,⟨by simp only;omega,by rw[hls,hLl];exact Oh,rfl,fun x hx=> ?_,fun x v hx=> ?_⟩,by simp only;omega,rfl,by simp[Pg.v,h.bD],by rw[iG];exact kJ _ _ _⟩
    ·simp only[SG.all,List.mem_cons,List.mem_append,List.not_mem_nil,or_false] at hx
     rcases hx with rfl | rfl | rfl | rfl | hx | rfl
     ·exact blT
     ·exact blQ
     ·exact blM
     ·exact blC
     ·exact hal x (by simp[SG.all,hx])
     ·exact blN
    ·have nx: ∀z,b z=none→x≠z:=fun z hz e=>by rw[e,hz] at hx;cases hx
     simp only
     rw[b4o x (nx _ blT) (nx _ blM) (nx _ blB) (nx _ blQ) (nx _ blR),yx x (by rw[hsb x v hx];simp) (nx _ blN)]
     exact hsb x v hx
   ·rw[if_neg (by omega)] at hls
    refine aC ?_
    simp[wr,aB]
    exact⟨⟨r+1,⟨gT',gR',gB',gC',ids⟩,b'⟩,⟨by show r+1≤i;omega,by rw[hls];exact hS,rfl,hal,hsb⟩,by simp only;omega,rfl,by simp[Pg.v,h.bD],Sub.refl _⟩
  have aUG:r=i:=by omega
  subst aUG
  rw[lU] at hS
  rw[lU] at mG
  clear wr him
  obtain⟨l,hl⟩: ∃l,rows.length=l:=⟨_,rfl⟩
  rw[hl] at hS
  have Im:=hS.len
  have zB:b' gT'=_:=hS.hd
  have Q3:b' gR'=_:=hS.top
  have F4:b' gB'=_:=hS.ba
  have aG9:b' gC'=_:=hS.cst
  simp only at Im zB Q3 F4 aG9
  have hlr:l≤r:=by rw[←hl];exact mG.len
  have nd:=hS.nd
  simp only[SG.all,List.nodup_cons,List.mem_cons,not_or] at nd
  obtain⟨⟨nTR,nTB,nTC,nTi⟩,⟨nRB,nRC,nRi⟩,⟨nBC,nBi⟩,nCi,nds⟩:=nd
  have hwW: ∀c,c<j+r+1→Lp.isInt (w c)∧ -((1000:Nat):Rat)≤w c∧w c≤((1000:Nat):Rat):=fun c _=>by
   have:=hpc c
   rw[hwi]
   refine⟨⟨_,rfl⟩,?_,?_⟩
   ·rw[show -((1000:Nat):Rat)=((-1000:Int):Rat) by decide+kernel];exact Rat.intCast_le_intCast.2 (by omega)
   ·rw[show((1000:Nat):Rat)=((1000:Int):Rat) by decide+kernel];exact Rat.intCast_le_intCast.2 (by omega)
  have Uc: ∀q,q<l→atR rows q<r:=fun q hq=>mG.lt (cM (by rw[hl];exact hq))
  have aNM: ∀c,ph c<j+r+1:=fun c=>by rw[hph];simp only;split<;>omega
  have htp: ∀q c,q≤l→nU (Lp.part w U (atR rows) q (ph c)):=fun q c hq=>Lp.fJ (hKi.z.part hwW (aNM c) (by decide) (by omega) fun z hz=>Uc z (by omega)) (tE hml)
  have htX: ∀q c,q<l→nU (U.X (atR rows q) (ph c)):=fun q c hq=>Lp.fJ (hKi.z.sm (Uc q hq) (aNM c)) (uM hml)
  refine aN ?_
  refine aC ?_
  simp[zB]
  refine aJ (fun q:Nat=> [(7,.loc gT' 4 0 0),(157,.lsl gR' 1 0 l),(158,.int .i64 l),(159,.int .i64 q)]) (fun q=>upd b' gC' (some ⟨3,rqs j1 fun c=>Lp.part w U (atR rows) q (ph c)⟩)) (fun q=>q≤l) (fun q=>l - q) _ 0 (Nat.zero_le _) ⟨rfl,by simp,sub_eq (by
   funext x;simp only[aA];split
   ·rename_i e
    rw[e,aG9,bU (g:=fun c=>Lp.part w U (atR rows) 0 (ph c)) fun c _=>by unfold Lp.part;rw[Lp.S];grind]
   ·rfl)⟩ ?_
  intro q hq
  have wq:IntKind.i64.wrap ((q:Int)+1)=(q:Int)+1:=i64_in (by omega) (by omega)
  refine aE ?_
  simp
  refine aE ?_
  simp
  refine⟨fun hql=> ?_,fun hql=> ?_⟩
  ·have F8:(q:Int)<l:=by omega
   obtain⟨gi,hgi⟩: ∃gi,ids[q]? =some gi:=⟨_,List.getElem?_eq_getElem (show q<ids.length by omega)⟩
   have hgj: ∀h,ids[q]'h=gi:=fun h=>by rw[List.getElem?_eq_getElem h] at hgi;exact Option.some.inj hgi
   have hgm:=List.mem_of_getElem? hgi
   have xS:0≤gi:=hS.pos gi hgm
   have b'i:b' gi=_:=hS.row q gi hgi
   simp only at b'i
   have iC:gi≠gC':=fun e=>nCi (e▸hgm)
   obtain⟨bc,hbc⟩: ∃bc,bc=upd b' gC' (some ⟨3,rqs j1 fun c=>Lp.part w U (atR rows) q (ph c)⟩):=⟨_,rfl⟩
   have bcC:bc gC'=some ⟨3,rqs j1 fun c=>Lp.part w U (atR rows) q (ph c)⟩:=by rw[hbc];simp
   have bcx: ∀x,x≠gC'→bc x=b' x:=fun x hx=>by rw[hbc,aG _ _ _ _ hx]
   have bcT:=(bcx gT' nTC).trans zB
   have bcR:=(bcx gR' nRC).trans Q3
   have bcB:=(bcx gB' nBC).trans F4
   have bci:=(bcx gi iC).trans b'i
   rw[←hbc]
   refine aN (aT ?_)
   refine aE ?_
   simp[bcR,hql,F8,Im,hgj]
   have hqm:=cM (rows:=rows) (show q<rows.length by rw[hl];exact hql)
   obtain⟨ri,hri⟩: ∃ri,atR rows q=ri:=⟨_,rfl⟩
   have hbl:U.bs ri<j:=by
    rw[hri,←lU] at hqm
    exact(Lp.lP.1 hqm).2
   have aUK:ri<r:=by rw[←hri];exact Uc q hql
   have hkf:Lp.part w U (atR rows) q (ph (U.bs ri))=w (U.bs ri):=by
    rw[hpl _ hbl,←hri]
    exact Lp.Cp hKi.z.ti (by rw[hri];exact aUK) (fun z hz=>Uc z (by omega)) fun z hz e=>by
     have:=mG.inj (by omega) (by omega) e
     omega
   have Z9: ∀c,Lp.part w U (atR rows) q (ph c) - Lp.part w U (atR rows) q (ph (U.bs ri))*U.X (atR rows q) (ph c)=Lp.part w U (atR rows) (q+1) (ph c):=fun c=>by
    rw[hkf,Lp.Ke,hri]
   have hbi:(U.bs ri:Int)<j:=by omega
   refine aW aM (rem bc gC') (cW bc gC') [0,1,2,3,4,5,6,7,8,9,10,11] 1 (by kernel_rfl) ?_
   simp[nTC,nBC,bcT,bcB,hql,F8,hri]
   refine Dz 12 ?_
   simp
   refine qG gC' gi j1 (U.bs ri) (fun c=>Lp.part w U (atR rows) q (ph c)) (fun c=>U.X (atR rows q) (ph c)) (by omega) (by omega) bcC bci (Ne.symm iC) hS.pC xS (fun c _=>cJ (htp q c hq)) (fun c _=>cJ (htX q c hql)) (fun c _=>yL (htp q _ hq) (htX q c hql)) (fun c _=>by simp only[Z9];exact cJ (htp (q+1) c hql)) fun b2' hx hb'=> ?_
   simp
   refine⟨fun z y hz=> ?_,Dy ?_⟩
   ·rw[aF] at hz
    split at hz
    ·cases hz
    ·exact hx z y hz (by assumption)
   simp
   refine aC ?_
   simp[wq,aB]
   refine⟨q+1,by omega,by omega,rfl,by simp,fun z y hz=> ?_⟩
   show b2' z=some y
   by_cases e:z=gC'
   ·rw[e,aY] at hz
    rw[e,hb',←hz,bU fun c _=>Z9 c]
   ·rw[aG _ _ _ _ e] at hz
    exact hx z y (by rw[bcx z e];exact hz) e
  ·have hqe:q=l:=by omega
   subst hqe
   refine aC ?_
   simp
   rw[bH]
   have hS9:=hS.Zp fun c=>Lp.part w U (atR rows) q (ph c)
   refine⟨[.loc gT' 4 0 0],by simp,hK _ ⟨gT',gR',gB',gC',ids⟩ ?_ (fun x hx=>frB x (hal x hx)) fun x y hx hng=> ?_⟩
   ·unfold snV
    simp only[hl]
    subst hj1
    have hz0: ∀c,c<r→c∉rows→w (U.bs c)=0:=fun c hc hn=>by
     rw[←lU] at hn
     have hge: ¬ U.bs c<j:=fun e=>hn (Lp.lP.2 ⟨hc,e⟩)
     rw[hwi,show pC p (U.bs c)=0 by unfold pC;rw[List.getD_eq_getElem?_getD,List.getElem?_eq_none (by have:=h.cl;omega)];rfl];rfl
    refine hS9.congr (fun z c _ _=>by rw[hph]) (fun c _=> ?_) fun z _=>rfl
    rw[hph]
    unfold Lp.part Lp.rc
    simp only
    have:=mG.sum (fun z=>U.X z (if c<j then c else j+r)*w (U.bs z)) fun z hz hn=>by rw[hz0 z hz hn];grind
    rw[hl] at this
    rw[this]
   ·have h1:=hfb x y hx hng
    have h2:=hsb x y h1
    show upd b' gC' _ x=some y
    rw[aG _ _ _ _ (fun e=>by have:=hal gC' (by simp[SG.all]);rw[←e,h1] at this;cases this)]
    exact h2

noncomputable def Pk (n : Nat) (C : Nat → Rat) : Option (Option (Nat → Rat)) → V
 | none => .agg [.int .i64 2, .sl [], .bool false, .sl [], .sl []]
 | some none => .agg [.int .i64 3, .sl [], .bool false, .sl [], .sl []]
 | some (some x) => .agg (.int .i64 0 :: .sl (rqs n x) :: (rq (Lp.dot n C x)).c)
theorem Nh {p:Pg} {n m:Nat} (h:PgN p n m) (c:Nat):Lp.isInt (wO (pC p) c)∧ -((1000:Nat):Rat)≤wO (pC p) c∧wO (pC p) c≤((1000:Nat):Rat):=by
 have:(pC p c).natAbs≤1000:=iM h.cm c
 refine⟨⟨_,rfl⟩,?_,?_⟩
 ·rw[show -((1000:Nat):Rat)=((-1000:Int):Rat) by decide+kernel];exact Rat.intCast_le_intCast.2 (by omega)
 ·rw[show((1000:Nat):Rat)=((1000:Int):Rat) by decide+kernel];exact Rat.intCast_le_intCast.2 (by omega)
theorem We {p:Pg} {n m:Nat} (h:PgN p n m) {c:Nat} (hc:n≤c):wO (pC p) c=0:=by
 show((pC p c:Int):Rat)=0
 rw[show pC p c=0 by unfold pC;rw[List.getD_eq_getElem?_getD,List.getElem?_eq_none (by have:=h.cl;omega)];rfl];rfl
theorem aB8 {n m b:Nat} {t:Lp.Tab} {w:Nat→Rat} (hz: ∀i,i<m→ ¬ t.bs i<n→t.X i b=0) (hw:w b=0): -Lp.rc m w t b=Lp.dot n w (Lp.xb m b t):=by
 have:Lp.dot n w (Lp.xb m b t)=Lp.S m fun i=>t.X i b*w (t.bs i):=by
  unfold Lp.dot Lp.xb
  exact Lp.yJ t.bs (fun j=>t.X j b) w hz
 rw[this]
 unfold Lp.rc
 rw[hw];grind
theorem Ev {bl:Int→Option Blk} {K:V→(Int→Option Blk)→Prop} (p:Pg) (n m:Nat) (h:PgN p n m) (g:SG) (rows:List Nat) (U:Lp.Tab) (hr:Rows m rows) (hI:nT n m (eQ p n m) rows U) (D7: ∀i,i∈rows→U.bs i<n) (hS:SS bl g (snV rows n (n+m) m (wO (pC p)) U))
  (hT: ∀b' t,nT n m (eQ p n m) rows t→(∀i,i∈rows→t.bs i<n)→Lp.sI n m (eQ p n m) (n+m) (wO (pC p)) (Lp.xb m (n+m) t)→SS b' g (snV rows n (n+m) m (wO (pC p)) t)→(∀x y,bl x=some y→x∉g.all→b' x=some y)→K (.bool true) b')
  (hF: ∀b',Lp.Unb n m (eQ p n m) (n+m) (wO (pC p))→(∃x,Lp.jL n m (eQ p n m) (n+m) x)→(∀x y,bl x=some y→x∉g.all→b' x=some y)→K (.bool false) b'):
  bW Tryz.prog 190 [.loc g.T 4 0 0,.bool true] bl K:=by
 have hml:=h.ml
 have hnl:=h.nl
 have R:Lp.tD n m (n+m) (n+1) n (n+m+1) (Lp.wl (wO (pC p))) (fun c=>c<n) rows (Lp.okL m n (wO (pC p))):=Lp.Xh (by omega) (by omega)
 obtain⟨e,h1,h2,h3⟩:=R.ends hI
 have hlw:=R.low (fun c hc=>hc) h3 D7 e (Nat.le_refl _)
 have hIe:=h3 e (Nat.le_refl _)
 have Jf:=Lp.B7 hIe hlw h1
 have hR:Rb n m n (eQ p n m) rows true (wO (pC p)) (Lp.okL m n (wO (pC p))):=by
  refine⟨hml,hnl,by omega,hr,fun T hT i hi hn=>(hT.dead i hi hn).1,fun c _=>Nh h c,fun T hT j hj hb hok=> ?_⟩
  obtain⟨q,hq,e1⟩:=hb
  obtain⟨z,_,g2,_⟩:=hok
  have e2:=Lp.kY hT.z.ti (Lp.wl (wO (pC p)) z) (hr.lt (cM hq))
  simp only at e1
  rw[e1] at e2
  simp only at g2
  rw[e2] at g2
  exact absurd g2 (by decide)
 refine l10Run_cp hR g U e (fun T hT j hj hnb=> ?_) h1 h2 h3 hS (fun b' hf hS' hx=> ?_) (fun b' k hk hl hx=> ?_)
 ·have hV:=hR.view hT
  have hco:(snV rows n (n+m) m (wO (pC p)) T).co j=Lp.rc m (wO (pC p)) T j:=by
   show Lp.rc m (wO (pC p)) T (if j<n then j else n+m)=_
   rw[if_pos hj]
  exact⟨_,Lp.Lh,U8 hV j hj hnb hco⟩
 ·rcases Jf with ⟨_,g2⟩| ⟨⟨k,g1,_⟩,_⟩
  ·exact hT b' _ hIe hlw g2 hS' hx
  ·rw[hf] at g1;cases g1
 ·rcases Jf with ⟨g1,_⟩| ⟨_,g2⟩
  ·rw[hk] at g1;cases g1
  ·exact hF b' g2 ⟨_,Lp.uP hIe.z.ti hIe.nn (hIe.zero hlw)⟩ hx
theorem Vr {bl:Int→Option Blk} {k:Int} {v x:V} {a:Bool} {b c:List (List V)} (hc:V.cl v=false) (h:frz bl 1 v=some x):frz bl 2 (.agg [.int .i64 k,v,.bool a,.sl b,.sl c])=some (.agg [.int .i64 k,x,.bool a,.sl b,.sl c]):=by
 rw[frz,if_neg (by simp only[List.all_cons,hc];simp)]
 simp[List.mapM_cons,h,frz]
structure aNG where
 j:Nat
 gX:Int
 b:Int→Option Blk
set_option maxHeartbeats 2000000 in
theorem wS (p:Pg) (n m:Nat) (h:PgN p n m):RO Tryz.prog 123 [.agg p.v] (Pk n (wO (pC p)) (Lp.opt n m (eQ p n m) (n+m) (wO (pC p)))):=by
 have hml:=h.ml
 have hnl:=h.nl
 refine aI Tryz.func123 rfl rfl (by rw[Tryz.ntmps123];simp) fun bl=> ?_
 rw[Tryz.ntmps123,Tryz.results123]
 refine aE ?_
 simp[Pg.v]
 intro g1 hg1 hb1
 intro g2 hg2 aBS hb2
 obtain⟨b0,hb0⟩: ∃b0,b0=upd bl g2 (some ⟨5,[[.int .i64 0,.nils,.bool false,.nils,.nils]]⟩):=⟨_,rfl⟩
 refine cP 1 1 (.ptr p.v) b0 (by rw[hb0];intro z b hz;simp only[aA] at hz ⊢;grind) (by simp[frz,dropB,hb0,hb1,aBS,Ne.symm aBS,V.cl,Pg.v]) ?_
 refine cX [(1,.ptr p.v),(2,.loc g2 5 0 0)] 87 b0 ⟨rfl,by simp[Pg.v],Sub.refl _⟩ ?_
 have s0:Sub bl b0:=fun x y hx=>by rw[hb0,aG _ _ _ _ (fun e=>by rw[e,hb2] at hx;cases hx)];exact hx
 have b02:b0 g2=some ⟨5,[[.int .i64 0,.nils,.bool false,.nils,.nils]]⟩:=by rw[hb0];simp
 clear hb0 hb1 hg1 aBS
 refine aE ?_
 simp[Pg.v]
 refine W6 p n m h fun b g hS hal hsb=> ?_
 simp
 refine aE ?_
 simp
 refine Ik p n m h g hS fun b' T r h4 hS' hx=> ?_
 have hV:nU ((snV (List.range m) (n+m) (n+m) m (Lp.bE n m) T).co (n+m)):=by
  show nU (Lp.rc m (Lp.bE n m) T (if n+m<n+m then n+m else n+m))
  exact Lp.fJ (h4.inv.z.rc (fun c _=>tZ n m c) (c:=if n+m<n+m then n+m else n+m) (by split<;>omega) (by decide)) (tE hml)
 have hco:(snV (List.range m) (n+m) (n+m) m (Lp.bE n m) T).co (n+m)=Lp.rc m (Lp.bE n m) T (n+m):=by
  show Lp.rc m (Lp.bE n m) T (if n+m<n+m then n+m else n+m)=_
  rw[if_neg (by omega)]
 obtain⟨co,hcD⟩: ∃co,(snV (List.range m) (n+m) (n+m) m (Lp.bE n m) T).co=co:=⟨_,rfl⟩
 rw[hcD] at hV hco
 obtain⟨N,hN⟩: ∃N,n+m=N:=⟨_,rfl⟩
 have bT:b' g.T=some ⟨4,[[.int .i64 N,.lsl g.R 1 0 m,.lsl g.B 1 0 m,.lsl g.C 3 0 (N+1)]]⟩:=by
  have:=hS'.hd
  simp only[snV,List.length_range] at this
  rw[←hN];exact this
 have bC:b' g.C=some ⟨3,rqs (N+1) co⟩:=by
  rw[←hN,←hcD];exact hS'.cst
 rw[hN] at hV hco
 have l3: ∀q:Rat,(rq q).c.length=3:=fun _=>rfl
 have t3: ∀q:Rat,(rq q).c.take 3=(rq q).c:=fun _=>rfl
 have hN1:(N:Int)<(N:Int)+1:=by omega
 have Ar:Sub b0 b':=fun x y hx2=>hx x y (hsb x y hx2) fun hm2=>by have:=hal x hm2;rw[this] at hx2;cases hx2
 have jG:Sub bl b':=fun x y hx2=>Ar x y (s0 x y hx2)
 have b'2:=Ar _ _ b02
 simp
 refine cX [(1,.ptr p.v),(2,.loc g2 5 0 0),(3,.loc g.T 4 0 0)] 87 b' ⟨rfl,by simp[Pg.v],Sub.refl _⟩ ?_
 refine aN (aN ?_)
 refine cQ aM (by kernel_rfl) ?_
 simp[bT,bC,hN1,l3,t3]
 refine aO (gK (cJ hV)) ?_
 simp
 refine aC ?_
 simp
 refine⟨fun hne=> ?_,fun heq=> ?_⟩
 ·have hno: ¬ Lp.rc m (Lp.bE n m) T (n+m)=0:=fun e=>by
   rw[hN] at e
   rw[e] at hco
   exact hne hco
  rw[Lp.A7 (h4.no hno)]
  simp[b'2]
  exact aK [.agg [.int .i64 2,.nils,.bool false,.nils,.nils]] 1 (by simp) (by simp[frz,Pk,V.cl]) fun x y hx=>by
   show upd b' g2 _ x=some y
   rw[aG _ _ _ _ (fun e=>by rw[e,hb2] at hx;cases hx)]
   exact jG x y hx
 have hp0:Lp.rc m (Lp.bE n m) T (n+m)=0:=by rw[hN,←hco];exact heq
 refine aE ?_
 simp
 have lv:5≤p.v.length:=Nat.le_refl 5
 have tv:p.v.take 5=p.v:=rfl
 rw[tv]
 refine⟨lv,P3 p n m h g T h4 hp0 hS' fun b1 g' hS1 aJF hx1=> ?_⟩
 have hI1:=(Lp.jP (h4.kN hp0) (show n≤n+m+1 by omega) m (Nat.le_refl _)).inv
 have hr1:=vX n m (Lp.kicks n T m)
 have hw1: ∀i,i∈Lp.bK n (Lp.kicks n T m) m→(Lp.kicks n T m).bs i<n:=fun i hi=>(Lp.lP.1 hi).2
 obtain⟨U,hU⟩: ∃U,Lp.kicks n T m=U:=⟨_,rfl⟩
 rw[hU] at hI1 hr1 hw1 hS1
 obtain⟨rows,lU⟩: ∃rows,Lp.bK n U m=rows:=⟨_,rfl⟩
 rw[lU] at hI1 hr1 hw1 hS1
 have gb: ∀x,x∈g.all→b0 x=none:=hal
 have hg2:g2∉g.all:=fun hm2=>by rw[gb g2 hm2] at b02;cases b02
 have aH1:Sub b0 b1:=fun x y hx2=>hx1 x y (Ar x y hx2) fun hm2=>by rw[gb x hm2] at hx2;cases hx2
 have al1: ∀x,x∈g'.all→b0 x=none:=fun x hm2=>by
  cases hv:b0 x with
  | none => rfl
  | some y => have := aJF x hm2; rw [Ar x y hv] at this; cases this
 simp
 clear hU aJF hx1 hS' hx hS hal hsb hV hco hcD bT bC jG Ar b'2 heq h4 hp0 gb hg2
 refine aN ?_
 refine aC ?_
 simp
 refine Ev p n m h g' rows U hr1 hI1 hw1 hS1 (fun b2 t hI2 hw2 aMP hS2 hx2=> ?_) (fun b2 hU2 hF2 hx2=> ?_)
 rotate_left
 ·obtain⟨x,hx⟩:=hF2
  rw[Lp.E6 hU2 hx]
  have Kn:Sub b0 b2:=fun x y hx=>hx2 x y (aH1 x y hx) fun hm2=>by rw[al1 x hm2] at hx;cases hx
  have b22:=Kn _ _ b02
  simp[b22]
  exact aK [.agg [.int .i64 3,.nils,.bool false,.nils,.nils]] 1 (by simp) (by simp[frz,Pk,V.cl]) fun x y hx=>by
   show upd b2 g2 _ x=some y
   rw[aG _ _ _ _ (fun e=>by rw[e,hb2] at hx;cases hx)]
   exact Kn x y (s0 x y hx)
 rw[Lp.tH aMP]
 have Kn:Sub b0 b2:=fun x y hx=>hx2 x y (aH1 x y hx) fun hm2=>by rw[al1 x hm2] at hx;cases hx
 simp
 have aUS:=hI2.z.ti
 have hz2:=hI2.zero hw2
 have Fv:=aB8 (n:=n) (b:=n+m) hz2 (We h (show n≤n+m by omega))
 have hV:nU ((snV rows n (n+m) m (wO (pC p)) t).co n):=by
  show nU (Lp.rc m (wO (pC p)) t (if n<n then n else n+m))
  exact Lp.fJ (hI2.z.rc (fun c _=>Nh h c) (c:=if n<n then n else n+m) (by split<;>omega) (by decide)) (tE hml)
 have hco:(snV rows n (n+m) m (wO (pC p)) t).co n=Lp.rc m (wO (pC p)) t (n+m):=by
  show Lp.rc m (wO (pC p)) t (if n<n then n else n+m)=_
  rw[if_neg (by omega)]
 obtain⟨l,hl⟩: ∃l,rows.length=l:=⟨_,rfl⟩
 obtain⟨gT,gR,gB,gC,ids⟩:=g'
 obtain⟨Z,hZ⟩: ∃Z,(snV rows n (n+m) m (wO (pC p)) t).Z=Z:=⟨_,rfl⟩
 obtain⟨co,hcD⟩: ∃co,(snV rows n (n+m) m (wO (pC p)) t).co=co:=⟨_,rfl⟩
 rw[hcD] at hV hco
 obtain⟨n1,hn1⟩: ∃n1,n+1=n1:=⟨_,rfl⟩
 have bT:b2 gT=some ⟨4,[[.int .i64 n,.lsl gR 1 0 l,.lsl gB 1 0 l,.lsl gC 3 0 n1]]⟩:=by
  have:=hS2.hd
  simp only[snV,hl,hn1] at this
  exact this
 have bC:b2 gC=some ⟨3,rqs n1 co⟩:=by
  rw[←hn1,←hcD];exact hS2.cst
 have bB:b2 gB=some ⟨1,iv (lb l fun q=>t.bs (atR rows q))⟩:=by
  have:=hS2.ba
  simp only[snV,hl] at this
  exact this
 have bR:b2 gR=some ⟨1,ids.map fun x=> [.lsl x 3 0 n1]⟩:=by
  have:=hS2.top
  simp only[snV,hn1] at this
  exact this
 have hnn:(n:Int)<n1:=by omega
 have aL9:n<n1:=by omega
 have b22:=Kn _ _ b02
 have hn4:=qM (some (co n)) (okS (cJ hV))
 refine cX [(1,.ptr p.v),(2,.loc g2 5 0 0),(4,.loc gT 4 0 0)] 87 b2 ⟨rfl,by simp[Pg.v],Sub.refl _⟩ ?_
 refine fZ (fun g5:Int=> [(1,.ptr p.v),(2,.loc g2 5 0 0),(4,.loc gT 4 0 0),(5,.loc g5 5 0 0)]) (fun g5=>upd b2 g5 (some ⟨5,[.int .i64 0:: .nils::(rq (-co n)).c]⟩)) (fun g5=>0≤g5∧b2 g5=none) 87 ?_ ?_
 ·refine dD aM b2 (Sub.refl _) [0,1,2,3,4,5,6,7,8,9,10] 3 13 (by kernel_rfl) ?_
  simp[bT,bC,hnn,aL9,l3,t3]
  refine aO (v:= .agg (ro (some (-co n))).c) hn4 ?_
  simp[RT.c]
  refine Dw 11 12 false false ?_ ?_
  ·simp
   refine Dq 12 false ?_
   simp
   intro g5 hg5 hb5
   refine⟨fun x y hx=>(by rw[aG _ _ _ _ (fun e=>by rw[e,hb5] at hx;cases hx)];exact hx),Dq 13 true ?_⟩
   simp
   refine Dd ?_
   simp[aH]
   exact⟨g5,⟨hg5,hb5⟩,rfl,by simp,sub_eq (by simp[RT.c])⟩
  ·simp
   intro g5 hg5 hb5
   refine⟨fun x y hx=>(by rw[aG _ _ _ _ (fun e=>by rw[e,hb5] at hx;cases hx)];exact hx),Dq 11 false ?_⟩
   simp
   refine⟨fun x y hx=>(by rw[aG _ _ _ _ (fun e=>by rw[e,hb5] at hx;cases hx)];exact hx),Dq 13 true ?_⟩
   simp
   refine Dd ?_
   simp[aH]
   exact⟨g5,⟨hg5,hb5⟩,rfl,by simp,sub_eq (by simp[RT.c])⟩
 rintro g5 ⟨hg5,hb5⟩
 have hvq:(rq (-co n)).c=(rq (Lp.dot n (wO (pC p)) fun c=>if c<n then Lp.xb m (n+m) t c else 0)).c:=by
  rw[hco,Fv,Lp.wA (x:=Lp.xb m (n+m) t) (y:=fun c=>if c<n then Lp.xb m (n+m) t c else 0) fun c hc=>by rw[if_pos hc]]
 obtain⟨vq,aHX⟩: ∃vq,Lp.dot n (wO (pC p)) (fun c=>if c<n then Lp.xb m (n+m) t c else 0)=vq:=⟨_,rfl⟩
 rw[aHX] at hvq
 rw[hvq]
 simp only[RT.c]
 refine dC (g:=g5) (s:=5) (els:= [[.int .i64 0,.nils,.bool (rq vq).neg,.sl (iv (rq vq).m),.sl (iv (rq vq).d)]]) 0 1 3 (by simp) rfl rfl fun gX hgX hX5=> ?_
 simp[hX5] at hgX
 obtain⟨b3,hb3⟩: ∃b3,b3=upd (upd b2 g5 (some ⟨5,[[.int .i64 0,.lsl gX 3 0 0,.bool (rq vq).neg,.sl (iv (rq vq).m),.sl (iv (rq vq).d)]]⟩)) gX (some ⟨3,[]⟩):=⟨_,rfl⟩
 have b35:b3 g5=some ⟨5,[[.int .i64 0,.lsl gX 3 0 0,.bool (rq vq).neg,.sl (iv (rq vq).m),.sl (iv (rq vq).d)]]⟩:=by rw[hb3];simp[Ne.symm hX5]
 have b3X:b3 gX=some ⟨3,rqs 0 fun _=>0⟩:=by rw[hb3];simp[rqs]
 have s3:Sub b2 b3:=fun x y hx=>by
  have x1:x≠g5:=fun e=>by rw[e,hb5] at hx;cases hx
  have x2:x≠gX:=fun e=>by rw[e,hgX] at hx;cases hx
  rw[hb3];simp[x1,x2,hx]
 refine cX [(1,.ptr p.v),(2,.loc g2 5 0 0),(4,.loc gT 4 0 0),(5,.loc g5 5 0 0)] 87 b3 ⟨rfl,by simp,by rw[hb3];exact sub_eq (by simp)⟩ ?_
 clear hb3
 refine aN ?_
 refine aC ?_
 simp
 refine aJ (fun q:aNG=> [(1,.ptr p.v),(2,.loc g2 5 0 0),(4,.loc gT 4 0 0),(5,.loc g5 5 0 0),(6,.int .i64 q.j)]) (fun q=>q.b) (fun q=>q.j≤n∧q.b g5=some ⟨5,[[.int .i64 0,.lsl q.gX 3 0 q.j,.bool (rq vq).neg,.sl (iv (rq vq).m),.sl (iv (rq vq).d)]]⟩∧q.b q.gX=some ⟨3,rqs q.j fun _=>0⟩∧(q.gX≠g5∧b2 q.gX=none∧(0≤q.gX∨q.j=0))∧Sub b2 q.b) (fun q=>n - q.j) _ ⟨0,gX,b3⟩ ⟨Nat.zero_le _,b35,b3X,⟨hX5,hgX,.inr rfl⟩,s3⟩ ⟨rfl,by simp,Sub.refl _⟩ ?_
 clear s3 b35 b3X hgX hX5
 rintro⟨j,gX,b⟩ ⟨hj,bL5,bX,⟨nX5,Xbl,aOD⟩,hsb⟩
 simp only at hj bL5 bX nX5 Xbl aOD hsb
 have wj:IntKind.i64.wrap ((j:Int)+1)=(j:Int)+1:=i64_in (by omega) (by omega)
 refine aN ?_
 refine aC ?_
 simp[Pg.v,h.bD]
 refine⟨fun hjn=> ?_,fun hjn=> ?_⟩
 ·refine aN (aT ?_)
  have hR0:=dU 0 (by decide)
  refine dD aM (rem b gX) (cW b gX) [0,1,2] 4 6 (by kernel_rfl) ?_
  simp[Ne.symm nX5,bL5]
  refine aO hR0 ?_
  simp
  refine Dq 3 false ?_
  simp[RT.c]
  intro g4 hg4 hb4
  have n45:g4≠g5:=fun e=>by rw[e,bL5] at hb4;cases hb4
  have n4X:g4≠gX:=fun e=>by rw[e,bX] at hb4;cases hb4
  have rI: ∀X,Sub (rem b gX) (upd b g4 X):=fun X z y hz=>by
   rw[aF] at hz
   rw[aA]
   grind
  refine⟨rI _,Dq 4 false ?_⟩
  have tkC:(rqs j fun _=>(0:Rat)).take j=rqs j fun _=>0:=List.take_of_length_le (by simp)
  simp[n4X,Ne.symm n4X,appV,elsV,Int.not_lt.2 hg4,bX,tkC]
  have hsn:(rqs j fun _=>(0:Rat))++ [[V.bool (rq 0).neg,.sl (iv (rq 0).m),.sl (iv (rq 0).d)]]=rqs (j+1) fun _=>0:=by rw[kF];rfl
  rw[hsn]
  refine⟨by omega,fun gN hgN hbN=> ?_⟩
  have nN:gN≠g5∧gN≠g4:=by
   by_cases e:gN=gX
   ·subst e
    exact⟨nX5,Ne.symm n4X⟩
   ·obtain⟨q1,q2⟩:=hbN e
    exact⟨fun e=>(by rw[e,bL5] at q2;cases q2),q1⟩
  obtain⟨nN5,nN4⟩:=nN
  have blN:b2 gN=none:=by
   by_cases e:gN=gX
   ·rw[e];exact Xbl
   ·cases hv:b2 gN with
    | none => rfl
    | some y => have := hsb gN y hv; rw [(hbN e).2] at this; cases this
  have gY: ∀X Y,Sub (rem b gX) (upd (rem (upd b g4 X) gX) gN Y):=fun X Y z y hz=>by
   rw[aF] at hz
   rw[aA,aF,aA]
   grind
  have kJ: ∀X Y Z,Sub (upd (upd (rem b gX) gN Y) g5 Z) (upd (upd (rem (upd b g4 X) gX) gN Y) g5 Z):=fun X Y Z z y hz=>by
   simp only[aA,aF] at hz ⊢
   grind
  refine⟨gY _ _,Dq 5 false ?_⟩
  simp
  refine⟨gY _ _,Dq 6 true ?_⟩
  simp[Ne.symm nN5,Ne.symm nX5,n45,Ne.symm n45,bL5]
  refine Dd ?_
  simp
  refine aC ?_
  simp[wj,aB]
  obtain⟨b4,iG⟩: ∃b4,b4=upd (upd (rem b gX) gN (some ⟨3,rqs (j+1) fun _=>0⟩)) g5 (some ⟨5,[[.int .i64 0,.lsl gN 3 0 (j+1),.bool (rq vq).neg,.sl (iv (rq vq).m),.sl (iv (rq vq).d)]]⟩):=⟨_,rfl⟩
  refine⟨⟨j+1,gN,b4⟩,⟨by simp only;omega,by rw[iG];simp,by rw[iG];simp[nN5],⟨nN5,blN,.inl hgN⟩,fun x y hx=> ?_⟩,by simp only;omega,rfl,by simp[Pg.v,h.bD],by rw[iG];exact kJ _ _ _⟩
  have x1:x≠g5:=fun e=>by rw[e,hb5] at hx;cases hx
  have x2:x≠gN:=fun e=>by rw[e,blN] at hx;cases hx
  have x3:x≠gX:=fun e=>by rw[e,Xbl] at hx;cases hx
  simp only
  rw[iG];simp[x1,x2,x3];exact hsb x y hx
 have hje:j=n:=by omega
 subst hje
 simp
 have b5:b gT=_:=hsb _ _ bT
 have b5B:b gB=_:=hsb _ _ bB
 have b5R:b gR=_:=hsb _ _ bR
 have hil:ids.length=l:=by have:=hS2.len;simp only[snV,hl] at this;exact this
 have hll:l≤m:=by rw[←hl];exact hr1.len
 have oX: ∀x y,b2 x=some y→x≠gX:=fun x y hx e=>by rw[e,Xbl] at hx;cases hx
 have o5: ∀x y,b2 x=some y→x≠g5:=fun x y hx e=>by rw[e,hb5] at hx;cases hx
 have xT:=oX _ _ bT
 have xB:=oX _ _ bB
 have xR:=oX _ _ bR
 refine aN ?_
 refine aC ?_
 simp[b5]
 refine aJ (fun q:Nat=> [(2,.loc g2 5 0 0),(4,.loc gT 4 0 0),(5,.loc g5 5 0 0),(60,.lsl gB 1 0 l),(61,.int .i64 l),(62,.int .i64 q)]) (fun q=>upd b gX (some ⟨3,rqs j (xUp (j+m) rows t q)⟩)) (fun q=>q≤l) (fun q=>l - q) _ 0 (Nat.zero_le _) ⟨rfl,by simp,sub_eq (by
  funext x;simp only[aA];split
  ·rename_i e
   rw[e,bX];rfl
  ·rfl)⟩ ?_
 intro q hq
 have wq:IntKind.i64.wrap ((q:Int)+1)=(q:Int)+1:=i64_in (by omega) (by omega)
 refine aE ?_
 simp
 refine aE ?_
 simp
 refine⟨fun hql=> ?_,fun hql=> ?_⟩
 ·have F8:(q:Int)<l:=by omega
  obtain⟨gi,hgi⟩: ∃gi,ids[q]? =some gi:=⟨_,List.getElem?_eq_getElem (show q<ids.length by omega)⟩
  have hgj: ∀h,ids[q]'h=gi:=fun h=>by rw[List.getElem?_eq_getElem h] at hgi;exact Option.some.inj hgi
  have hgm:=List.mem_of_getElem? hgi
  have xS:0≤gi:=hS2.pos gi hgm
  have b2i:b2 gi=some ⟨3,rqs n1 (Z q)⟩:=by
   have:=hS2.row q gi hgi
   rw[hZ] at this
   rw[←hn1];exact this
  have xi:=oX _ _ b2i
  have bi:b gi=_:=hsb _ _ b2i
  have hqm:=cM (rows:=rows) (show q<rows.length by rw[hl];exact hql)
  have hbl:t.bs (atR rows q)<j:=hw2 _ hqm
  have hZq:Z q j=t.X (atR rows q) (j+m):=by
   rw[←hZ]
   show t.X (atR rows q) (if j<j then j else j+m)=_
   rw[if_neg (by omega)]
  have htq:nU (Z q j):=by
   rw[hZq];exact Lp.fJ (hI2.z.sm (hr1.lt hqm) (by omega)) (uM hml)
  refine aN (aT ?_)
  refine aE ?_
  simp[Ne.symm xB,xB,b5B,hql,F8]
  obtain⟨bc,hbc⟩: ∃bc,bc=upd b gX (some ⟨3,rqs j (xUp (j+m) rows t q)⟩):=⟨_,rfl⟩
  have bcX:bc gX=some ⟨3,rqs j (xUp (j+m) rows t q)⟩:=by rw[hbc];simp
  have bcx: ∀x,x≠gX→bc x=b x:=fun x hx=>by rw[hbc,aG _ _ _ _ hx]
  have bc5:=(bcx g5 (Ne.symm nX5)).trans bL5
  have bcT:=(bcx gT xT).trans b5
  have bcR:=(bcx gR xR).trans b5R
  have bci:=(bcx gi xi).trans bi
  rw[←hbc]
  have htl:=cJ htq
  have hcp:=Fh (rq (Z q j)) (Nat.le_trans htl.1 (by decide)) (Nat.le_trans htl.2 (by decide))
  obtain⟨kk,hkk⟩: ∃kk,t.bs (atR rows q)=kk:=⟨_,rfl⟩
  rw[hkk] at hbl
  have Th:(kk:Int)<j:=by omega
  refine dD aM (rem bc gX) (cW bc gX) [0,1,2,3,4,5,6,7,8,9,10,11,12,13,14,15,16,17] 1 18 (by kernel_rfl) ?_
  simp[nX5,Ne.symm nX5,xT,xR,xi,bc5,bcT,bcR,bci,hql,F8,hil,hgj,hnn,aL9,l3,t3,hkk,hbl,Th]
  refine aO hcp ?_
  simp[hkk,hbl,Th]
  refine Dq 18 true ?_
  simp[bcX,hbl,RT.c]
  refine Dd ?_
  simp
  refine aC ?_
  simp[wq,aB]
  have rD:(rqs j (xUp (j+m) rows t q)).set kk (ro (some (Z q j))).c=rqs j (xUp (j+m) rows t (q+1)):=by
   rw[yH _ _ hbl]
   refine bU fun c _=> ?_
   rw[←hkk,hZq]
   exact Bs aUS hr1 (by rw[hl];exact hql) c
  refine⟨q+1,by omega,by omega,rfl,by simp,?_⟩
  rw[←rD]
  intro z y hz
  by_cases e:z=gX
  ·subst e
   rw[aY] at hz
   simpa [RT.c,nK] using hz
  ·rw[aG _ _ _ _ e] at hz
   have:=bcx z e
   simp[e,this,hz]
 ·have hqe:q=l:=by omega
  subst hqe
  have hxa:rqs j (xUp (j+m) rows t q)=rqs j fun c=>if c<j then Lp.xb m (j+m) t c else 0:=bU fun c hc=>by
   rw[if_pos hc,←hl];exact Gq hr1 (fun i hi hn=>(hI2.dead i hi hn).1) hc
  rw[hxa]
  have b6:b g2=_:=hsb _ _ b22
  have x2:=oX _ _ b22
  have x25:=o5 _ _ b22
  refine aC ?_
  simp[nX5,Ne.symm nX5,x2,Ne.symm x2,x25,Ne.symm x25,bL5,b6]
  have blb:Sub bl b:=fun x y hx=>hsb x y (Kn x y (s0 x y hx))
  have blX:bl gX=none:=by
   cases hv:bl gX with
   | none => rfl
   | some y => have := Kn gX y (s0 gX y hv); rw [Xbl] at this; cases this
  refine aK [.agg [.int .i64 0,.lsl gX 3 0 j,.bool (rq vq).neg,.sl (iv (rq vq).m),.sl (iv (rq vq).d)]] 2 (by simp) ?_ fun x y hx=> ?_
  ·have hfX: ∀B:Int→Option Blk,B gX=some ⟨3,rqs j fun c=>if c<j then Lp.xb m (j+m) t c else 0⟩→frz (dropB B bl) 1 (.lsl gX 3 0 j)=some (.sl (rqs j fun c=>if c<j then Lp.xb m (j+m) t c else 0)):=fun B hB=>by
    by_cases e:gX<0
    ·rcases aOD with g | g
     ·omega
     ·rw[g];unfold frz;rw[if_pos e];rfl
    ·exact dW (by omega) blX hB (by simp) (Cw _ _)
   rw[show Pk j (wO (pC p)) (some (some fun c=>if c<j then Lp.xb m (j+m) t c else 0))= .agg [.int .i64 0,.sl (rqs j fun c=>if c<j then Lp.xb m (j+m) t c else 0),.bool (rq vq).neg,.sl (iv (rq vq).m),.sl (iv (rq vq).d)] by rw[←aHX];rfl]
   exact Vr rfl (hfX _ (by
    show upd (upd b gX _) g2 _ gX=_
    rw[aG _ _ _ _ (Ne.symm x2),aY]))
  ·show upd (upd b gX _) g2 _ x=some y
   rw[aG _ _ _ _ (fun e=>by rw[e,hb2] at hx;cases hx),aG _ _ _ _ (fun e=>by rw[e,blX] at hx;cases hx)]
   exact blb x y hx

noncomputable def aTY (s : Str) (l : List Int) : Bool := Ul (nC s) (nR s) (eQ (bY s l) (nC s) (nR s))
noncomputable def aWL (s : Str) (l : List Int) : Bool := lOk s l && aTY s l

def xl (n:Nat) (x:Nat→Rat):List (Option Rat):=(List.range n).map fun c=>some (x c)
def aVO (s:Str) (n:Nat):Option (Option (Nat→Rat))→V
 | some (some x) => .tup [.sl (fvs (aAE s.ms (xl (nC s) x) (nC s))), .sl ((fxs n x).drop (nC s)), .bool true]
 | _ => .tup [.sl [], .sl [], .bool false]
noncomputable def aOP (s : Str) : Option (Option (Nat → Rat)) → List (Option Rat)
 | some (some x) => aAE s.ms (xl (nC s) x) (nC s)
 | _ => [none]
noncomputable def aXT (s : Str) (l : List Int) : List (Option Rat) :=
 if lOk s l=true then aOP s (Lp.opt (nC s) (nR s) (eQ (bY s l) (nC s) (nR s)) (nC s+nR s) (wO (pC (bY s l)))) else [none]

theorem Ae {P:Program} {f:FuncId} {x0 x2:V} {cs cs':List V} {bl bl2:Int→Option Blk} {k:V→(Int→Option Blk)→Prop} (n:Nat) (hs:Sub bl2 bl) (hl:cs'.length=cs.length)
  (hx: ∀(i:Nat) (y':V),cs'[i]? =some y'→ ∃y,cs[i]? =some y∧(y'=y∨frz (dropB bl bl2) n y=some y')) (h:bW P f [x0,.agg cs',x2] bl2 k):bW P f [x0,.agg cs,x2] bl k:=by
 refine⟨h.1,fun w0 M F w vs hm cE=> ?_⟩
 have up: ∀ {x:V} {v:Value},Rep F w x v→Rep (fun k=>F k∨Own (dropB bl bl2) k) w x v:=fun h=>h.mono (fun b hb=> .inl hb) (fun _ _=>rfl) (.refl w)
 have uA:Jw (fun k=>F k∨Own (dropB bl bl2) k) w [x0,.agg cs',x2] vs:=by
  refine⟨cE.1,fun i x hi=> ?_⟩
  match i,hi with
  | 0, hi => cases hi; exact up (cE.2 0 x0 rfl)
  | 2, hi => cases hi; exact up (cE.2 2 x2 rfl)
  | 1, hi =>
    cases hi
    have h1:=cE.2 1 (.agg cs) rfl
    generalize vs.getD 1 undef=v at h1
    cases h1 with
    | agg _ arr hlen hr=>
      refine .agg _ _ (by rw[hlen,hl]) fun i y' hy'=> ?_
      obtain⟨y,hy,e⟩:=hx i y' hy'
      have hr2:=hr i y hy
      rcases e with e | e
      ·subst e;exact up hr2
      ·exact kU (fun g b hb=>rA hm g b hb) (fun g b hb h0=> .inr ⟨g,b,hb,h0,rfl⟩) (fun b hb=> .inl hb) n _ _ _ hr2 e
 exact(h.2 w0 M _ w vs (hm.freeze hs) uA).mono fun e w' ⟨v,r,bl',F',h1,h2,h3,h4,h5,h6,h7⟩=>⟨v,r,bl',F',h1,fun b hb=>h2 b (.inl hb),fun b hb=>h3 b (.inl hb),h4,h5,h6,h7⟩
theorem qK {p:Pg} {n m:Nat} (h:PgN p n m) {x:Nat→Rat} (ho:Lp.opt n m (eQ p n m) (n+m) (wO (pC p))=some (some x)):fits (Lp.dot n (wO (pC p)) x):=by
 rcases Lp.answers (wO (pC p)) h.init with ⟨e,_⟩| ⟨e,_⟩| ⟨y,e,_,hd,h0⟩
 ·rw[ho] at e;cases e
 ·rw[ho] at e;cases e
 ·rw[ho] at e
  have e:=Option.some.inj (Option.some.inj e)
  subst e
  have Uw:=hd.sum (C:=pC p) (W:=1000) (fun c _=>iM h.cm c) (by decide) n (Nat.le_refl _)
  have h72:(n+1)*(1000*Lp.lid 1000 m)≤rX:=by
   have hnl:=h.nl
   have:=Nat.mul_le_mul (show n+1≤101 by omega) (Nat.mul_le_mul_left 1000 (Lp.mA h.ml))
   exact Nat.le_trans this (by unfold rX;decide+kernel)
  exact cJ (Lp.fJ Uw h72)
noncomputable def sX (n : Nat) (C : Nat → Rat) (sg : Rat) : Option (Nat → Rat) → RT
 | none => ro (some 0)
 | some x => ro (some (sg * Lp.dot n C x))
noncomputable def vE (n : Nat) (C D : Nat → Rat) : Option (Option (Nat → Rat)) → Option (Option (Nat → Rat)) → SP
 | some o, some q => ⟨sX n D (-1) q, sX n C 1 o, q.isNone, o.isNone⟩
 | _, _ => ⟨⟨false, [], []⟩, ⟨false, [], []⟩, false, false⟩
theorem X1 {p q:Pg} {n m:Nat} (h:eQ p n m=eQ q n m) {C D:Nat→Rat} (ho:Lp.opt n m (eQ p n m) (n+m) C≠none):Lp.opt n m (eQ q n m) (n+m) D≠none:=by
 rw[←h]
 exact Lp.Bp.2 (Lp.Bp.1 ho)
theorem Ce (s:Str) (l:List Int) (j:Int):eQ (bJ s l j 1) (nC s) (nR s)=eQ (bJ s l j (-1)) (nC s) (nR s):=rfl

def L7 :Option (Nat→Rat)→Int
 | none => 3
 | some _ => 0
def slV (n:Nat):Option (Nat→Rat)→List (List V)
 | none => []
 | some x => fxs n x
def Yi (n:Nat) (C:Nat→Rat):Option (Nat→Rat)→V
 | none => .nilp
 | some x => fv (some (Lp.dot n C x))
theorem J0 (n:Nat) (C:Nat→Rat) (o:Option (Nat→Rat)):W3 n C (some o)= .tup [.int .i64 (L7 o),.sl (slV n o),Yi n C o]:=by cases o<;>rfl
structure aTI where
 vs:List V
 gs:List Int
 b:Int→Option Blk
theorem O1 {s:Str} {l:List Int} {j sg:Int} (hL:LOk s l) (hsg:sg=1∨sg= -1) (gp gC:Int) (b:Int→Option Blk) (hp:b gp=some ⟨5,[[.int .i64 (nR s),.int .i64 (nC s),.sl (iv (bY s l).a),.sl (iv (bY s l).b),.lsl gC 1 0 (nC s)]]⟩) (hC:b gC=some ⟨1,iv (lz (nC s) (kO s j sg))⟩) (hne:gC≠gp) (cL:gC<0→nC s=0):
  ∃blK,Sub blK b∧RL Tryz.prog blK 145 [.loc gp 5 0 0] (W3 (nC s) (wO (pC (bJ s l j sg))) (Lp.opt (nC s) (nR s) (eQ (bJ s l j sg) (nC s) (nR s)) (nC s+nR s) (wO (pC (bJ s l j sg))))):=by
 refine⟨b,Sub.refl _,Sh gp gC (bJ s l j sg) (nC s) (nR s) (lJ hL j sg hsg) (by rw[hp];rfl) (by rw[hC];rfl) cL⟩
def zSp :List V:= [.bool false,.nils,.nils,.bool false,.nils,.nils,.bool false,.bool false]
theorem Gj {bl:Int→Option Blk} :OwnL bl (dR ⟨false,[],[]⟩) [.bool false,.nils,.nils] []:=fG.2 ⟨.nils,.nils,[],[],rfl,rfl,by simp,dE.2 (.inl ⟨rfl,rfl,rfl⟩),dE.2 (.inl ⟨rfl,rfl,rfl⟩)⟩
theorem Gw {bl:Int→Option Blk} :OwnL bl (dS ⟨⟨false,[],[]⟩,⟨false,[],[]⟩,false,false⟩) zSp []:=qQ.2 ⟨[.bool false,.nils,.nils],[.bool false,.nils,.nils],[],[],rfl,rfl,by simp,Gj,Gj⟩
theorem Jb (n:Nat) (C:Nat→Rat) (sg:Rat) (x:Nat→Rat):sX n C sg (some x)=ro (some (sg*Lp.dot n C x)):=rfl
theorem vM (n:Nat) (C D:Nat→Rat) (q:Option (Option (Nat→Rat))):vE n C D none q=⟨⟨false,[],[]⟩,⟨false,[],[]⟩,false,false⟩:=by cases q<;>rfl
theorem Jp {bl:Int→Option Blk} {K:V→(Int→Option Blk)→Prop} (s:Str) (l:List Int) (hL:LOk s l) (j:Int) (vc:V) (gc:List Int) (oc:OwnD bl (fl 1 (iv (bY s l).c)) vc gc)
  (hK: ∀v gs b',OwnD b' (dTS (vE (nC s) (wO (pC (bJ s l j 1))) (wO (pC (bJ s l j (-1)))) (Lp.opt (nC s) (nR s) (eQ (bJ s l j 1) (nC s) (nR s)) (nC s+nR s) (wO (pC (bJ s l j 1)))) (Lp.opt (nC s) (nR s) (eQ (bJ s l j (-1)) (nC s) (nR s)) (nC s+nR s) (wO (pC (bJ s l j (-1))))))
     (Lp.opt (nC s) (nR s) (eQ (bJ s l j 1) (nC s) (nR s)) (nC s+nR s) (wO (pC (bJ s l j 1)))).isSome) v gs→(∀x,x∈gs→bl x=none)→(∀x y,bl x=some y→x∉gc→b' x=some y)→K v b'):
  bW Tryz.prog 111 [.ptr s.c,.agg [.int .i64 (nR s),.int .i64 (nC s),.sl (iv (bY s l).a),.sl (iv (bY s l).b),vc],.int .i64 j] bl K:=by
 have hs:=hL.sok
 obtain⟨c1,c2⟩:=kL oc
 refine bO Tryz.func111 rfl rfl (by rw[Tryz.ntmps111];simp) ?_
 rw[Tryz.ntmps111,Tryz.results111]
 refine aE ?_
 simp[c1,c2]
 intro gp hgp hbp g6 hg6 h6p hb6
 refine aE ?_
 simp
 intro g8 hg8 h86 h8p hb8
 obtain⟨b0,hb0⟩: ∃b0,b0=upd (upd (upd bl gp (some ⟨5,[[.int .i64 (nR s),.int .i64 (nC s),.sl (iv (bY s l).a),.sl (iv (bY s l).b),vc]]⟩)) g6 (some ⟨8,[zSp]⟩)) g8 (some ⟨8,[zSp]⟩):=⟨_,rfl⟩
 refine cX [(0,.ptr s.c),(2,.int .i64 j),(4,.loc gp 5 0 0),(6,.loc g6 8 0 0),(8,.loc g8 8 0 0)] 52 b0 ⟨rfl,by simp,by rw[hb0];exact Sub.refl _⟩ ?_
 have b0p:b0 gp=some ⟨5,[[.int .i64 (nR s),.int .i64 (nC s),.sl (iv (bY s l).a),.sl (iv (bY s l).b),vc]]⟩:=by rw[hb0];simp[Ne.symm h8p,Ne.symm h6p]
 have b06:b0 g6=some ⟨8,[zSp]⟩:=by rw[hb0];simp[Ne.symm h86]
 have b08:b0 g8=some ⟨8,[zSp]⟩:=by rw[hb0];simp
 have b0x: ∀x,x≠gp→x≠g6→x≠g8→b0 x=bl x:=fun x x1 x2 x3=>by rw[hb0,aG _ _ _ _ x3,aG _ _ _ _ x2,aG _ _ _ _ x1]
 have ngp:gp∉gc:=oc.not hbp
 have ng6:g6∉gc:=oc.not hb6
 have ng8:g8∉gc:=oc.not hb8
 have oc0:OwnD b0 (fl 1 (iv (bY s l).c)) vc gc:=oc.bI fun x hx y hy=>by rw[b0x x (fun e=>ngp (e▸hx)) (fun e=>ng6 (e▸hx)) (fun e=>ng8 (e▸hx))];exact hy
 clear hb0
 refine O4 (g:=gp) (s:=5) (els:= [[.int .i64 (nR s),.int .i64 (nC s),.sl (iv (bY s l).a),.sl (iv (bY s l).b),vc]]) 0 4 b0p rfl rfl oc0 ngp fun gC b1 b1p b1C nCp Wd Cor b1x=> ?_
 have nC6:g6≠gC:=fun e=>by
  rcases Cor with g | g
  ·exact ng6 (e▸g)
  ·have g:b0 gC=none:=g
   rw[←e,b06] at g;cases g
 have nC8:g8≠gC:=fun e=>by
  rcases Cor with g | g
  ·exact ng8 (e▸g)
  ·have g:b0 gC=none:=g
   rw[←e,b08] at g;cases g
 have kx: ∀x y,bl x=some y→x∉gc→x≠gp∧x≠g6∧x≠g8∧x≠gC:=fun x y hx hn=>by
  have x1:x≠gp:=fun e=>by rw[e,hbp] at hx;cases hx
  have x2:x≠g6:=fun e=>by rw[e,hb6] at hx;cases hx
  have x3:x≠g8:=fun e=>by rw[e,hb8] at hx;cases hx
  refine⟨x1,x2,x3,fun e=> ?_⟩
  rcases Cor with g | g
  ·exact hn (e▸g)
  ·have g:b0 gC=none:=g
   rw[←e,b0x x x1 x2 x3,hx] at g;cases g
 have b16:=(b1x g6 h6p nC6).trans b06
 have b18:=(b1x g8 h8p nC8).trans b08
 have k1: ∀x y,bl x=some y→x∉gc→b1 x=some y:=fun x y hx hn=>by
  obtain⟨x1,x2,x3,x4⟩:=kx x y hx hn
  exact(b1x x x1 x4).trans ((b0x x x1 x2 x3).trans hx)
 have f1: ∀x,b1 x=none→bl x=none:=fun x hx=>by
  have x1:x≠gp:=fun e=>by rw[e,b1p] at hx;cases hx
  have x2:x≠g6:=fun e=>by rw[e,b16] at hx;cases hx
  have x3:x≠g8:=fun e=>by rw[e,b18] at hx;cases hx
  have x4:x≠gC:=fun e=>by rw[e,b1C] at hx;cases hx
  exact(b0x x x1 x2 x3).symm.trans ((b1x x x1 x4).symm.trans hx)
 have hlc:(bY s l).c.length=nC s:=by simp[bY]
 have Yh:gC<0→nC s=0:=fun h=>by
  have:=Wd h
  rw[←hlc,this];rfl
 rw[hlc] at b1p
 rw[show(bY s l).c=lz (nC s) (lL s j 1 0) from(zC s j 1).symm] at b1C
 simp only[List.set] at b1p
 clear Wd Cor b1x b0x oc0 b0p b06 b08
 refine cX [(0,.ptr s.c),(2,.int .i64 j),(4,.loc gp 5 0 0),(6,.loc g6 8 0 0),(8,.loc g8 8 0 0)] 52 b1 ⟨rfl,by simp,Sub.refl _⟩ ?_
 refine aE ?_
 simp
 refine Ma s hs j 1 (.inl rfl) gp gC _ _ _ _ _ b1p b1C nCp ?_
 simp
 obtain⟨b2,hb2⟩: ∃b2,b2=upd b1 gC (some ⟨1,iv (lz (nC s) (kO s j 1))⟩):=⟨_,rfl⟩
 rw[←hb2]
 have b2C:b2 gC=some ⟨1,iv (lz (nC s) (kO s j 1))⟩:=by rw[hb2];simp
 have b2x: ∀x,x≠gC→b2 x=b1 x:=fun x hx=>by rw[hb2,aG _ _ _ _ hx]
 have b2p:=(b2x gp (Ne.symm nCp)).trans b1p
 have b26:=(b2x g6 nC6).trans b16
 have b28:=(b2x g8 nC8).trans b18
 have k2: ∀x y,bl x=some y→x∉gc→b2 x=some y:=fun x y hx hn=>by
  rw[b2x x (kx x y hx hn).2.2.2];exact k1 x y hx hn
 have f2: ∀x,b2 x=none→bl x=none:=fun x hx=>by
  have x4:x≠gC:=fun e=>by rw[e,b2C] at hx;cases hx
  exact f1 x ((b2x x x4).symm.trans hx)
 clear hb2 b2x b1p b1C b16 b18 k1 f1
 obtain⟨K1,sK1,hS1⟩:=O1 (sg:=1) hL (.inl rfl) gp gC b2 b2p b2C nCp Yh
 have aLS:=lJ hL j 1 (.inl rfl)
 have aJ0:=lJ hL j (-1) (.inr rfl)
 have hf1:=fun x (e:Lp.opt (nC s) (nR s) (eQ (bJ s l j 1) (nC s) (nR s)) (nC s+nR s) (wO (pC (bJ s l j 1)))=some (some x))=>qK aLS e
 have hf2:=fun x (e:Lp.opt (nC s) (nR s) (eQ (bJ s l j (-1)) (nC s) (nR s)) (nC s+nR s) (wO (pC (bJ s l j (-1))))=some (some x))=>qK aJ0 e
 have hbo:=X1 (C:=wO (pC (bJ s l j 1))) (D:=wO (pC (bJ s l j (-1)))) (Ce s l j)
 have hS2:=fun(b:Int→Option Blk) hp hC=>O1 (j:=j) (sg:= -1) hL (.inr rfl) gp gC b hp hC nCp Yh
 obtain⟨o1,ho1⟩: ∃o1,Lp.opt (nC s) (nR s) (eQ (bJ s l j 1) (nC s) (nR s)) (nC s+nR s) (wO (pC (bJ s l j 1)))=o1:=⟨_,rfl⟩
 obtain⟨o2,ho2⟩: ∃o2,Lp.opt (nC s) (nR s) (eQ (bJ s l j (-1)) (nC s) (nR s)) (nC s+nR s) (wO (pC (bJ s l j (-1))))=o2:=⟨_,rfl⟩
 obtain⟨C1,hC1⟩: ∃C1,wO (pC (bJ s l j 1))=C1:=⟨_,rfl⟩
 obtain⟨C2,hC2⟩: ∃C2,wO (pC (bJ s l j (-1)))=C2:=⟨_,rfl⟩
 rw[ho1,hC1] at hS1 hf1
 rw[ho2,hC2] at hf2
 rw[ho2,hC2] at hS2
 rw[ho1,ho2] at hbo
 rw[ho1,ho2,hC1,hC2] at hK
 clear ho1 ho2 hC1 hC2 aLS aJ0
 refine cX [(0,.ptr s.c),(2,.int .i64 j),(4,.loc gp 5 0 0),(6,.loc g6 8 0 0),(8,.loc g8 8 0 0)] 52 b2 ⟨rfl,by simp,Sub.refl _⟩ ?_
 refine aE ?_
 simp
 refine zX hS1 sK1 ?_
 rcases o1 with _ | o1
 ·simp[W3]
  refine aC ?_
  simp[b26,zSp]
  rw[bH]
  rw[vM] at hK
  exact⟨[.agg zSp,.bool false],by simp[zSp],hK _ [] _ (nL.2 ⟨zSp,rfl,Gw⟩) (by simp) fun x y hx hn=>by
   show upd b2 g6 _ x=some y
   rw[aG _ _ _ _ (kx x y hx hn).2.1];exact k2 x y hx hn⟩
 obtain⟨q2,rfl⟩: ∃q,o2=some q:=by
  cases o2 with
  | none => exact absurd rfl (hbo (by simp))
  | some q => exact ⟨q, rfl⟩
 rw[J0]
 simp
 refine cX [(0,.ptr s.c),(2,.int .i64 j),(4,.loc gp 5 0 0),(6,.loc g6 8 0 0),(8,.loc g8 8 0 0),(9,.int .i64 (L7 o1)),(11,Yi (nC s) C1 o1)] 52 b2 ⟨rfl,by simp,Sub.refl _⟩ ?_
 refine fZ (fun a:aTI=> [(0,.ptr s.c),(2,.int .i64 j),(4,.loc gp 5 0 0),(6,.loc g6 8 0 0),(8,.loc g8 8 0 0)]) (fun a=>a.b) (fun a=>OwnL a.b (dR (sX (nC s) C1 1 o1)) a.vs a.gs∧(∀x,x∈a.gs→b2 x=none)∧a.b g8=some ⟨8,[[.bool false,.nils,.nils]++a.vs++ [.bool false,.bool o1.isNone]]⟩∧(∀x y,b2 x=some y→x≠g8→a.b x=some y)) 52 ?_ ?_
 ·rcases o1 with _ | x
  ·refine aC ?_
   simp[L7]
   refine cK (wH 0 (by decide)) fun v gs b3 o f fr=> ?_
   obtain⟨vm,vd,ga,gb,rfl,rfl,hd,om,od⟩:=pI.1 o
   obtain⟨d1,d2⟩:=om.one
   obtain⟨e1,e2⟩:=od.one
   have b38:=aS f fr b28
   simp[b38,d1,e1,zSp]
   rw[aH]
   have n8:g8∉ga++gb:=fun h=>by have:=f g8 h;rw[b28] at this;cases this
   refine⟨⟨[.bool (ro (some ((0:Int):Rat))).neg,vm,vd],ga++gb,upd b3 g8 (some ⟨8,[[.bool false,.nils,.nils,.bool (ro (some ((0:Int):Rat))).neg,vm,vd,.bool false,.bool true]]⟩)⟩,⟨?_,f,by simp,fun x y hx hn=> ?_⟩,rfl,by simp,sub_eq (by simp[ro])⟩
   ·refine fG.2 ⟨vm,vd,ga,gb,rfl,rfl,hd,om.bI fun x hx y hy=> ?_,od.bI fun x hx y hy=> ?_⟩
    ·simp only;rw[aG _ _ _ _ (show x≠g8 from fun e=>n8 (List.mem_append_left _ (e▸hx)))];exact hy
    ·simp only;rw[aG _ _ _ _ (show x≠g8 from fun e=>n8 (List.mem_append_right _ (e▸hx)))];exact hy
   ·simp only;rw[aG _ _ _ _ hn];exact aS f fr hx
  ·have hfx:=hf1 x rfl
   have hft:=Ns (Lp.dot (nC s) C1 x)
   rw[show fit (Lp.dot (nC s) C1 x)=some (Lp.dot (nC s) C1 x) from by unfold fit;rw[if_pos hfx]] at hft
   refine aC ?_
   simp[L7]
   refine aD hft ?_
   simp
   refine cK (yU (some (Lp.dot (nC s) C1 x)) (okS hfx)) fun v gs b3 o f fr=> ?_
   obtain⟨vm,vd,ga,gb,rfl,rfl,hd,om,od⟩:=pI.1 o
   obtain⟨d1,d2⟩:=om.one
   obtain⟨e1,e2⟩:=od.one
   have b38:=aS f fr b28
   simp[b38,d1,e1,zSp]
   rw[aH]
   have n8:g8∉ga++gb:=fun h=>by have:=f g8 h;rw[b28] at this;cases this
   refine⟨⟨[.bool (ro (some (Lp.dot (nC s) C1 x))).neg,vm,vd],ga++gb,upd b3 g8 (some ⟨8,[[.bool false,.nils,.nils,.bool (ro (some (Lp.dot (nC s) C1 x))).neg,vm,vd,.bool false,.bool false]]⟩)⟩,⟨?_,f,by simp,fun x y hx hn=> ?_⟩,rfl,by simp,sub_eq (by simp[ro])⟩
   ·rw[show sX (nC s) C1 1 (some x)=ro (some (Lp.dot (nC s) C1 x)) from by rw[Jb,Rat.one_mul]]
    refine fG.2 ⟨vm,vd,ga,gb,rfl,rfl,hd,om.bI fun x hx y hy=> ?_,od.bI fun x hx y hy=> ?_⟩
    ·simp only;rw[aG _ _ _ _ (show x≠g8 from fun e=>n8 (List.mem_append_left _ (e▸hx)))];exact hy
    ·simp only;rw[aG _ _ _ _ (show x≠g8 from fun e=>n8 (List.mem_append_right _ (e▸hx)))];exact hy
   ·simp only;rw[aG _ _ _ _ hn];exact aS f fr hx
 rintro⟨vs,gs,b3⟩ ⟨o3,f3,b38,k3⟩
 simp only at o3 f3 b38 k3
 have b3p:=k3 gp _ b2p (Ne.symm h8p)
 have b36:=k3 g6 _ b26 (Ne.symm h86)
 have b3C:=k3 gC _ b2C (Ne.symm nC8)
 have aXZ:gp∉gs:=fun h=>by have:=f3 gp h;rw[b2p] at this;cases this
 have Wf:g6∉gs:=fun h=>by have:=f3 g6 h;rw[b26] at this;cases this
 have Tt:g8∉gs:=fun h=>by have:=f3 g8 h;rw[b28] at this;cases this
 have aI1:gC∉gs:=fun h=>by have:=f3 gC h;rw[b2C] at this;cases this
 obtain⟨vm,vd,gm,gd,rfl,rfl,hd,om,od⟩:=fG.1 o3
 obtain⟨d1,d2⟩:=om.one
 obtain⟨e1,e2⟩:=od.one
 simp only[List.cons_append,List.nil_append] at b38
 refine aE ?_
 simp
 refine Ma s hs j (-1) (.inr rfl) gp gC _ _ _ _ _ b3p b3C nCp ?_
 simp
 obtain⟨b4,hb4⟩: ∃b4,b4=upd b3 gC (some ⟨1,iv (lz (nC s) (kO s j (-1)))⟩):=⟨_,rfl⟩
 rw[←hb4]
 have b4C:b4 gC=some ⟨1,iv (lz (nC s) (kO s j (-1)))⟩:=by rw[hb4];simp
 have b4x: ∀x,x≠gC→b4 x=b3 x:=fun x hx=>by rw[hb4,aG _ _ _ _ hx]
 have b4p:=(b4x gp (Ne.symm nCp)).trans b3p
 have b46:=(b4x g6 nC6).trans b36
 have b48:=(b4x g8 nC8).trans b38
 have om4:=om.bI (bl':=b4) fun x hx y hy=>by rw[b4x x (show x≠gC from fun e=>aI1 (List.mem_append_left _ (e▸hx)))];exact hy
 have od4:=od.bI (bl':=b4) fun x hx y hy=>by rw[b4x x (show x≠gC from fun e=>aI1 (List.mem_append_right _ (e▸hx)))];exact hy
 have k4: ∀x y,bl x=some y→x∉gc→b4 x=some y:=fun x y hx hn=>by
  obtain⟨x1,x2,x3,x4⟩:=kx x y hx hn
  rw[b4x x x4];exact k3 x y (k2 x y hx hn) x3
 have f4: ∀x,b4 x=none→bl x=none:=fun x hx=>by
  cases hv:b2 x with
  | none => exact f2 x hv
  | some y =>
    by_cases e8:x=g8
    ·rw[e8,b48] at hx;cases hx
    ·by_cases eC:x=gC
     ·rw[eC,b4C] at hx;cases hx
     ·rw[b4x x eC,k3 x y hv e8] at hx;cases hx
 clear hb4 b4x b3p b36 b38 b3C k3 b2p b26 b28 b2C k2 om od o3 sK1 hS1
 obtain⟨K2,sK2,hS⟩:=hS2 b4 b4p b4C
 refine cX [(0,.ptr s.c),(2,.int .i64 j),(4,.loc gp 5 0 0),(6,.loc g6 8 0 0),(8,.loc g8 8 0 0)] 52 b4 ⟨rfl,by simp,Sub.refl _⟩ ?_
 rw[J0] at hS
 refine aC ?_
 simp
 refine zX hS sK2 ?_
 rcases q2 with _ | x
 ·simp[L7]
  refine cK (wH 0 (by decide)) fun v gs5 b5 o f fr=> ?_
  obtain⟨wm,wd,ha,hb,rfl,rfl,he,pm,pd⟩:=pI.1 o
  obtain⟨i1,i2⟩:=pm.one
  obtain⟨j1,j2⟩:=pd.one
  have b58:=aS f fr b48
  have b56:=aS f fr b46
  simp[b58,b56,d1,e1,i1,j1,h86,Ne.symm h86,zSp]
  rw[bH]
  have m8:g8∉ha++hb:=fun h=>by have:=f g8 h;rw[b48] at this;cases this
  have m6:g6∉ha++hb:=fun h=>by have:=f g6 h;rw[b46] at this;cases this
  have hn4: ∀x,x∈ha++hb→x∉gm++gd:=fun x hx hm=>by
   have h1:=f x hx
   rcases List.mem_append.1 hm with h | h
   ·obtain⟨y,hy⟩:=om4.has x h;rw[hy] at h1;cases h1
   ·obtain⟨y,hy⟩:=od4.has x h;rw[hy] at h1;cases h1
  have hB: ∀X Y x,x≠g8→x≠g6→upd (upd b5 g8 X) g6 Y x=b5 x:=fun X Y x x1 x2=>by rw[aG _ _ _ _ x2,aG _ _ _ _ x1]
  refine⟨[.agg [.bool (ro (some ((0:Int):Rat))).neg,wm,wd,.bool (sX (nC s) C1 1 o1).neg,vm,vd,.bool true,.bool o1.isNone],.bool true],by simp[ro,i1,j1,d1,e1],hK _ ((ha++hb)++(gm++gd)) _ (nL.2 ⟨_,rfl,qQ.2 ⟨[.bool (ro (some ((0:Int):Rat))).neg,wm,wd],[.bool (sX (nC s) C1 1 o1).neg,vm,vd],ha++hb,gm++gd,rfl,rfl,hn4,?_,?_⟩⟩) (fun x hx=> ?_) fun x y hx hn=> ?_⟩
  ·show OwnL (upd (upd b5 g8 _) g6 _) (dR (ro (some 0))) _ _
   refine fG.2 ⟨wm,wd,ha,hb,rfl,rfl,he,pm.bI fun x hx y hy=> ?_,pd.bI fun x hx y hy=> ?_⟩
   ·rw[hB _ _ x (show x≠g8 from fun e=>m8 (List.mem_append_left _ (e▸hx))) (show x≠g6 from fun e=>m6 (List.mem_append_left _ (e▸hx)))];exact hy
   ·rw[hB _ _ x (show x≠g8 from fun e=>m8 (List.mem_append_right _ (e▸hx))) (show x≠g6 from fun e=>m6 (List.mem_append_right _ (e▸hx)))];exact hy
  ·show OwnL (upd (upd b5 g8 _) g6 _) (dR (sX (nC s) C1 1 o1)) _ _
   refine fG.2 ⟨vm,vd,gm,gd,rfl,rfl,hd,om4.bI fun x hx y hy=> ?_,od4.bI fun x hx y hy=> ?_⟩
   ·rw[hB _ _ x (show x≠g8 from fun e=>Tt (List.mem_append_left _ (e▸hx))) (show x≠g6 from fun e=>Wf (List.mem_append_left _ (e▸hx)))];exact aS f fr hy
   ·rw[hB _ _ x (show x≠g8 from fun e=>Tt (List.mem_append_right _ (e▸hx))) (show x≠g6 from fun e=>Wf (List.mem_append_right _ (e▸hx)))];exact aS f fr hy
  ·rcases List.mem_append.1 hx with h | h
   ·exact f4 x (f x h)
   ·exact f2 x (f3 x h)
  ·obtain⟨x1,x2,x3,x4⟩:=kx x y hx hn
   show upd (upd b5 g8 _) g6 _ x=some y
   rw[hB _ _ x x3 x2];exact aS f fr (k4 x y hx hn)
 ·have hfx:=hf2 x rfl
  have hfn:fits (-(Lp.dot (nC s) C2 x)):=by
   have:=uH (okS hfx)
   exact this _ rfl
  have hng:=aAA (some (Lp.dot (nC s) C2 x))
  have hft:=Ns (-(Lp.dot (nC s) C2 x))
  rw[show fit (-(Lp.dot (nC s) C2 x))=some (-(Lp.dot (nC s) C2 x)) from by unfold fit;rw[if_pos hfn]] at hft
  simp[L7]
  refine aD hng ?_
  simp
  refine aD hft ?_
  simp
  refine cK (yU (some (-(Lp.dot (nC s) C2 x))) (okS hfn)) fun v gs5 b5 o f fr=> ?_
  obtain⟨wm,wd,ha,hb,rfl,rfl,he,pm,pd⟩:=pI.1 o
  obtain⟨i1,i2⟩:=pm.one
  obtain⟨j1,j2⟩:=pd.one
  have b58:=aS f fr b48
  have b56:=aS f fr b46
  simp[b58,b56,d1,e1,i1,j1,h86,Ne.symm h86,zSp]
  rw[bH]
  have m8:g8∉ha++hb:=fun h=>by have:=f g8 h;rw[b48] at this;cases this
  have m6:g6∉ha++hb:=fun h=>by have:=f g6 h;rw[b46] at this;cases this
  have hn4: ∀x,x∈ha++hb→x∉gm++gd:=fun x hx hm=>by
   have h1:=f x hx
   rcases List.mem_append.1 hm with h | h
   ·obtain⟨y,hy⟩:=om4.has x h;rw[hy] at h1;cases h1
   ·obtain⟨y,hy⟩:=od4.has x h;rw[hy] at h1;cases h1
  have hB: ∀X Y x,x≠g8→x≠g6→upd (upd b5 g8 X) g6 Y x=b5 x:=fun X Y x x1 x2=>by rw[aG _ _ _ _ x2,aG _ _ _ _ x1]
  refine⟨[.agg [.bool (ro (some (-(Lp.dot (nC s) C2 x)))).neg,wm,wd,.bool (sX (nC s) C1 1 o1).neg,vm,vd,.bool false,.bool o1.isNone],.bool true],by simp[ro,i1,j1,d1,e1],hK _ ((ha++hb)++(gm++gd)) _ (nL.2 ⟨_,rfl,qQ.2 ⟨[.bool (ro (some (-(Lp.dot (nC s) C2 x)))).neg,wm,wd],[.bool (sX (nC s) C1 1 o1).neg,vm,vd],ha++hb,gm++gd,rfl,rfl,hn4,?_,?_⟩⟩) (fun x hx=> ?_) fun x y hx hn=> ?_⟩
  ·show OwnL (upd (upd b5 g8 _) g6 _) (dR (ro (some (-1*Lp.dot (nC s) C2 x)))) _ _
   rw[show(-1:Rat)*Lp.dot (nC s) C2 x= -(Lp.dot (nC s) C2 x) from by grind]
   refine fG.2 ⟨wm,wd,ha,hb,rfl,rfl,he,pm.bI fun x hx y hy=> ?_,pd.bI fun x hx y hy=> ?_⟩
   ·rw[hB _ _ x (show x≠g8 from fun e=>m8 (List.mem_append_left _ (e▸hx))) (show x≠g6 from fun e=>m6 (List.mem_append_left _ (e▸hx)))];exact hy
   ·rw[hB _ _ x (show x≠g8 from fun e=>m8 (List.mem_append_right _ (e▸hx))) (show x≠g6 from fun e=>m6 (List.mem_append_right _ (e▸hx)))];exact hy
  ·show OwnL (upd (upd b5 g8 _) g6 _) (dR (sX (nC s) C1 1 o1)) _ _
   refine fG.2 ⟨vm,vd,gm,gd,rfl,rfl,hd,om4.bI fun x hx y hy=> ?_,od4.bI fun x hx y hy=> ?_⟩
   ·rw[hB _ _ x (show x≠g8 from fun e=>Tt (List.mem_append_left _ (e▸hx))) (show x≠g6 from fun e=>Wf (List.mem_append_left _ (e▸hx)))];exact aS f fr hy
   ·rw[hB _ _ x (show x≠g8 from fun e=>Tt (List.mem_append_right _ (e▸hx))) (show x≠g6 from fun e=>Wf (List.mem_append_right _ (e▸hx)))];exact aS f fr hy
  ·rcases List.mem_append.1 hx with h | h
   ·exact f4 x (f x h)
   ·exact f2 x (f3 x h)
  ·obtain⟨x1,x2,x3,x4⟩:=kx x y hx hn
   show upd (upd b5 g8 _) g6 _ x=some y
   rw[hB _ _ x x3 x2];exact aS f fr (k4 x y hx hn)

def sgT (t:Bool):Int:=if t then 1 else -1
def lY (s:Str) (l:List Int) (k:Int):Bool:=lOk s l && (decide (0≤k)&& decide (k<s.ms.length))
noncomputable def aYB (s : Str) (l : List Int) (k : Int) (t : Bool) : List (Option Rat) :=
 if lY s l k=true then aOP s (Lp.opt (nC s) (nR s) (eQ (bJ s l k (sgT t)) (nC s) (nR s)) (nC s+nR s) (wO (pC (bJ s l k (sgT t))))) else [none]
theorem uW {s:Str} {l:List Int} {k:Int} (h:lY s l k=true):lOk s l=true:=by
 unfold lY at h
 rw[Bool.and_eq_true] at h
 exact h.1

noncomputable def upO (s : Str) (l : List Int) (k sg : Int) : Option (Option (Nat → Rat)) := Lp.opt (nC s) (nR s) (eQ (bJ s l k sg) (nC s) (nR s)) (nC s + nR s) (wO (pC (bJ s l k sg)))
noncomputable def rY (s : Str) (l : List Int) (k : Int) : SP := if lY s l k = true then vE (nC s) (wO (pC (bJ s l k 1))) (wO (pC (bJ s l k (-1)))) (upO s l k 1) (upO s l k (-1)) else ⟨⟨false, [], []⟩, ⟨false, [], []⟩, false, false⟩
noncomputable def xP (s : Str) (l : List Int) (k : Int) : Bool := lY s l k && (upO s l k 1).isSome
theorem oY (s:Str) (l:List Int) (k:Int) (hs:s.sz) (hl:l.length≤1048576):NW Tryz.prog 44 [.agg s.c,.sl (iv l),.int .i64 k] (dTS (rY s l k) (xP s l k)):=by
 have hms:=hs.ms
 refine iX Tryz.func44 rfl rfl (by rw[Tryz.ntmps44];simp) fun bl=> ?_
 rw[Tryz.ntmps44,Tryz.results44]
 refine aE ?_
 simp[Str.c]
 intro g hg hbg g6 hg6 h6g hb6
 obtain⟨b0,hb0⟩: ∃b0,b0=upd bl g6 (some ⟨8,[zSp]⟩):=⟨_,rfl⟩
 refine cP 1 3 (.ptr s.c) b0 (by rw[hb0];intro z b hz;simp only[aA,zSp] at hz ⊢;grind) (by simp[frz,dropB,hb0,hbg,h6g,Ne.symm h6g,V.cl,Str.c]) ?_
 refine cX [(1,.sl (iv l)),(2,.int .i64 k),(3,.ptr s.c),(6,.loc g6 8 0 0)] 30 b0 ⟨rfl,by simp[Str.c],Sub.refl _⟩ ?_
 have b06:b0 g6=some ⟨8,[zSp]⟩:=by rw[hb0];simp
 have s0:Sub bl b0:=fun x y hx=>by rw[hb0,aG _ _ _ _ (fun e=>by rw[e,hb6] at hx;cases hx)];exact hx
 clear hb0
 refine aE ?_
 simp[Str.c]
 refine bQ [(1,.sl (iv l)),(2,.int .i64 k),(3,.ptr s.c),(6,.loc g6 8 0 0)] _ b0 22 (.bool (!lY s l k)) ⟨rfl,by simp[Str.c],Sub.refl _⟩ rfl ?_ ?_
 ·simp[Str.c]
  refine aD (E1 s l hs.js hs.ms hs.nm (by omega)) ?_
  cases h1:lOk s l
  ·simp[lY,h1]
  simp[lY,h1,Str.c]
  by_cases h4:0≤k
  ·have h4': ¬ k<0:=by omega
   by_cases h5:k<s.ms.length
   ·have h6: ¬ (s.ms.length:Int)≤k:=by omega
    simp[h4,h4',h5,h6,Str.c]
   ·have h6:(s.ms.length:Int)≤k:=by omega
    simp[h4,h4',h5,h6,Str.c]
  ·have h4':k<0:=by omega
   simp[h4,h4']
 cases hp:lY s l k
 ·have hz:rY s l k=⟨⟨false,[],[]⟩,⟨false,[],[]⟩,false,false⟩:=by unfold rY;rw[if_neg (by simp[hp])]
  have hz2:xP s l k=false:=by unfold xP;rw[hp];rfl
  rw[hz,hz2]
  simp
  simp[b06,zSp]
  exact gH [.agg zSp,.bool false] [] (by simp[zSp]) (nL.2 ⟨zSp,rfl,Gw⟩) (by simp) fun x y hx=>by
   show upd b0 g6 _ x=some y
   rw[aG _ _ _ _ (fun e=>by rw[e,hb6] at hx;cases hx)];exact s0 x y hx
 have hL:=Ft (uW hp)
 have hz:rY s l k=vE (nC s) (wO (pC (bJ s l k 1))) (wO (pC (bJ s l k (-1)))) (upO s l k 1) (upO s l k (-1)):=by unfold rY;rw[if_pos hp]
 have hz2:xP s l k=(upO s l k 1).isSome:=by unfold xP;rw[hp];rfl
 rw[hz,hz2]
 unfold upO
 simp
 refine aE ?_
 simp
 refine cK (xQ s l hL) fun v gs b1 o1 f fr=> ?_
 obtain⟨va,vb,vc,ga,gb,gc,rfl,rfl,d1,d2,oa,ob,oc⟩:=Ew.1 o1
 have s1:Sub b0 b1:=fun x y hx=>aS f fr hx
 have lU:(bY s l).rows=nR s:=rfl
 have Rz:(bY s l).bD=nC s:=rfl
 simp[lU,Rz]
 obtain⟨b2,hb2⟩: ∃b2:Int→Option Blk,b2=fun x=>if x∈ga++gb then none else b1 x:=⟨_,rfl⟩
 have b2n: ∀x,x∈ga++gb→b2 x=none:=fun x hx=>by rw[hb2];simp only;rw[if_pos hx]
 have b2y: ∀x,x∉ga++gb→b2 x=b1 x:=fun x hx=>by rw[hb2];simp only;rw[if_neg hx]
 have s2:Sub b2 b1:=fun x y hx=>by
  by_cases h:x∈ga++gb
  ·rw[b2n x h] at hx;cases hx
  ·rw[b2y x h] at hx;exact hx
 have oa2:OwnD (dropB b1 b2) (fl 1 (iv (bY s l).a)) va ga:=oa.bI fun x hx y hy=>by unfold dropB;rw[b2n x (List.mem_append_left _ hx)];exact hy
 have ob2:OwnD (dropB b1 b2) (fl 1 (iv (bY s l).b)) vb gb:=ob.bI fun x hx y hy=>by unfold dropB;rw[b2n x (List.mem_append_right _ hx)];exact hy
 have aTN: ∀x,x∈gc→x∉ga++gb:=fun x hx h=>by
  rcases List.mem_append.1 h with h | h
  ·exact d1 x h (List.mem_append_right _ hx)
  ·exact d2 x h hx
 have oc2:OwnD b2 (fl 1 (iv (bY s l).c)) vc gc:=oc.bI fun x hx y hy=>by rw[b2y x (aTN x hx)];exact hy
 refine Ae (cs':= [.int .i64 (nR s),.int .i64 (nC s),.sl (iv (bY s l).a),.sl (iv (bY s l).b),vc]) 1 s2 rfl ?_ (Jp s l hL k vc gc oc2 fun v2 gs2 b3 o2 f2 k2=> ?_)
 ·intro i y' hy'
  match i,hy' with
  | 0, hy' => cases hy'; exact ⟨_, rfl, .inl rfl⟩
  | 1, hy' => cases hy'; exact ⟨_, rfl, .inl rfl⟩
  | 2, hy' => cases hy'; exact ⟨_, rfl, .inr (sT oa2 0)⟩
  | 3, hy' => cases hy'; exact ⟨_, rfl, .inr (sT ob2 0)⟩
  | 4, hy' => cases hy'; exact ⟨_, rfl, .inl rfl⟩
 generalize vE (nC s) (wO (pC (bJ s l k 1))) (wO (pC (bJ s l k (-1)))) (Lp.opt (nC s) (nR s) (eQ (bJ s l k 1) (nC s) (nR s)) (nC s+nR s) (wO (pC (bJ s l k 1)))) (Lp.opt (nC s) (nR s) (eQ (bJ s l k (-1)) (nC s) (nR s)) (nC s+nR s) (wO (pC (bJ s l k (-1)))))=R at o2 ⊢
 generalize (Lp.opt (nC s) (nR s) (eQ (bJ s l k 1) (nC s) (nR s)) (nC s+nR s) (wO (pC (bJ s l k 1)))).isSome=ob2 at o2 ⊢
 obtain⟨vs,rfl,oL⟩:=nL.1 o2
 obtain⟨vm,vd,wm,wd,rfl,q1,q2,q3,q4⟩:=Hw oL
 have n6:g6∉ga++(gb++gc):=fun h=>by have:=f g6 h;rw[b06] at this;cases this
 have aT3:g6∉ga++gb:=fun h=>n6 (by rcases List.mem_append.1 h with h | h;exact List.mem_append_left _ h;exact List.mem_append_right _ (List.mem_append_left _ h))
 have n6c:g6∉gc:=fun h=>n6 (List.mem_append_right _ (List.mem_append_right _ h))
 have b26:b2 g6=some ⟨8,[zSp]⟩:=by rw[b2y g6 aT3];exact s1 _ _ b06
 have b36:=k2 g6 _ b26 n6c
 have n6s:g6∉gs2:=fun h=>by have:=f2 g6 h;rw[b26] at this;cases this
 simp[b36,zSp,q1,q2,q3,q4]
 refine aC ?_
 simp
 have fb: ∀x,b0 x=none→bl x=none:=fun x hx=>aQ s0 hx
 refine gH [.agg [.bool R.lo.neg,vm,vd,.bool R.hi.neg,wm,wd,.bool R.nl,.bool R.nh],.bool ob2] gs2 (by simp[q1,q2,q3,q4]) (nL.2 ⟨_,rfl,oL.bI fun x hx y hy=> ?_⟩) (fun x hx=> ?_) fun x y hx=> ?_
 ·show upd b3 g6 _ x=some y
  rw[aG _ _ _ _ (show x≠g6 from fun e=>n6s (e▸hx))];exact hy
 ·by_cases h:x∈ga++gb
  ·refine fb x (f x ?_)
   rcases List.mem_append.1 h with h | h
   ·exact List.mem_append_left _ h
   ·exact List.mem_append_right _ (List.mem_append_left _ h)
  ·have:=f2 x hx
   rw[b2y x h] at this
   exact fb x (aQ s1 this)
 ·have h0:=s0 x y hx
  have nx:x∉ga++(gb++gc):=fun h=>by rw[f x h] at h0;cases h0
  have nab:x∉ga++gb:=fun h=>nx (by rcases List.mem_append.1 h with h | h;exact List.mem_append_left _ h;exact List.mem_append_right _ (List.mem_append_left _ h))
  show upd b3 g6 _ x=some y
  rw[aG _ _ _ _ (fun e=>by rw[e,hb6] at hx;cases hx)]
  exact k2 x y (by rw[b2y x nab];exact s1 x y h0) fun h=>nx (List.mem_append_right _ (List.mem_append_right _ h))
theorem xW (s:Str) (l:List Int) (k:Int) (hs:s.sz) (hl:l.length≤1048576):RO Tryz.prog 44 [.agg s.c,.sl (iv l),.int .i64 k] (.tup [.agg (rY s l k).c,.bool (xP s l k)]):=by
 have:=jE 3 (oY s l k hs hl) (Uz _ _ 0)
 rwa [aCI] at this

def rS :Option (Option (Nat→Rat))→Int
 | none => 2
 | some none => 3
 | some (some _) => 0
noncomputable def xs3 (n : Nat) : Option (Option (Nat → Rat)) → List (List V)
 | some (some x) => rqs n x
 | _ => []
noncomputable def S8 (n : Nat) (C : Nat → Rat) : Option (Option (Nat → Rat)) → RT
 | some (some x) => rq (Lp.dot n C x)
 | _ => ⟨false, [], []⟩
theorem Jh (n:Nat) (C:Nat→Rat) (o:Option (Option (Nat→Rat))):Pk n C o= .agg (.int .i64 (rS o):: .sl (xs3 n o)::(S8 n C o).c):=by
 rcases o with _ | _ | x<;>rfl
theorem W8 (p q:Pg) (n m:Nat) (hp:PgN p n m) (hq:PgN q n m) (he:eQ p n m=eQ q n m):RO Tryz.prog 128 [.agg p.v,.agg q.v] (.tup [.agg (vE n (wO (pC p)) (wO (pC q)) (Lp.opt n m (eQ p n m) (n+m) (wO (pC p))) (Lp.opt n m (eQ q n m) (n+m) (wO (pC q)))).c,.bool (Lp.opt n m (eQ p n m) (n+m) (wO (pC p))).isSome]):=by
 have h1:=wS p n m hp
 have h2:=wS q n m hq
 have f2:=fun x (e:Lp.opt n m (eQ q n m) (n+m) (wO (pC q))=some (some x))=>qK hq e
 have hb:=X1 (C:=wO (pC p)) (D:=wO (pC q)) he
 obtain⟨o1,ho1⟩: ∃o1,Lp.opt n m (eQ p n m) (n+m) (wO (pC p))=o1:=⟨_,rfl⟩
 obtain⟨o2,ho2⟩: ∃o2,Lp.opt n m (eQ q n m) (n+m) (wO (pC q))=o2:=⟨_,rfl⟩
 rw[ho1] at h1 hb ⊢
 rw[ho2] at h2 f2 hb ⊢
 generalize wO (pC p)=C1 at *
 generalize wO (pC q)=C2 at *
 clear ho1 ho2 hp hq he
 have tI:RO Tryz.prog 138 [.int .i64 0] (.agg (ro (some 0)).c):=dU 0 (by decide)
 refine aI Tryz.func128 rfl rfl (by rw[Tryz.ntmps128];simp) fun bl=> ?_
 rw[Tryz.ntmps128,Tryz.results128]
 refine aE ?_
 simp[Pg.v]
 intro g2 hg2 hb2 g3 hg3 h32 hb3 g4 hg4 h43 h42 hb4
 obtain⟨b0,hb0⟩: ∃b0,b0=upd bl g4 (some ⟨8,[zSp]⟩):=⟨_,rfl⟩
 refine cP 1 2 (.ptr p.v) (upd (upd bl g3 (some ⟨5,[q.v]⟩)) g4 (some ⟨8,[zSp]⟩)) (by intro z b hz;simp only[aA,zSp,Pg.v] at hz ⊢;grind) (by simp[frz,dropB,hb2,hb3,h32,h43,h42,Ne.symm h32,Ne.symm h43,Ne.symm h42,V.cl,Pg.v]) ?_
 refine cP 1 3 (.ptr q.v) b0 (by rw[hb0];intro z b hz;simp only[aA,zSp,Pg.v] at hz ⊢;grind) (by simp[frz,dropB,hb0,hb3,h43,Ne.symm h43,V.cl,Pg.v]) ?_
 refine cX [(2,.ptr p.v),(3,.ptr q.v),(4,.loc g4 8 0 0)] 36 b0 ⟨rfl,by simp[Pg.v],Sub.refl _⟩ ?_
 have b04:b0 g4=some ⟨8,[zSp]⟩:=by rw[hb0];simp
 have s0:Sub bl b0:=fun x y hx=>by rw[hb0,aG _ _ _ _ (fun e=>by rw[e,hb4] at hx;cases hx)];exact hx
 clear hb0 hb2 hb3 h32 h43 h42
 refine aE ?_
 simp
 refine aD tI ?_
 simp
 refine aD tI ?_
 simp[ro,RT.c]
 intro g6 hg6 hb6
 obtain⟨b1,hb1⟩: ∃b1,b1=upd b0 g6 (some ⟨8,[[.bool (rq 0).neg,.sl (iv (rq 0).m),.sl (iv (rq 0).d),.bool (rq 0).neg,.sl (iv (rq 0).m),.sl (iv (rq 0).d),.bool false,.bool false]]⟩):=⟨_,rfl⟩
 have n64:g6≠g4:=fun e=>by rw[e,b04] at hb6;cases hb6
 have b14:b1 g4=some ⟨8,[zSp]⟩:=by rw[hb1,aG _ _ _ _ (Ne.symm n64)];exact b04
 have b16:b1 g6=some ⟨8,[[.bool (rq 0).neg,.sl (iv (rq 0).m),.sl (iv (rq 0).d),.bool (rq 0).neg,.sl (iv (rq 0).m),.sl (iv (rq 0).d),.bool false,.bool false]]⟩:=by rw[hb1];simp
 have s1:Sub bl b1:=fun x y hx=>by
  have:=s0 x y hx
  rw[hb1,aG _ _ _ _ (fun e=>by rw[e,hb6] at this;cases this)];exact this
 refine cX [(2,.ptr p.v),(3,.ptr q.v),(4,.loc g4 8 0 0),(6,.loc g6 8 0 0)] 36 b1 ⟨rfl,by simp[Pg.v],by rw[hb1];exact Sub.refl _⟩ ?_
 have f6:=aQ s0 hb6
 clear hb1 s0 b04 hb6
 rw[Jh] at h1 h2
 refine aE ?_
 simp[Pg.v]
 refine aD h1 ?_
 simp[RT.c]
 intro g7 hg7 hb7
 refine cP 1 7 (.ptr (.int .i64 (rS o1):: .sl (xs3 n o1)::(S8 n C1 o1).c)) b1 (by simp[hb7]) (by simp[frz,dropB,hb7,V.cl,RT.c]) ?_
 refine aE ?_
 simp[Pg.v]
 refine aD h2 ?_
 simp[RT.c]
 intro g8 hg8 hb8
 refine cP 1 8 (.ptr (.int .i64 (rS o2):: .sl (xs3 n o2)::(S8 n C2 o2).c)) b1 (by simp[hb8]) (by simp[frz,dropB,hb8,V.cl,RT.c]) ?_
 refine cX [(4,.loc g4 8 0 0),(6,.loc g6 8 0 0),(7,.ptr (.int .i64 (rS o1):: .sl (xs3 n o1)::(S8 n C1 o1).c)),(8,.ptr (.int .i64 (rS o2):: .sl (xs3 n o2)::(S8 n C2 o2).c))] 36 b1 ⟨rfl,by simp[RT.c],Sub.refl _⟩ ?_
 rcases o1 with _ | o1
 ·refine aC ?_
  simp[rS,b14,zSp]
  rw[vM]
  exact aK [.agg zSp,.bool false] 2 (by simp[zSp]) (by simp[frz,V.cl,zSp,SP.c,show iv []= [] from rfl]) fun x y hx=>by
   show upd b1 g4 _ x=some y
   rw[aG _ _ _ _ (fun e=>by rw[e,hb4] at hx;cases hx)];exact s1 x y hx
 obtain⟨q2,rfl⟩: ∃q,o2=some q:=by
  cases o2 with
  | none => exact absurd rfl (hb (by simp))
  | some q => exact ⟨q, rfl⟩
 have Ig:=Ne.symm n64
 have e2: ∀d:Rat,1*d=d:=Rat.one_mul
 rcases o1 with _ | x<;>rcases q2 with _ | y
 ·refine aC ?_
  simp[rS,b16,n64,Ig,b14,zSp]
  exact aK [.agg [.bool (rq 0).neg,.sl (iv (rq 0).m),.sl (iv (rq 0).d),.bool (rq 0).neg,.sl (iv (rq 0).m),.sl (iv (rq 0).d),.bool true,.bool true],.bool true] 2 (by simp) (by simp[frz,V.cl,SP.c,vE,sX,ro]) (fun x' y' hx=>by
   show upd (upd b1 g6 _) g4 _ x'=some y'
   have nn:x'≠g6:=fun e=>by rw[e,f6] at hx;cases hx
   rw[aG _ _ _ _ (fun e=>by rw[e,hb4] at hx;cases hx),aG _ _ _ _ nn];exact s1 x' y' hx)
 ·refine aC ?_
  simp[rS,S8,show∀z:Nat→Rat,S8 n C2 (some (some z))=rq (Lp.dot n C2 z) from fun _=>rfl,RT.c,b16,n64,Ig,b14,zSp]
  have hfx:=f2 y rfl
  have hng:=qM (some (Lp.dot n C2 y)) (okS hfx)
  have e1:(-1:Rat)*Lp.dot n C2 y= -(Lp.dot n C2 y):=by grind
  simp only[ro,Option.map_some,RT.c] at hng
  refine aD hng ?_
  simp[RT.c,n64,Ig,b14,zSp]
  exact aK [.agg [.bool (rq (-(Lp.dot n C2 y))).neg,.sl (iv (rq (-(Lp.dot n C2 y))).m),.sl (iv (rq (-(Lp.dot n C2 y))).d),.bool (rq 0).neg,.sl (iv (rq 0).m),.sl (iv (rq 0).d),.bool false,.bool true],.bool true] 2 (by simp) (by simp[frz,V.cl,SP.c,vE,sX,ro,e1]) (fun x' y' hx=>by
   show upd (upd b1 g6 _) g4 _ x'=some y'
   have nn:x'≠g6:=fun e=>by rw[e,f6] at hx;cases hx
   rw[aG _ _ _ _ (fun e=>by rw[e,hb4] at hx;cases hx),aG _ _ _ _ nn];exact s1 x' y' hx)
 ·refine aC ?_
  simp[rS,S8,RT.c,b16,n64,Ig,b14,zSp]
  exact aK [.agg [.bool (rq 0).neg,.sl (iv (rq 0).m),.sl (iv (rq 0).d),.bool (rq (Lp.dot n C1 x)).neg,.sl (iv (rq (Lp.dot n C1 x)).m),.sl (iv (rq (Lp.dot n C1 x)).d),.bool true,.bool false],.bool true] 2 (by simp) (by simp[frz,V.cl,SP.c,vE,sX,ro,e2]) (fun x' y' hx=>by
   show upd (upd b1 g6 _) g4 _ x'=some y'
   have nn:x'≠g6:=fun e=>by rw[e,f6] at hx;cases hx
   rw[aG _ _ _ _ (fun e=>by rw[e,hb4] at hx;cases hx),aG _ _ _ _ nn];exact s1 x' y' hx)
 ·refine aC ?_
  simp[rS,S8,RT.c,b16,n64,Ig,b14,zSp]
  have hfx:=f2 y rfl
  have hng:=qM (some (Lp.dot n C2 y)) (okS hfx)
  have e1:(-1:Rat)*Lp.dot n C2 y= -(Lp.dot n C2 y):=by grind
  simp only[ro,Option.map_some,RT.c] at hng
  refine aD hng ?_
  simp[RT.c,n64,Ig,b14,zSp]
  exact aK [.agg [.bool (rq (-(Lp.dot n C2 y))).neg,.sl (iv (rq (-(Lp.dot n C2 y))).m),.sl (iv (rq (-(Lp.dot n C2 y))).d),.bool (rq (Lp.dot n C1 x)).neg,.sl (iv (rq (Lp.dot n C1 x)).m),.sl (iv (rq (Lp.dot n C1 x)).d),.bool false,.bool false],.bool true] 2 (by simp) (by simp[frz,V.cl,SP.c,vE,sX,ro,e1,e2]) (fun x' y' hx=>by
   show upd (upd b1 g6 _) g4 _ x'=some y'
   have nn:x'≠g6:=fun e=>by rw[e,f6] at hx;cases hx
   rw[aG _ _ _ _ (fun e=>by rw[e,hb4] at hx;cases hx),aG _ _ _ _ nn];exact s1 x' y' hx)
theorem xL (s:Str) (l:List Int) (k:Int) (hs:s.sz) (hl:l.length≤1048576):RO Tryz.prog 54 [.agg s.c,.sl (iv l),.int .i64 k] (.tup [.agg (rY s l k).c,.bool (xP s l k)]):=by
 have hms:=hs.ms
 refine aI Tryz.func54 rfl rfl (by rw[Tryz.ntmps54];simp) fun bl=> ?_
 rw[Tryz.ntmps54,Tryz.results54]
 refine aE ?_
 simp[Str.c]
 intro g hg hbg g6 hg6 h6g hb6
 obtain⟨b0,hb0⟩: ∃b0,b0=upd bl g6 (some ⟨8,[zSp]⟩):=⟨_,rfl⟩
 refine cP 1 3 (.ptr s.c) b0 (by rw[hb0];intro z b hz;simp only[aA,zSp] at hz ⊢;grind) (by simp[frz,dropB,hb0,hbg,h6g,Ne.symm h6g,V.cl,Str.c]) ?_
 refine cX [(1,.sl (iv l)),(2,.int .i64 k),(3,.ptr s.c),(6,.loc g6 8 0 0)] 33 b0 ⟨rfl,by simp[Str.c],Sub.refl _⟩ ?_
 have b06:b0 g6=some ⟨8,[zSp]⟩:=by rw[hb0];simp
 have s0:Sub bl b0:=fun x y hx=>by rw[hb0,aG _ _ _ _ (fun e=>by rw[e,hb6] at hx;cases hx)];exact hx
 clear hb0
 refine aE ?_
 simp[Str.c]
 refine bQ [(1,.sl (iv l)),(2,.int .i64 k),(3,.ptr s.c),(6,.loc g6 8 0 0)] _ b0 20 (.bool (!lY s l k)) ⟨rfl,by simp[Str.c],Sub.refl _⟩ rfl ?_ ?_
 ·simp[Str.c]
  refine aD (E7 s l hs.js hs.ms hs.nm (by omega)) ?_
  cases h1:lOk s l
  ·simp[lY,h1]
  simp[lY,h1,Str.c]
  rw[i64_in (by omega) (by omega)]
  refine aD (jF _ _ _) ?_
  by_cases h4:0≤k
  ·by_cases h5:k<s.ms.length
   ·have h6:k≤(s.ms.length:Int) - 1:=by omega
    simp[h4,h5,h6]
   ·have h6: ¬ k≤(s.ms.length:Int) - 1:=by omega
    simp[h4,h5,h6]
  ·simp[h4]
 cases hp:lY s l k
 ·have hz:rY s l k=⟨⟨false,[],[]⟩,⟨false,[],[]⟩,false,false⟩:=by unfold rY;rw[if_neg (by simp[hp])]
  have hz2:xP s l k=false:=by unfold xP;rw[hp];rfl
  rw[hz,hz2]
  simp[b06,zSp]
  exact aK [.agg zSp,.bool false] 2 (by simp[zSp]) (by simp[frz,V.cl,zSp,SP.c,show iv []= [] from rfl]) fun x y hx=>by
   show upd b0 g6 _ x=some y
   rw[aG _ _ _ _ (fun e=>by rw[e,hb6] at hx;cases hx)];exact s0 x y hx
 have hL:=Ft (uW hp)
 have hz:rY s l k=vE (nC s) (wO (pC (bJ s l k 1))) (wO (pC (bJ s l k (-1)))) (upO s l k 1) (upO s l k (-1)):=by unfold rY;rw[if_pos hp]
 have hz2:xP s l k=(upO s l k 1).isSome:=by unfold xP;rw[hp];rfl
 have h1:=M7 s l hL k 1 (.inl rfl)
 have h2:=M7 s l hL k (-1) (.inr rfl)
 have h3:=W8 (bJ s l k 1) (bJ s l k (-1)) (nC s) (nR s) (lJ hL k 1 (.inl rfl)) (lJ hL k (-1) (.inr rfl)) (Ce s l k)
 rw[hz,hz2]
 unfold upO
 generalize vE (nC s) (wO (pC (bJ s l k 1))) (wO (pC (bJ s l k (-1)))) (Lp.opt (nC s) (nR s) (eQ (bJ s l k 1) (nC s) (nR s)) (nC s+nR s) (wO (pC (bJ s l k 1)))) (Lp.opt (nC s) (nR s) (eQ (bJ s l k (-1)) (nC s) (nR s)) (nC s+nR s) (wO (pC (bJ s l k (-1)))))=R at h3 ⊢
 generalize (Lp.opt (nC s) (nR s) (eQ (bJ s l k 1) (nC s) (nR s)) (nC s+nR s) (wO (pC (bJ s l k 1)))).isSome=ob at h3 ⊢
 simp
 refine aN ?_
 refine aW aM (rem b0 g6) (cW b0 g6) [0,1,2,3,4,5,6,7,8,9,10] 2 (by kernel_rfl) ?_
 simp[Str.c]
 refine aO h1 ?_
 simp[Str.c]
 refine aO h2 ?_
 simp
 refine aO h3 ?_
 simp[SP.c]
 have hsb: ∀X,Sub (rem b0 g6) (upd b0 g6 X):=fun X z y hz=>by
  rw[aF] at hz
  rw[aA]
  grind
 refine Dz 11 ?_
 simp[b06,zSp]
 refine⟨by first | exact cW b0 g6 | exact hsb _,Dz 12 ?_⟩
 simp
 refine⟨by first | exact cW b0 g6 | exact hsb _,Dy ?_⟩
 simp
 refine aC ?_
 simp
 exact aK [.agg R.c,.bool ob] 2 (by simp[SP.c]) (by simp[frz,V.cl,SP.c]) fun x y hx=>by
  show upd b0 g6 _ x=some y
  rw[aG _ _ _ _ (fun e=>by rw[e,hb6] at hx;cases hx)];exact s0 x y hx
theorem S3 {x:Option Rat} (h:okQ x):(ro x).le 1048576:=⟨Nat.le_trans (ro_le h).1 (by decide),Nat.le_trans (ro_le h).2 (by decide)⟩
theorem Ve {n:Nat} {C D:Nat→Rat} {o q:Option (Option (Nat→Rat))} (h1: ∀x,o=some (some x)→fits (Lp.dot n C x)) (h2: ∀x,q=some (some x)→fits (Lp.dot n D x)):(vE n C D o q).le 1048576:=by
 have z:(⟨⟨false,[],[]⟩,⟨false,[],[]⟩,false,false⟩:SP).le 1048576:=⟨⟨by simp,by simp⟩,⟨by simp,by simp⟩⟩
 rcases o with _ | o
 ·rw[vM];exact z
 rcases q with _ | q
 ·exact z
 refine⟨?_,?_⟩
 ·rcases q with _ | y
  ·exact S3 (okS (fits_int (n:=0) (by decide)))
  ·have hf:=h2 y rfl
   have e:(-1:Rat)*Lp.dot n D y= -(Lp.dot n D y):=by grind
   show(ro (some (-1*Lp.dot n D y))).le 1048576
   rw[e];exact S3 (uH (okS hf))
 ·rcases o with _ | x
  ·exact S3 (okS (fits_int (n:=0) (by decide)))
  ·have hf:=h1 x rfl
   show(ro (some (1*Lp.dot n C x))).le 1048576
   rw[Rat.one_mul];exact S3 (okS hf)
theorem Ti (s:Str) (l:List Int) (k:Int):(rY s l k).le 1048576:=by
 unfold rY
 by_cases h:lY s l k=true
 ·rw[if_pos h]
  have hL:=Ft (uW h)
  exact Ve (fun x e=>qK (lJ hL k 1 (.inl rfl)) e) (fun x e=>qK (lJ hL k (-1) (.inr rfl)) e)
 ·rw[if_neg h]
  exact⟨⟨by simp,by simp⟩,⟨by simp,by simp⟩⟩
end Go.Proofs.YticmgmemnpcbbaaGreat.Vm

namespace Go.Proofs.YticmgmemnpcbbaaGreat.Vm
open Go Go.Proofs
set_option linter.unusedSimpArgs false
set_option linter.unusedVariables false
theorem law_RangeOf_ro (s:Str) (l:List Int) (k:Int) (hs:s.sz) (hl:l.length≤140737488351232) (hk: -9223372036854775808≤k∧k≤9223372036854775807):RO Tryz.prog 10 [.agg s.c,.sl (iv l),.int .i64 k] (.bool true):=by
 refine aI Tryz.func10 rfl rfl (by rw[Tryz.ntmps10];simp) fun bl=> ?_
 rw[Tryz.ntmps10,Tryz.results10]
 refine aC ?_
 simp[Str.c]
 intro gx0 aK3 aOR
 have kp:=nI (bl:=bl) aOR (some ⟨2,[[.sl (jv s.js),.sl (mv s.ms)]]⟩)
 have cZ:upd bl gx0 (some ⟨2,[[.sl (jv s.js),.sl (mv s.ms)]]⟩) gx0=some ⟨2,[[.sl (jv s.js),.sl (mv s.ms)]]⟩:=by simp
 have sb1:Sub bl (upd bl gx0 (some ⟨2,[[.sl (jv s.js),.sl (mv s.ms)]]⟩)):=fun x y hx=>kp x y ((Sub.refl _) x y hx)
 generalize upd bl gx0 (some ⟨2,[[.sl (jv s.js),.sl (mv s.ms)]]⟩)=b1 at *
 clear kp
 refine⟨fun h=> ?_,fun hl1=> ?_⟩
 ·exact aK [_] 0 rfl rfl sb1
 have hl2:l.length≤1048576:=by omega
 refine aD (A1 s _ (by omega) hs.js hs.ms hs.nm) ?_
 try simp[cZ]
 refine⟨fun h=> ?_,fun hzs=> ?_⟩
 ·exact aK [_] 0 rfl rfl sb1
 obtain⟨l1s,l2s,l3s⟩:=Om (s:=s) (left:=1048576) (by omega) (by omega)
 have aXN: -1≤(tV s 1048576)∧(tV s 1048576)≤1048576:=by omega
 have jss:s.js.length≤1048576:=by omega
 have mss:s.ms.length≤1048576:=by omega
 have ts:=zU s jss mss
 have tl:=Ln l hl2
 have hS:=xL s l k ⟨hs.js,hs.ms,hs.nm⟩ (by omega)
 have hI:=oY s l k ⟨hs.js,hs.ms,hs.nm⟩ (by omega)
 have hJ:=xW s l k ⟨hs.js,hs.ms,hs.nm⟩ (by omega)
 have wl:SP.le (rY s l k) 1048576:=Ti s l k
 generalize xP s l k=ob at hS hI hJ
 generalize rY s l k=w at hS hI hJ wl
 have we:=Kc w (SP.Hu wl (by omega))
 refine aD ts ?_
 try simp[cZ]
 refine aD tl ?_
 try simp[cZ]
 refine aD hS ?_
 try simp[cZ,SP.c]
 intro gx1 aXD Sd
 have L6:gx0≠gx1:=fun e=>by rw[←e,cZ] at Sd;cases Sd
 try simp[L6,Ne.symm L6,cZ]
 have kp:=nI (bl:=b1) Sd (some ⟨8,[[.bool w.lo.neg,.sl (iv w.lo.m),.sl (iv w.lo.d),.bool w.hi.neg,.sl (iv w.hi.m),.sl (iv w.hi.d),.bool w.nl,.bool w.nh]]⟩)
 have dH:upd b1 gx1 (some ⟨8,[[.bool w.lo.neg,.sl (iv w.lo.m),.sl (iv w.lo.d),.bool w.hi.neg,.sl (iv w.hi.m),.sl (iv w.hi.d),.bool w.nl,.bool w.nh]]⟩) gx1=some ⟨8,[[.bool w.lo.neg,.sl (iv w.lo.m),.sl (iv w.lo.d),.bool w.hi.neg,.sl (iv w.hi.m),.sl (iv w.hi.d),.bool w.nl,.bool w.nh]]⟩:=by simp
 have sb2:Sub bl (upd b1 gx1 (some ⟨8,[[.bool w.lo.neg,.sl (iv w.lo.m),.sl (iv w.lo.d),.bool w.hi.neg,.sl (iv w.hi.m),.sl (iv w.hi.d),.bool w.nl,.bool w.nh]]⟩)):=fun x y hx=>kp x y (sb1 x y hx)
 generalize upd b1 gx1 (some ⟨8,[[.bool w.lo.neg,.sl (iv w.lo.m),.sl (iv w.lo.d),.bool w.hi.neg,.sl (iv w.hi.m),.sl (iv w.hi.d),.bool w.nl,.bool w.nh]]⟩)=b2 at *
 have cZ:=kp _ _ cZ
 clear kp
 try simp[cZ,dH]
 refine cK (yM s jss mss) fun va0 ga0 cb0 ot fa0 aAG=> ?_
 obtain⟨Ng,Ny,rfl,oa0,c1,c2,c3,c4⟩:=Vy ot
 clear ot
 have Jz:gx0∉ga0:=fun hh=>by have hz:=fa0 _ hh;rw[cZ] at hz;cases hz
 have Iq:gx1∉ga0:=fun hh=>by have hz:=fa0 _ hh;rw[dH] at hz;cases hz
 have aAI: ∀x,x∈ga0→bl x=none:=fun x hx=>aQ sb2 (fa0 x hx)
 have cZ:=aS fa0 aAG cZ
 have dH:=aS fa0 aAG dH
 have aSK:Sub bl cb0:=fun x y hx=>aS fa0 aAG (sb2 x y hx)
 try simp[cZ,dH,c1,c2,c3,c4]
 intro gx2 aXK I6
 have N9:gx0≠gx2:=fun e=>by rw[←e,cZ] at I6;cases I6
 have K3:gx1≠gx2:=fun e=>by rw[←e,dH] at I6;cases I6
 try simp[N9,Ne.symm N9,K3,Ne.symm K3,cZ,dH]
 have kp:=nI (bl:=cb0) I6 (some ⟨2,[[Ng,Ny]]⟩)
 have fA:upd cb0 gx2 (some ⟨2,[[Ng,Ny]]⟩) gx2=some ⟨2,[[Ng,Ny]]⟩:=by simp
 have sb3:Sub bl (upd cb0 gx2 (some ⟨2,[[Ng,Ny]]⟩)):=fun x y hx=>kp x y (aSK x y hx)
 generalize upd cb0 gx2 (some ⟨2,[[Ng,Ny]]⟩)=b3 at *
 have cZ:=kp _ _ cZ
 have dH:=kp _ _ dH
 have Jd:gx2∉ga0:=oa0.not I6
 have oa0:=oa0.bI (bl':=b3) fun x _ y hy=>kp x y hy
 clear kp
 try simp[cZ,dH,fA,c1,c2,c3,c4]
 refine cK (Kp l hl2) fun va1 ga1 cb1 oa1 fa1 Rr=> ?_
 obtain⟨c1,c2⟩:=oa1.one
 have Kd:gx0∉ga1:=fun hh=>by have hz:=fa1 _ hh;rw[cZ] at hz;cases hz
 have Is:gx1∉ga1:=fun hh=>by have hz:=fa1 _ hh;rw[dH] at hz;cases hz
 have Iu:gx2∉ga1:=fun hh=>by have hz:=fa1 _ hh;rw[fA] at hz;cases hz
 have N4: ∀x,x∈ga1→x∉ga0:=fun x hx=>oa0.not (fa1 x hx)
 have aA6: ∀x,x∈ga1→bl x=none:=fun x hx=>aQ sb3 (fa1 x hx)
 have cZ:=aS fa1 Rr cZ
 have dH:=aS fa1 Rr dH
 have fA:=aS fa1 Rr fA
 have oa0:=oa0.bI (bl':=cb1) fun x _ y hy=>aS fa1 Rr hy
 have aJO:Sub bl cb1:=fun x y hx=>aS fa1 Rr (sb3 x y hx)
 try simp[cZ,dH,fA,c1,c2]
 refine Cr 3 (ys:= [.agg s.c,.sl (iv l),.int .i64 k]) (by simp[Gv oa0 1,sT oa1 2];try simp[frz]) hI (Zl _ _) fun vr gr d0 oT fr0 Iv=> ?_
 obtain⟨vs,rfl,oR⟩:=nL.1 oT
 clear oT
 obtain⟨rm,rd',sm,sd',rfl,p1,p2,p3,p4⟩:=Hw oR
 have On:gx0∉gr:=fun hh=>by have hz:=fr0 _ hh;rw[cZ] at hz;cases hz
 have Nc:gx1∉gr:=fun hh=>by have hz:=fr0 _ hh;rw[dH] at hz;cases hz
 have Oy:gx2∉gr:=fun hh=>by have hz:=fr0 _ hh;rw[fA] at hz;cases hz
 have Ba: ∀x,x∈gr→x∉ga0:=fun x hx=>oa0.not (fr0 x hx)
 have Az: ∀x,x∈gr→x∉ga1:=fun x hx=>oa1.not (fr0 x hx)
 have aMC: ∀x,x∈gr→bl x=none:=fun x hx=>aQ aJO (fr0 x hx)
 have cZ:=aS fr0 Iv cZ
 have dH:=aS fr0 Iv dH
 have fA:=aS fr0 Iv fA
 have oa0:=oa0.bI (bl':=d0) fun x _ y hy=>aS fr0 Iv hy
 have oa1:=oa1.bI (bl':=d0) fun x _ y hy=>aS fr0 Iv hy
 have sd0:Sub bl d0:=fun x y hx=>aS fr0 Iv (aJO x y hx)
 try simp[cZ,dH,fA,p1,p2,p3,p4]
 intro gx3 aXG rW
 have K4:gx0≠gx3:=fun e=>by rw[←e,cZ] at rW;cases rW
 have N0:gx1≠gx3:=fun e=>by rw[←e,dH] at rW;cases rW
 have I5:gx2≠gx3:=fun e=>by rw[←e,fA] at rW;cases rW
 try simp[K4,Ne.symm K4,N0,Ne.symm N0,I5,Ne.symm I5,cZ,dH,fA]
 have kp:=nI (bl:=d0) rW (some ⟨8,[[.bool w.lo.neg,rm,rd',.bool w.hi.neg,sm,sd',.bool w.nl,.bool w.nh]]⟩)
 have iY:upd d0 gx3 (some ⟨8,[[.bool w.lo.neg,rm,rd',.bool w.hi.neg,sm,sd',.bool w.nl,.bool w.nh]]⟩) gx3=some ⟨8,[[.bool w.lo.neg,rm,rd',.bool w.hi.neg,sm,sd',.bool w.nl,.bool w.nh]]⟩:=by simp
 have sb4:Sub bl (upd d0 gx3 (some ⟨8,[[.bool w.lo.neg,rm,rd',.bool w.hi.neg,sm,sd',.bool w.nl,.bool w.nh]]⟩)):=fun x y hx=>kp x y (sd0 x y hx)
 generalize upd d0 gx3 (some ⟨8,[[.bool w.lo.neg,rm,rd',.bool w.hi.neg,sm,sd',.bool w.nl,.bool w.nh]]⟩)=b4 at *
 have cZ:=kp _ _ cZ
 have dH:=kp _ _ dH
 have fA:=kp _ _ fA
 have Jl:gx3∉ga0:=oa0.not rW
 have oa0:=oa0.bI (bl':=b4) fun x _ y hy=>kp x y hy
 have Jm:gx3∉ga1:=oa1.not rW
 have oa1:=oa1.bI (bl':=b4) fun x _ y hy=>kp x y hy
 have Rs:gx3∉gr:=oR.not rW
 have oR:=oR.bI (bl':=b4) fun x _ y hy=>kp x y hy
 clear kp
 try simp[cZ,dH,fA,iY,p1,p2,p3,p4]
 refine bQ [(3,.loc gx0 2 0 0),(1,.sl (iv l)),(2,.int .i64 k),(10,.loc gx2 2 0 0),(11,va1),(8,.loc gx1 8 0 0),(9,.bool ob),(12,.loc gx3 8 0 0),(13,.bool ob)] _ b4 55 (.bool false) ⟨rfl,by simp,Sub.refl _⟩ rfl ?_ ?_
 ·simp[cZ,dH,fA,iY]
  refine aU 3 (ys:= [.agg w.c,.agg w.c]) (by simp[T6 oR 1];simp[frz,SP.c,V.cl]) we rfl ?_
  simp
 try simp[cZ,dH,fA,iY]
 refine cQ aM (by kernel_rfl) ?_
 simp[cZ,dH,fA,iY]
 refine aO ts ?_
 try simp
 refine aA7 3 (zP s s hs.js hs.ms) (by simp[Gv oa0 1];simp[frz,Str.c,V.cl]) rfl ?_
 try simp[cZ,dH,fA,iY]
 refine aD tl ?_
 try simp[cZ,dH,fA,iY]
 refine aU 3 (ys:= [.sl (iv l),.sl (iv l)]) (by simp[sT oa1 2];simp[frz]) (uX l l hl) rfl ?_
 try simp[cZ,dH,fA,iY]
 have bd0:(mkN 1 s)≤4611686018427387000:=by simp only[mkN];omega
 refine vH s 1 _ ga0 oa0 bd0 fun mb0 oa0 k0=> ?_
 have cZ:=k0 gx0 Jz _ cZ
 have dH:=k0 gx1 Iq _ dH
 have fA:=k0 gx2 Jd _ fA
 have iY:=k0 gx3 Jl _ iY
 have oa1:=oa1.bI (bl':=mb0) fun x hx y hy=>k0 x (N4 x hx) y hy
 have oR:=oR.bI (bl':=mb0) fun x hx y hy=>k0 x (Ba x hx) y hy
 have aUA:Sub bl mb0:=fun x y hx=>k0 x (fun h=>by rw[aAI x h] at hx;cases hx) y (sb4 x y hx)
 try simp[cZ,dH,fA,iY]
 have bd1:((mkN 1 s)+l.length)≤4611686018427387000:=by simp only[mkN];omega
 refine O9 l (mkN 1 s) _ ga1 oa1 bd1 fun mb1 oa1 k1=> ?_
 have cZ:=k1 gx0 Kd _ cZ
 have dH:=k1 gx1 Is _ dH
 have fA:=k1 gx2 Iu _ fA
 have iY:=k1 gx3 Jm _ iY
 have oa0:=oa0.bI (bl':=mb1) fun x hx y hy=>k1 x (fun hh=>N4 x hh hx) y hy
 have oR:=oR.bI (bl':=mb1) fun x hx y hy=>k1 x (Az x hx) y hy
 have aS8:Sub bl mb1:=fun x y hx=>k1 x (fun h=>by rw[aA6 x h] at hx;cases hx) y (aUA x y hx)
 try simp[cZ,dH,fA,iY]
 have hKN: ¬ ((((mkN 1 s):Nat):Int)+((l.length:Nat):Int)<0):=by omega
 refine bQ [(3,.loc gx0 2 0 0),(1,.sl (iv l)),(2,.int .i64 k),(10,.loc gx2 2 0 0),(11,va1),(8,.loc gx1 8 0 0),(9,.bool ob),(12,.loc gx3 8 0 0),(13,.bool ob),(14,.int .i64 (((mkN 1 s)+l.length):Nat))] _ mb1 84 (.bool false) ⟨rfl,by simp,Sub.refl _⟩ rfl ?_ ?_
 ·simp[cZ,dH,fA,iY,hKN]
  refine aU 3 (ys:= [.agg w.c,.agg w.c]) (by simp[T6 oR 1];simp[frz,SP.c,V.cl]) we rfl ?_
  simp
 try simp[cZ,dH,fA,iY]
 have bw:vP 1 w≤4611686018427387000:=by obtain⟨⟨_,_⟩,⟨_,_⟩⟩:=wl;unfold vP mL;omega
 refine Q0 w 1 _ gr oR bw fun f0 oR kr=> ?_
 have cZ:=kr gx0 On _ cZ
 have dH:=kr gx1 Nc _ dH
 have fA:=kr gx2 Oy _ fA
 have iY:=kr gx3 Rs _ iY
 have oa0:=oa0.bI (bl':=f0) fun x hx y hy=>kr x (fun hh=>Ba x hh hx) y hy
 have oa1:=oa1.bI (bl':=f0) fun x hx y hy=>kr x (fun hh=>Az x hh hx) y hy
 have sf0:Sub bl f0:=fun x y hx=>kr x (fun h=>by rw[aMC x h] at hx;cases hx) y (aS8 x y hx)
 have hh:=By w 1 bw
 have cL: ¬ (vP 1 w:Int)<0:=by omega
 try simp[cZ,dH,fA,iY,cL]
 refine aU 3 (ys:= [.agg (vB 1 w).c,.int .i64 1]) (by simp[T6 oR 1,show(vB 1 w).lo.neg=w.lo.neg from rfl,show(vB 1 w).hi.neg=w.hi.neg from rfl,show(vB 1 w).nl=w.nl from rfl,show(vB 1 w).nh=w.nh from rfl];simp[frz]) hh rfl ?_
 try simp[cZ,dH,fA,iY,cL]
 refine aD ts ?_
 try simp[cZ,dH,fA,iY]
 refine aD tl ?_
 try simp[cZ,dH,fA,iY]
 refine aD hJ ?_
 try simp[cZ,dH,fA,iY,SP.c]
 intro gx4 aWK oU
 have N7:gx0≠gx4:=fun e=>by rw[←e,cZ] at oU;cases oU
 have M9:gx1≠gx4:=fun e=>by rw[←e,dH] at oU;cases oU
 have K5:gx2≠gx4:=fun e=>by rw[←e,fA] at oU;cases oU
 have M1:gx3≠gx4:=fun e=>by rw[←e,iY] at oU;cases oU
 try simp[N7,Ne.symm N7,M9,Ne.symm M9,K5,Ne.symm K5,M1,Ne.symm M1,cZ,dH,fA,iY]
 have kp:=nI (bl:=f0) oU (some ⟨8,[[.bool w.lo.neg,.sl (iv w.lo.m),.sl (iv w.lo.d),.bool w.hi.neg,.sl (iv w.hi.m),.sl (iv w.hi.d),.bool w.nl,.bool w.nh]]⟩)
 have Uu:upd f0 gx4 (some ⟨8,[[.bool w.lo.neg,.sl (iv w.lo.m),.sl (iv w.lo.d),.bool w.hi.neg,.sl (iv w.hi.m),.sl (iv w.hi.d),.bool w.nl,.bool w.nh]]⟩) gx4=some ⟨8,[[.bool w.lo.neg,.sl (iv w.lo.m),.sl (iv w.lo.d),.bool w.hi.neg,.sl (iv w.hi.m),.sl (iv w.hi.d),.bool w.nl,.bool w.nh]]⟩:=by simp
 have sb5:Sub bl (upd f0 gx4 (some ⟨8,[[.bool w.lo.neg,.sl (iv w.lo.m),.sl (iv w.lo.d),.bool w.hi.neg,.sl (iv w.hi.m),.sl (iv w.hi.d),.bool w.nl,.bool w.nh]]⟩)):=fun x y hx=>kp x y (sf0 x y hx)
 generalize upd f0 gx4 (some ⟨8,[[.bool w.lo.neg,.sl (iv w.lo.m),.sl (iv w.lo.d),.bool w.hi.neg,.sl (iv w.hi.m),.sl (iv w.hi.d),.bool w.nl,.bool w.nh]]⟩)=b5 at *
 have cZ:=kp _ _ cZ
 have dH:=kp _ _ dH
 have fA:=kp _ _ fA
 have iY:=kp _ _ iY
 have aGA:gx4∉ga0:=oa0.not oU
 have oa0:=oa0.bI (bl':=b5) fun x _ y hy=>kp x y hy
 have aF1:gx4∉ga1:=oa1.not oU
 have oa1:=oa1.bI (bl':=b5) fun x _ y hy=>kp x y hy
 have aNK:gx4∉gr:=oR.not oU
 have oR:=oR.bI (bl':=b5) fun x _ y hy=>kp x y hy
 clear kp
 try simp[cZ,dH,fA,iY,Uu]
 refine bQ [(3,.loc gx0 2 0 0),(1,.sl (iv l)),(2,.int .i64 k),(10,.loc gx2 2 0 0),(11,va1),(8,.loc gx1 8 0 0),(9,.bool ob),(12,.loc gx3 8 0 0),(13,.bool ob),(15,.int .i64 (vP 1 w:Nat)),(17,.loc gx4 8 0 0),(18,.bool ob)] _ b5 113 (.bool false) ⟨rfl,by simp,Sub.refl _⟩ rfl ?_ ?_
 ·simp[cZ,dH,fA,iY,Uu,hKN]
  refine aD we ?_
  simp
 try simp[cZ,dH,fA,iY,Uu]
 refine aU 3 (ys:= [.agg (vB 1 w).c,.int .i64 1]) (by simp[T6 oR 1,show(vB 1 w).lo.neg=w.lo.neg from rfl,show(vB 1 w).hi.neg=w.hi.neg from rfl,show(vB 1 w).nl=w.nl from rfl,show(vB 1 w).nh=w.nh from rfl];simp[frz]) hh rfl ?_
 try simp[cZ,dH,fA,iY,Uu,cL]
 exact aK [_] 0 rfl rfl sb5
end Go.Proofs.YticmgmemnpcbbaaGreat.Vm

namespace Go.Proofs.YticmgmemnpcbbaaGreat.lawRangeOf
open Go Go.RowKit Go.ChangeShapes Go.WideShapes Vm
theorem body (xs:List V) (h:sB Tryz.prog Tryz.f10.params.toList xs):RO Tryz.prog 10 xs (.bool true):=by
 rw[Tryz.params10] at h
 obtain⟨c0,ys,rfl,h0,h⟩:=vK h
 obtain⟨c1,ys,rfl,h1,h⟩:=vK h
 obtain⟨c2,ys,rfl,h2,h⟩:=vK h
 obtain rfl:=Mj h
 obtain⟨x0,rfl,y0⟩:=Ie h0
 obtain⟨x1,rfl,y1,z1⟩:=Qo h1
 obtain⟨x2,rfl,y2⟩:=rZ Tryz.underlying3 h2
 rw[Eo Tryz.underlying71,Li Tryz.underlying27,Us Tryz.underlying3]
 exact law_RangeOf_ro x0 x1 x2 ⟨y0.js,y0.ms,y0.names⟩ (by omega) (wf_i64 y2)
set_option maxRecDepth 100000 in
theorem lifted (os:Os) (started:os.Started) (H:Type) (enc:TypeId×Value→H):
  ReturnsInHanded {} Tryz.checked os 10 .any (Rows.fnExactRangeOfSpec.pre6 enc Tryz.prog Tryz.f10 Rows.fnExactRangeOfRow.domain false) (Rows.fnExactRangeOfSpec.post enc Tryz.prog Tryz.f10 false true false false):=by
 refine returnsInHanded_of_change_sized (C:=Tryz.checked) own started (by kernel_rfl) Tryz.func10
  (ChangeSpec.witness6 (enc:=enc) (C:=Tryz.checked) false ⟨#[], #[.agg #[.slice none 0 0,.slice none 0 0],.slice none 0 0,.int .i64 0],[]⟩ 8 (by kernel_rfl) (by kernel_rfl) (by kernel_rfl) (by kernel_rfl)) ?_
 intro W base args ds gs before Fv hW aX3 hsz _
 refine law_calls (tb:=4) rfl rfl Tryz.underlying4 laidOut (by kernel_rfl) (fun ds hds=> ?_) body W base args ds gs before Fv hW hsz
 rw[Tryz.params10] at hds
 first
  | (match ds, hds with | [a], _ => rfl)
  | (match ds, hds with | [a, b], _ => rfl)
  | (match ds, hds with | [a, b, c], _ => rfl)
  | (match ds, hds with | [a, b, c, d], _ => rfl)
  | (match ds, hds with | [a, b, c, d, e], _ => rfl)
  | (match ds, hds with | [a, b, c, d, e, f], _ => rfl)
theorem nH :Rows.fnExactRangeOfRow.holds Tryz.pinned (OpenSpec.ofChange Rows.fnExactRangeOfSpec):=
 OpenClaim.holds_of_wide 10 Tryz.f10 rfl rfl rfl rfl rfl rfl rfl ⟨rfl,rfl,rfl,rfl,rfl⟩ rfl rfl rfl rfl rfl (by kernel_rfl) Tryz.func10 (facts (by kernel_rfl))
  (of_decide_eq_true (by kernel_rfl)) (by unfold Func.isWrapper;first | (rw[if_pos (by decide+kernel)];kernel_rfl)| (rw[if_neg (by decide+kernel)];exact⟨rfl,rfl⟩))
  (fun os started H enc _=>lifted os started H enc)
theorem proved :Rows.FnExactRangeOfSaid:=nH
#print axioms proved
end Go.Proofs.YticmgmemnpcbbaaGreat.lawRangeOf
