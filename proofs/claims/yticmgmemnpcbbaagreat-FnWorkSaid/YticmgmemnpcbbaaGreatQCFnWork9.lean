/- FnWork: for every code the law of virtual work returns true; no condition. -/


import Derived.Test.YticmgmemnpcbbaaGreatQCFnWork8

namespace Go.Proofs.YticmgmemnpcbbaaGreat.Vm
open Go Go.RowKit Go.Proofs
set_option linter.unusedSimpArgs false
set_option linter.unusedVariables false
structure Bm (s : Str) (l : List Int) (x : Nat → Rat) (v : Int) : Prop where
 v0:v≠0
 vl:v.natAbs≤iR
 cm: ∀k,cmN v (16*iR) (dD s x k)
 nn: ∀c,c<nC s→0≤x c
 sol: ∀i,i<nR s→(Lp.S (nC s) fun c=>(pA (cI s l) (nC s) i c:Rat)*x c)=(pB (cI s l) i:Rat)
theorem Bm.bal {s:Str} {l:List Int} {x:Nat→Rat} {v:Int} (h:Bm s l x v):Bal s l (dD s x):=Vf h.sol
theorem Cz :16*iR≤16*jI:=Nat.mul_le_mul_left _ mC
theorem Bm.dcm {s:Str} {l:List Int} {x:Nat→Rat} {v:Int} (h:Bm s l x v):Dcm s (dD s x) v 16:=⟨h.v0,Nat.le_trans h.vl mC,fun k _=>(h.cm k).mono Cz,by decide⟩
theorem zK {s:Str} {l:List Int} (hl:lOk s l=true):(nH s l= [none]∧yJ s l=false)∨ ∃x v,nH s l=mQ s (dD s x)∧yJ s l=true∧Bm s l x v:=by
 have hL:=mL hl
 have hpg:=qB hL
 have hd:nH s l=xW s (Lp.opt (nC s) (nR s) (eQ (cI s l) (nC s) (nR s)) (nC s+nR s) (wO (pC (cI s l)))):=by unfold nH;rw[if_pos hl]
 have hc:yJ s l=A7 (nC s) (nR s) (eQ (cI s l) (nC s) (nR s)):=by unfold yJ Pd;rw[hl];rfl
 rw[hd,hc]
 rcases Hn hpg rfl with ⟨e1,e2⟩| ⟨x,e1,e2⟩
 ·exact .inl ⟨by rw[e1];rfl,e2⟩
 ·obtain⟨v,h1,h2,h3⟩:=Mx hpg e1
  have hb:=(Jy.1 (Lp.L7 e1).1)
  refine .inr ⟨x,v,by rw[e1];exact Ng hL.sok h1 h2 h3,e2,h1,h2,fun k=> ?_,hb.1,hb.2⟩
  have:=Py h3 (Nat.le_refl _) k
  exact this.mono (Nat.mul_le_mul_right _ (Ia hL.sok))

theorem S8 (a b:Int):r6 a - r6 b=r6 (a - b):=by
 have h:=wR (a - b) b
 rw[Int.sub_add_cancel] at h
 rw[←h];grind
theorem Fp {a b:Int} (h:(a - b).natAbs≤1000000000):op2 (· - ·) (q6 a) (q6 b)=q6 (a - b):=by
 show fit (r6 a - r6 b)=some (r6 (a - b))
 rw[S8];unfold fit;rw[if_pos (kU h)]
theorem Vy (a:Int):r6 a*((6:Int):Rat)=(a:Rat):=by
 rw[Rat.mul_comm,sN]
 unfold r6
 rw[show(a:Rat)=mkRat a 1 from(Rat.mkRat_one _).symm,Int.mul_comm]
 exact Rat.mkRat_mul_right (n:=a) (d:=1) (a:=6) (by decide)
def wX (s:Str) (us:List Int) (i:Nat):Int:=if fxd s.js i=true then 0 else lN us (2*idx s.js i)
def wY (s:Str) (us:List Int) (i:Nat):Int:=if fxd s.js i=true then 0 else lN us (2*idx s.js i+1)
structure Mv (s : Str) (us : List Int) : Prop where
 n:us.length=2*(aH s.js).length
 le: ∀u,u∈us→ -60≤u∧u≤60
theorem Qo {us:List Int} (h: ∀u,u∈us→ -60≤u∧u≤60) (i:Nat): -60≤lN us i∧lN us i≤60:=by
 unfold lN
 by_cases hi:i<us.length
 ·rw[List.getD_eq_getElem?_getD,List.getElem?_eq_getElem hi]
  exact h _ (List.getElem_mem hi)
 ·rw[List.getD_eq_getElem?_getD,List.getElem?_eq_none (by omega)]
  simp
theorem sS {s:Str} {us:List Int} (h:Mv s us) (i:Nat):(-60≤wX s us i∧wX s us i≤60)∧(-60≤wY s us i∧wY s us i≤60):=by
 have h1:=Qo h.le (2*idx s.js i)
 have h2:=Qo h.le (2*idx s.js i+1)
 unfold wX wY
 constructor
 ·split<;>omega
 ·split<;>omega
theorem Jl {us:List Int} {k:Nat} (h:k<us.length):(us.map q6).getD k none=q6 (lN us k):=by
 unfold lN
 rw[List.getD_eq_getElem?_getD,List.getElem?_map,List.getElem?_eq_getElem h,List.getD_eq_getElem?_getD,List.getElem?_eq_getElem h];rfl
theorem Iv {s:Str} {us:List Int} (h:Mv s us) {i:Nat} (hi:i<s.js.length):dX s.js (us.map q6) i=q6 (wX s us i)∧dY s.js (us.map q6) i=q6 (wY s us i):=by
 have hn:=h.n
 unfold dX dY wX wY
 cases hf:fxd s.js i
 ·have:=uO hi hf
  rw[if_neg (by decide),if_neg (by decide),if_neg (by decide),if_neg (by decide)]
  exact⟨Jl (by omega),Jl (by omega)⟩
 ·rw[if_pos rfl,if_pos rfl,if_pos rfl,if_pos rfl,q6,←uJ]
  exact⟨rfl,rfl⟩
def lV (s:Str) (us:List Int) (k:Nat):Int:=vx s (mat s k)*(wX s us (mat s k).b.toNat - wX s us (mat s k).a.toNat)+vy s (mat s k)*(wY s us (mat s k).b.toNat - wY s us (mat s k).a.toNat)
theorem iY {a b:Int} (ha: -100≤a∧a≤100) (hb: -120≤b∧b≤120):(a*b).natAbs≤12000:=by
 rw[Int.natAbs_mul]
 exact Nat.mul_le_mul (show a.natAbs≤100 by omega) (show b.natAbs≤120 by omega)
theorem E8 {s:Str} (hs:SOk s) {us:List Int} (h:Mv s us) {k:Nat} (hk:k<s.ms.length):(lV s us k).natAbs≤24000:=by
 obtain⟨v1,v2⟩:=R9 hs (mZ hk)
 obtain⟨a1,a2⟩:=sS h (mat s k).a.toNat
 obtain⟨b1,b2⟩:=sS h (mat s k).b.toNat
 have m1:=iY v1 (b:=wX s us (mat s k).b.toNat - wX s us (mat s k).a.toNat) (by omega)
 have m2:=iY v2 (b:=wY s us (mat s k).b.toNat - wY s us (mat s k).a.toNat) (by omega)
 unfold lV
 omega
theorem Mj {s:Str} (hs:SOk s) {us:List Int} (h:Mv s us) {k:Nat} (hk:k<s.ms.length):yL s (us.map q6) k=q6 (lV s us k):=by
 have hst:=E8 hs h hk
 obtain⟨v1,v2⟩:=R9 hs (mZ hk)
 obtain⟨a1,a2⟩:=sS h (mat s k).a.toNat
 obtain⟨b1,b2⟩:=sS h (mat s k).b.toNat
 obtain⟨⟨i1,i2⟩,i3,i4⟩:=hs.ix _ (mZ hk)
 have m1:=iY v1 (b:=wX s us (mat s k).b.toNat - wX s us (mat s k).a.toNat) (by omega)
 have m2:=iY v2 (b:=wY s us (mat s k).b.toNat - wY s us (mat s k).a.toNat) (by omega)
 obtain⟨dxa,dya⟩:=Iv h (i:=(mat s k).a.toNat) (by omega)
 obtain⟨dxb,dyb⟩:=Iv h (i:=(mat s k).b.toNat) (by omega)
 unfold yL apX apY
 rw[dxa,dya,dxb,dyb,Fp (by omega),Fp (by omega),uD (by omega),uD (by omega)]
 exact R3 (Nat.le_trans hst (by decide))
theorem sT (us:List Int):rq6 us=cV (us.map q6):=by unfold rq6 cV;rw[List.map_map];rfl
theorem Fq {us:List Int} (h: ∀u,u∈us→ -60≤u∧u≤60):okL (us.map q6):=fun x hx=>by
 obtain⟨u,hu,rfl⟩:=List.mem_map.1 hx
 have:=h u hu
 exact tO (by omega)
theorem Ox {s:Str} (qs:sOk s=true) {us:List Int} (h:Mv s us) {k:Nat} (hk:k<s.ms.length):rL s k (rq6 us)=q6 (lV s us k):=by
 have ok:=Fq h.le
 have h1:tH s k (rq6 us)=true:=by
  unfold tH jD
  rw[qs,sT,P9 ok,show dF (us.map q6)=true by simp[dF,q6]]
  have:=h.n
  simp
  omega
 unfold rL
 rw[if_pos h1,sT,N8 ok,Int.toNat_natCast]
 exact Mj (rZ qs) h hk
def wkS (s:Str) (us:List Int) (D:Nat→Rat) (n:Nat):Rat:=Lp.S n fun k=>D k*r6 (lV s us k)
theorem Fy :6*iR≤jI∧16*iR≤jI:=by unfold iR jI;decide+kernel
theorem Wq {v:Int} {L:Nat} {q:Rat} (h:cmN v L q) (w:Int) {M:Nat} (hw:w.natAbs≤M):cmN (6*v) (M*L) (q*r6 w):=by
 obtain⟨a,h1,h2⟩:=h
 refine⟨w*a,?_,?_⟩
 ·rw[Rat.intCast_mul,Rat.intCast_mul,←h1,←Vy w];grind
 ·rw[Int.natAbs_mul];exact Nat.mul_le_mul hw h2
theorem Pa {s:Str} {l:List Int} (hs:SOk s) {us:List Int} (h:Mv s us) {x:Nat→Rat} {v:Int} (hx:Bm s l x v) {n:Nat} (hn:n≤s.ms.length):Vm.fits (wkS s us (dD s x) n)∧(n<s.ms.length→Vm.fits (dD s x n*r6 (lV s us n))):=by
 have hnm:=hs.nm
 obtain⟨c6,c16⟩:=Fy
 have hv0:(6*v:Int)≠0:=by have:=hx.v0;omega
 have hvl:(6*v:Int).natAbs≤jI:=by
  have:=hx.vl
  rw[Int.natAbs_mul]
  have:(6:Int).natAbs*v.natAbs≤6*iR:=Nat.mul_le_mul_left _ this
  omega
 have c1: ∀k,k<s.ms.length→cmN (6*v) (24000*jI) (dD s x k*r6 (lV s us k)):=fun k hk=>(Wq (hx.cm k) _ (E8 hs h hk)).mono (Nat.mul_le_mul_left _ c16)
 refine⟨?_,fun hk=>(c1 n hk).fits hv0 hvl (by omega)⟩
 have h1:=cmN.sum n fun k hk=>c1 k (by omega)
 have h2:n*(24000*jI)≤8*(24000*jI):=Nat.mul_le_mul_right _ (by omega)
 exact(h1.mono (show n*(24000*jI)≤(8*24000)*jI by omega)).fits hv0 hvl (by decide)
def ldI (s:Str) (l us:List Int):Nat→Int
 | 0 => 0
 | n + 1 => ldI s l us n + (lN l (2 * n) * wX s us n + lN l (2 * n + 1) * wY s us n)
theorem L8 {s:Str} {l us:List Int} (hl:LOk s l) (h:Mv s us) (i:Nat):(lN l (2*i)*wX s us i).natAbs≤12000∧(lN l (2*i+1)*wY s us i).natAbs≤12000:=by
 obtain⟨a1,a2⟩:=sS h i
 have l1:=B6 hl (2*i)
 have l2:=B6 hl (2*i+1)
 exact⟨iY (by omega) (by omega),iY (by omega) (by omega)⟩
theorem Hd {s:Str} {l us:List Int} (hl:LOk s l) (h:Mv s us): ∀n,(ldI s l us n).natAbs≤24000*n
 | 0 => by simp [ldI]
 | n + 1 => by
   have ih:=Hd hl h n
   obtain⟨h1,h2⟩:=L8 hl h n
   rw[ldI]
   omega
theorem Qb (s:Str) (l us:List Int): ∀n,r6 (ldI s l us n)=Lp.S n fun i=>(lN l (2*i):Rat)*r6 (wX s us i)+(lN l (2*i+1):Rat)*r6 (wY s us i)
 | 0 => uJ.symm
 | n + 1 => by
   rw[ldI,Lp.S,←Qb s l us n,sN,sN,wR,wR]
theorem G1 {s:Str} (hs:SOk s) {m:Mb} (hm:m∈s.ms):m.a.toNat<s.js.length∧m.b.toNat<s.js.length∧
  (∀i:Nat,(eqX s i m:Rat)=(if i=m.a.toNat then(vx s m:Rat) else 0) - (if i=m.b.toNat then(vx s m:Rat) else 0))∧ ∀i:Nat,(eqY s i m:Rat)=(if i=m.a.toNat then(vy s m:Rat) else 0) - (if i=m.b.toNat then(vy s m:Rat) else 0):=by
 obtain⟨⟨a1,a2⟩,b1,b2⟩:=hs.ix _ hm
 obtain⟨a,ha⟩: ∃a:Nat,m.a=a:=⟨m.a.toNat,by omega⟩
 obtain⟨b,hb⟩: ∃b:Nat,m.b=b:=⟨m.b.toNat,by omega⟩
 have hx:(vx s m:Rat)=gX s b - gX s a:=by unfold vx gX;rw[ha,hb,Rat.intCast_sub]
 have hy:(vy s m:Rat)=gY s b - gY s a:=by unfold vy gY;rw[ha,hb,Rat.intCast_sub]
 refine⟨by omega,by omega,fun i=> ?_,fun i=> ?_⟩
 ·unfold eqX
  rw[ha,hb,Int.toNat_natCast,Int.toNat_natCast]
  by_cases h1:i=a
  ·subst h1
   rw[if_pos rfl,if_pos rfl]
   by_cases h2:i=b
   ·subst h2
    rw[if_pos rfl,hx];grind
   ·rw[if_neg h2];grind
  ·rw[if_neg (show ¬ (i:Int)=a by omega),if_neg h1]
   by_cases h2:i=b
   ·subst h2;rw[if_pos rfl,if_pos rfl,Rat.intCast_neg];grind
   ·rw[if_neg (show ¬ (i:Int)=b by omega),if_neg h2]
    show(0:Rat)=0 - 0
    grind
 ·unfold eqY
  rw[ha,hb,Int.toNat_natCast,Int.toNat_natCast]
  by_cases h1:i=a
  ·subst h1
   rw[if_pos rfl,if_pos rfl]
   by_cases h2:i=b
   ·subst h2
    rw[if_pos rfl,hy];grind
   ·rw[if_neg h2];grind
  ·rw[if_neg (show ¬ (i:Int)=a by omega),if_neg h1]
   by_cases h2:i=b
   ·subst h2;rw[if_pos rfl,if_pos rfl,Rat.intCast_neg];grind
   ·rw[if_neg (show ¬ (i:Int)=b by omega),if_neg h2]
    show(0:Rat)=0 - 0
    grind
theorem Hu {s:Str} (hs:SOk s) (D g:Nat→Rat):(Lp.S s.js.length fun i=>g i*PX s D i)=(Lp.S s.ms.length fun k=>(g (mat s k).a.toNat - g (mat s k).b.toNat)*(vx s (mat s k):Rat)*D k)∧
  (Lp.S s.js.length fun i=>g i*PY s D i)=Lp.S s.ms.length fun k=>(g (mat s k).a.toNat - g (mat s k).b.toNat)*(vy s (mat s k):Rat)*D k:=by
 have h1:=H4 s D (fun i k=>(eqX s i (mat s k):Rat)) g
 have h2:=H4 s D (fun i k=>(eqY s i (mat s k):Rat)) g
 constructor
 ·rw[show(Lp.S s.js.length fun i=>g i*PX s D i)=_ from h1]
  refine Lp.aR fun k hk=> ?_
  obtain⟨ha,hb,ex,_⟩:=G1 hs (mZ hk)
  rw[Lp.aR (g:=fun i=>g i*((if i=(mat s k).a.toNat then(vx s (mat s k):Rat) else 0) - (if i=(mat s k).b.toNat then(vx s (mat s k):Rat) else 0))) fun i _=>by rw[ex],H9 ha hb]
 ·rw[show(Lp.S s.js.length fun i=>g i*PY s D i)=_ from h2]
  refine Lp.aR fun k hk=> ?_
  obtain⟨ha,hb,_,ey⟩:=G1 hs (mZ hk)
  rw[Lp.aR (g:=fun i=>g i*((if i=(mat s k).a.toNat then(vy s (mat s k):Rat) else 0) - (if i=(mat s k).b.toNat then(vy s (mat s k):Rat) else 0))) fun i _=>by rw[ey],H9 ha hb]
theorem Ml (s:Str) (us:List Int) (k:Nat):r6 (lV s us k)=(vx s (mat s k):Rat)*(r6 (wX s us (mat s k).b.toNat) - r6 (wX s us (mat s k).a.toNat))+(vy s (mat s k):Rat)*(r6 (wY s us (mat s k).b.toNat) - r6 (wY s us (mat s k).a.toNat)):=by
 rw[S8,S8,sN,sN,wR];rfl
theorem Cc {s:Str} (hs:SOk s) {l us:List Int} {D:Nat→Rat} (hb:Bal s l D):wkS s us D s.ms.length=r6 (ldI s l us s.js.length):=by
 have z:(Lp.S s.js.length fun i=>r6 (wX s us i)*WX s l D i+r6 (wY s us i)*WY s l D i)=0:=Lp.fV fun i hi=>by
  cases hf:Lc s i
  ·obtain⟨g1,g2⟩:=hb.free hi hf
   rw[g1,g2];grind
  ·have e1:wX s us i=0:=by unfold wX;rw[if_pos (show fxd s.js i=true from hf)]
   have e2:wY s us i=0:=by unfold wY;rw[if_pos (show fxd s.js i=true from hf)]
   rw[e1,e2,←uJ];grind
 have e1:(Lp.S s.js.length fun i=>r6 (wX s us i)*WX s l D i+r6 (wY s us i)*WY s l D i)=((Lp.S s.js.length fun i=>r6 (wX s us i)*PX s D i)+Lp.S s.js.length fun i=>r6 (wY s us i)*PY s D i)+Lp.S s.js.length fun i=>(lN l (2*i):Rat)*r6 (wX s us i)+(lN l (2*i+1):Rat)*r6 (wY s us i):=by
  rw[←Lp.sY,←Lp.sY]
  exact Lp.aR fun i _=>by unfold WX WY;grind
 rw[e1,(Hu hs D fun i=>r6 (wX s us i)).1,(Hu hs D fun i=>r6 (wY s us i)).2,←Qb,←Lp.sY] at z
 have e2:wkS s us D s.ms.length=(-1)*Lp.S s.ms.length fun k=>(r6 (wX s us (mat s k).a.toNat) - r6 (wX s us (mat s k).b.toNat))*(vx s (mat s k):Rat)*D k+(r6 (wY s us (mat s k).a.toNat) - r6 (wY s us (mat s k).b.toNat))*(vy s (mat s k):Rat)*D k:=by
  unfold wkS
  rw[←Lp.fG]
  exact Lp.aR fun k _=>by rw[Ml];grind
 rw[e2];grind
end Go.Proofs.YticmgmemnpcbbaaGreat.Vm

namespace Go.Proofs.YticmgmemnpcbbaaGreat.Vm
open Go Go.Proofs
set_option linter.unusedSimpArgs false
set_option linter.unusedVariables false
theorem J6 {bl:Int→Option Blk} {K:V→(Int→Option Blk)→Prop} (bs:List Int) (n:Nat) (s:Str) (hs:SOk s) (hn:bs.length≤1048576) (hbs: ∀x,x∈bs→0≤x∧x<256) (hn2:n≤1048576)
  (hK: ∀(us:List Int) bl',us.length=2*(aH s.js).length→(∀u,u∈us→ -60≤u∧u≤60)→Sub bl bl'→K (.sl (rv (rq6 us))) bl'):
  bJ Tryz.prog 25 [.sl (bv bs),.int .i64 n,.agg s.c] bl K:=by
 have hnj:=hs.nj
 have hF:=U9 s (by omega)
 have hfl:(aH s.js).length≤6:=Nat.le_trans (eW s.js s.js.length) hnj
 generalize hfr:aH s.js=F at *
 have wF:IntKind.i64.wrap (2*(F.length:Int))=2*F.length:=i64_in (by omega) (by omega)
 refine aZ Tryz.func25 rfl rfl (by rw[Tryz.ntmps25];simp) ?_
 rw[Tryz.ntmps25,Tryz.results25]
 refine aE ?_
 simp[Str.c]
 intro gs Of hgs
 refine bZ 1 5 (.ptr s.c) bl (by simp[hgs]) (by simp[frz,dropB,hgs,Str.c,V.cl]) ?_
 refine aE ?_
 simp
 refine By bs n hn hbs hn2 fun g i h hg0 hg hc=> ?_
 simp
 refine aE ?_
 simp[Str.c]
 intro g0 oN n0g hb0
 refine aE ?_
 simp[Str.c]
 refine aK (fun p:MD=> [(5,.ptr s.c),(7,.loc g 3 0 0),(8,.lsl p.g 3 0 p.us.length)]) (fun p=>p.b)
  (fun p=>p.us.length≤2*F.length∧(∀u,u∈p.us→ -60≤u∧u≤60)∧eS bs p.i∧p.b g=some (cur bs p.i p.h)∧(0≤p.g∧ ¬ p.g=g∧bl p.g=none∧p.b p.g=some ⟨3,rv (rq6 p.us)⟩)∧Sub bl p.b) (fun p=>2*F.length - p.us.length) _ ⟨[],g0,i,h,upd (upd bl g (some (cur bs i h))) g0 (some ⟨3,[]⟩)⟩
  ⟨Nat.zero_le _,by simp,hc,by simp[Ne.symm n0g],⟨oN,n0g,hb0,by simp[rq6,rv]⟩,by intro z b hz;simp only[aA];grind⟩ ⟨rfl,by simp[Str.c],by simp[iv]⟩ ?_
 rintro⟨us,gq,ic,hcu,b⟩ ⟨hul,hub,hcc,hbg,⟨hgq,nqg,hq0,hbq⟩,hsb⟩
 simp only at hul hub hcc hbg hgq nqg hq0 hbq hsb
 refine aC ?_
 simp[Str.c]
 refine aD hF ?_
 simp[wF]
 refine⟨fun hlt=> ?_,fun hlt=> ?_⟩
 ·refine Ca bs ic hcu g hcc hbg fun u i1 h1 b1 hu hc1 hb1 hk1=> ?_
  have aHH:b1 gq=some ⟨3,rv (rq6 us)⟩:=hk1 gq _ nqg hbq
  have Ru:Sub bl b1:=fun x y hy=>by
   have e:x≠g:=fun e=>by rw[e,hg] at hy;cases hy
   exact hk1 x y e (hsb x y hy)
  have eus:rq6 (us++ [u])=rq6 us++ [ro (q6 u)]:=by simp[rq6]
  generalize ro (q6 u)=z at *
  simp[RT.c]
  intro g2 hg2 hb2
  have n2g:g2≠g:=fun e=>by rw[e,hb1] at hb2;cases hb2
  have n2q:g2≠gq:=fun e=>by rw[e,aHH] at hb2;cases hb2
  have aLZ:bl g2=none:=cP Ru hb2
  simp[n2q,Ne.symm n2q,aHH,appV,elsV,Int.not_lt.2 hgq,Int.not_lt.2 hg2]
  refine⟨by omega,fun g3 hg3 hb3=> ?_⟩
  have wk:IntKind.i64.wrap ((us.length:Int)+1)=(us.length:Int)+1:=i64_in (by omega) (by omega)
  obtain⟨n3g,aD6⟩: ¬ g3=g∧bl g3=none:=by
   by_cases e:g3=gq
   ·rw[e];exact⟨nqg,hq0⟩
   ·have h3:=hb3 e
    have h4:b1 g3=none:=by grind
    exact⟨fun e=>(by rw[e,hb1] at h4;cases h4),cP Ru h4⟩
  clear hb3
  simp[wk,aB]
  refine⟨⟨us++ [u],g3,i1,h1,upd (rem (upd b1 g2 (some ⟨3,[z.c]⟩)) gq) g3 (some ⟨3,rv (rq6 us)++ [z.c]⟩)⟩,⟨by simp;omega,fun v hv=> ?_,hc1,?_,⟨hg3,n3g,aD6,?_⟩,?_⟩,by simp;omega,rfl,by simp[Str.c],?_⟩
  ·rcases List.mem_append.1 hv with hv | hv
   ·exact hub v hv
   ·obtain rfl:v=u:=by simpa using hv
    exact hu
  ·simp[aA,aJ,Ne.symm n3g,Ne.symm nqg,Ne.symm n2g,hb1]
  ·simp only[bO,eus,Cb];rfl
  ·intro x y hx
   have e1:x≠g3:=fun e=>by rw[e,aD6] at hx;cases hx
   have e2:x≠g2:=fun e=>by rw[e,aLZ] at hx;cases hx
   have e3:x≠gq:=fun e=>by rw[e,hq0] at hx;cases hx
   simp[aA,aJ,e1,e2,e3,Ru x y hx]
  ·have et:(rv (rq6 us)).take us.length=rv (rq6 us):=by have:=X0 (rq6 us);rwa [S9] at this
   simp[et,RT.c]
 ·have aK7:us.length=2*F.length:=by omega
  refine bZ 1 8 (.sl (rv (rq6 us))) bl hsb (by
   have e:=cM (bl:=b) (bl0:=bl) (sz:=3) (n:=us.length) hgq hq0 (els:=rv (rq6 us)) hbq (by simp) (aEN _)
   simpa using e) ?_
  refine aC ?_
  simp
  rw[aX]
  exact⟨[.sl (rv (rq6 us))],by simp,hK us _ aK7 hub (Sub.refl _)⟩
end Go.Proofs.YticmgmemnpcbbaaGreat.Vm

namespace Go.Proofs.YticmgmemnpcbbaaGreat.Vm
open Go Go.RowKit Go.Proofs
set_option linter.unusedSimpArgs false
set_option linter.unusedVariables false
theorem J9 (x:Option Rat) (hx:okQ x):RO Tryz.prog 95 [fv x] (.agg (ro x).c):=by
 have:=eH 2 (qU x hx) (Av _ 0)
 rwa [show(D.a (dR (ro x))).fz= .agg (ro x).c by simp[D.fz,dR,D.fzL,RT.c]] at this
theorem Ar (x:Option Rat) (hx:okQ x):RO Tryz.prog 97 [.agg (ro x).c] (fv x):=by
 have h:=ro_le hx
 have:=Al (ro x) (by omega) (by omega)
 rwa [L2 hx] at this
theorem pV (x y:Option Rat) (hx:okQ x) (hy:okQ y):RO Tryz.prog 28 [.agg (ro x).c,.agg (ro y).c] (.agg (ro (op2 (· + ·) x y)).c):=by
 have h1:=Ar x hx
 have h2:=Ar y hy
 have h3:=E1 x y hx hy
 have h4:=J9 (op2 (· + ·) x y) (jU _ _ _)
 generalize op2 (· + ·) x y=z at *
 generalize ro x=rx at *
 generalize ro y=ry at *
 generalize ro z=rz at *
 refine aI Tryz.func28 rfl rfl (by rw[Tryz.ntmps28];simp) fun bl=> ?_
 rw[Tryz.ntmps28,Tryz.results28]
 refine aE ?_
 simp[RT.c]
 intro g2 hg2 hb2 g3 hg3 h32 hb3 g4 hg4 h43 h42 hb4
 refine cK ?_
 refine cL aQ [0,1,2,3,4,5] 1 6 (by kernel_rfl) ?_
 simp[h32,h43,h42,Ne.symm h32,Ne.symm h43,Ne.symm h42,hb2,hb3,hb4]
 refine aO h1 ?_
 simp[h32,h43,h42,Ne.symm h32,Ne.symm h43,Ne.symm h42,hb2,hb3,hb4]
 refine aO h2 ?_
 simp
 refine aO h3 ?_
 simp
 refine aO h4 ?_
 simp[RT.c]
 refine bX (i:=6) (by kernel_rfl) rfl rfl rfl ?_
 simp[RT.c]
 refine Dy ?_
 simp
 refine aC ?_
 simp
 exact aN [.agg rz.c] 1 (by simp[RT.c]) (by simp[frz,V.cl,RT.c]) (by intro w b hw;simp only[aA] at hw ⊢;grind)
theorem pW (x y:Option Rat) (hx:okQ x) (hy:okQ y):RO Tryz.prog 29 [.agg (ro x).c,.agg (ro y).c] (.agg (ro (op2 (· * ·) x y)).c):=by
 have h1:=Ar x hx
 have h2:=Ar y hy
 have h3:=R1 x y hx hy
 have h4:=J9 (op2 (· * ·) x y) (jU _ _ _)
 generalize op2 (· * ·) x y=z at *
 generalize ro x=rx at *
 generalize ro y=ry at *
 generalize ro z=rz at *
 refine aI Tryz.func29 rfl rfl (by rw[Tryz.ntmps29];simp) fun bl=> ?_
 rw[Tryz.ntmps29,Tryz.results29]
 refine aE ?_
 simp[RT.c]
 intro g2 hg2 hb2 g3 hg3 h32 hb3 g4 hg4 h43 h42 hb4
 refine cK ?_
 refine cL aQ [0,1,2,3,4,5] 1 6 (by kernel_rfl) ?_
 simp[h32,h43,h42,Ne.symm h32,Ne.symm h43,Ne.symm h42,hb2,hb3,hb4]
 refine aO h1 ?_
 simp[h32,h43,h42,Ne.symm h32,Ne.symm h43,Ne.symm h42,hb2,hb3,hb4]
 refine aO h2 ?_
 simp
 refine aO h3 ?_
 simp
 refine aO h4 ?_
 simp[RT.c]
 refine bX (i:=6) (by kernel_rfl) rfl rfl rfl ?_
 simp[RT.c]
 refine Dy ?_
 simp
 refine aC ?_
 simp
 exact aN [.agg rz.c] 1 (by simp[RT.c]) (by simp[frz,V.cl,RT.c]) (by intro w b hw;simp only[aA] at hw ⊢;grind)

theorem Ke {s:Str} {l:List Int} (h:lOk s l=true):jJ s.js l=true:=by
 unfold lOk at h
 rw[Bool.and_eq_true] at h
 exact h.2
theorem Kz (s:Str) (D:Nat→Rat):stQ (mQ s D)=cV (mQ s D):=by unfold stQ;rw[if_pos (K2 s D)]
theorem U0 {s:Str} {D:Nat→Rat} {v:Int} {M:Nat} (h:Dcm s D v M) (hs:SOk s):tV (cV (mQ s D)) 1048576:=zP h.ok (by have:=hs.nm;simp;omega)

def dTS (s:SP) (b:Bool):D:= .t [.a (dS s),.c (.bool b)]
def aPM (k:Nat) (s:SP):SP:=⟨mkR k s.lo,mkR (Tm k s.lo) s.hi,s.nl,s.nh⟩
theorem O4 (n:Int) (hn: -9223372036854775808≤n∧n≤9223372036854775807):NW Tryz.prog 26 [.int .i64 n] (.a (dR (ro (some (n:Rat))))):=by
 refine iQ Tryz.func26 rfl rfl (by rw[Tryz.ntmps26];simp) fun bl=> ?_
 rw[Tryz.ntmps26,Tryz.results26]
 refine aC ?_
 simp
 intro g2 hg2 hb2
 refine aD (jG n hn) ?_
 simp
 refine gG (qU (some (n:Rat)) (fun p hp=>by cases hp;exact fits_int (by omega))) fun v gs b o f fr=> ?_
 obtain⟨vm,vd,ga,gb,rfl,rfl,hd,om,od⟩:=vQ.1 o
 obtain⟨c1,c2⟩:=om.one
 obtain⟨d1,d2⟩:=od.one
 have e1: ∀x,x∈ga++gb→x≠g2∧bl x=none:=fun x hx=>by have:=f x hx;simp only[aA] at this;split at this<;>simp_all
 have n2:b g2=some ⟨3,[[.bool false,.nils,.nils]]⟩:=dC f fr (by simp)
 have hs:Sub bl b:=fun x y hy=>by
  have z2:x≠g2:=fun h=>by rw[h,hb2] at hy;cases hy
  exact dC f fr (by simp[aA,z2,hy])
 simp[n2,c1,d1]
 refine eE [.agg [.bool (ro (some (n:Rat))).neg,vm,vd]] (ga++gb) (by simp[c1,d1]) ?_ (fun x hx=>(e1 x hx).2) (hs.upd hb2 _)
 refine vQ.2 ⟨vm,vd,ga,gb,rfl,rfl,hd,om.frame fun x hx=> ?_,od.frame fun x hx=> ?_⟩
 ·simp[aA,(e1 x (List.mem_append_left _ hx)).1]
 ·simp[aA,(e1 x (List.mem_append_right _ hx)).1]

theorem mU (n:Int) (hn: -9223372036854775808≤n∧n≤9223372036854775807):RO Tryz.prog 26 [.int .i64 n] (.agg (ro (some (n:Rat))).c):=by
 have:=eH 2 (O4 n hn) (Av _ 0)
 rwa [show(D.a (dR (ro (some (n:Rat))))).fz= .agg (ro (some (n:Rat))).c by simp[D.fz,dR,D.fzL,RT.c]] at this
theorem Nm {s:Str} {l:List Int} (hl:lOk s l=true):dF (nH s l)=yJ s l:=by
 rcases zK hl with ⟨e1,e2⟩| ⟨x,v,e1,e2,_⟩
 ·rw[e1,e2];rfl
 ·rw[e1,e2];exact K2 _ _

def wkC (s:Str) (us:List Int) (D:Nat→Rat) (n:Nat):RT:=ro (some (wkS s us D n))
def ldC (s:Str) (l us:List Int) (n:Nat):RT:=ro (q6 (ldI s l us n))
theorem law_Work_ro (bs:List Int) (hn:bs.length≤140737488351232) (hbs: ∀x,x∈bs→0≤x∧x<256):RO Tryz.prog 4 [.sl (bv bs)] (.bool true):=by
 refine aI Tryz.func4 rfl rfl (by rw[Tryz.ntmps4];simp) fun bl=> ?_
 rw[Tryz.ntmps4,Tryz.results4]
 refine aE ?_
 simp
 refine aE ?_
 simp
 refine⟨fun h=> ?_,fun h=> ?_⟩
 ·exact aM (by simp) rfl rfl
 refine aE ?_
 simp
 refine M9 bs (by omega) hbs fun s l b1 ql h3 hl8 hb1=> ?_
 have qs:sOk s=true:=Od ql
 have hs:=rZ qs
 have hL:=mL ql
 have hsz:=aGN qs
 have hnj:=hs.nj
 have hnm:=hs.nm
 have hll:=(N5 (Ke ql)).1
 simp[Str.c]
 intro g3 hg3 hb3
 have aA8:bl g3=none:=cP hb1 hb3
 refine bZ 1 3 (.ptr s.c) bl (hb1.upd aA8 _) (by simp[frz,dropB,aA8,Str.c,V.cl]) ?_
 refine gV [(0,.sl (bv bs)),(3,.ptr s.c),(4,.sl (iv l))] 133 bl ⟨rfl,by simp[Str.c],Sub.refl _⟩ ?_
 clear hb1 hb3
 refine aE ?_
 simp
 refine aV [(0,.sl (bv bs)),(3,.ptr s.c),(4,.sl (iv l))] _ bl 32 (.bool false) ⟨rfl,by simp[Str.c],Sub.refl _⟩ rfl ?_ ?_
 ·simp[Str.c]
  refine aD (jE s l (by omega) (by omega) hsz.nm (by omega)) ?_
  simp[ql]
  refine aD (fK s (by omega) (by omega) hsz.nm) ?_
  simp[qs]
 have hD:=oM s l hsz (by omega)
 rw[Nm ql] at hD
 have hC:=rQ s l hsz (by omega)
 simp
 refine aE ?_
 simp[Str.c]
 refine aD hD ?_
 simp
 refine aE ?_
 simp[Str.c]
 refine J6 bs 40 s hs (by omega) hbs (by omega) fun us b2 hul hub hb2=> ?_
 have hmv:Mv s us:=⟨hul,hub⟩
 simp
 refine gV [(3,.ptr s.c),(4,.sl (iv l)),(5,.sl (rv (stQ (nH s l)))),(6,.bool (yJ s l)),(7,.sl (rv (rq6 us)))] 133 bl ⟨rfl,by simp[Str.c],hb2⟩ ?_
 clear hb2
 rcases zK ql with ⟨_,e2⟩| ⟨x,v,ex,e2,dx⟩
 ·rw[e2] at hC ⊢
  refine aE ?_
  simp[Str.c]
  refine aD hC ?_
  simp
  exact aM (by simp) rfl rfl
 rw[ex,Kz,e2]
 have hd:=dx.dcm
 have hb:=dx.bal
 have hwk:=fun n (hn:n≤s.ms.length)=>Pa hs hmv dx hn
 clear e2 dx
 generalize dD s x=D at *
 have rl: ∀r:RT,r.c.length=3:=fun r=>rfl
 have r1: ∀r:RT,∀x∈r.c,x.one=true:=fun r x hx=>by simp[RT.c] at hx;rcases hx with rfl | rfl | rfl<;>rfl
 have rt: ∀r:RT,List.take 3 r.c=r.c:=fun r=>rfl
 have rsp: ∀a b:RT,splice a.c 0 b.c=b.c:=fun a b=>rfl
 have h0:=mU 0 (by omega)
 have h0w:RO Tryz.prog 26 [.int .i64 0] (.agg (wkC s us D 0).c):=h0
 have h0l:RO Tryz.prog 26 [.int .i64 0] (.agg (ldC s l us 0).c):=by rw[show ldC s l us 0=ro (some ((0:Int):Rat)) from congrArg (fun q=>ro (some q)) uJ.symm];exact h0
 clear h0
 refine aE ?_
 simp
 refine aE ?_
 simp
 refine aD h0w ?_
 simp[rl,rt]
 intro g8 hg8 hb8
 refine⟨r1 _,?_⟩
 refine aC ?_
 simp[Str.c]
 have hRv:tV (cV (mQ s D)) 1048576:=U0 hd hs
 have hRq: ∀ {k:Nat},k<s.ms.length→ ∀h:k<(cV (mQ s D)).length,(cV (mQ s D))[k]=ro (some (D k)):=fun hk h=>by rw[V7];simp[mQ]
 have hqf:tV (rq6 us) 1048576:=by
  have hfl:(aH s.js).length≤6:=Nat.le_trans (eW s.js s.js.length) hnj
  rw[sT];exact zP (Fq hub) (by simp;omega)
 refine aK (fun k:Nat=> [(3,.ptr s.c),(4,.sl (iv l)),(5,.sl (rv (cV (mQ s D)))),(7,.sl (rv (rq6 us))),(8,.loc g8 3 0 0),(50,.sl (mv s.ms)),(51,.int .i64 s.ms.length),(52,.int .i64 k)])
  (fun k=>upd bl g8 (some ⟨3,[(wkC s us D k).c]⟩)) (fun k=>k≤s.ms.length) (fun k=>s.ms.length - k) _ 0 (Nat.zero_le _) ⟨rfl,by simp[Str.c],Sub.refl _⟩ ?_
 intro k hk0
 refine aC ?_
 simp
 refine⟨fun h1=> ?_,fun h1=> ?_⟩
 ·have hSt:=qE s k (rq6 us) (by omega) (by omega) hsz.nm hqf
  rw[Ox qs hmv h1] at hSt
  have hle:=E8 hs hmv h1
  have f1:wkS s us D (k+1)=wkS s us D k+D k*r6 (lV s us k):=rfl
  have c1:=(hwk k hk0).1
  have c2:=(hwk k hk0).2 h1
  have c3:=(hwk (k+1) (by omega)).1
  have hMu:=pW (some (D k)) (q6 (lV s us k)) (okS (hd.fits h1)) (tO (by omega))
  rw[show op2 (· * ·) (some (D k)) (q6 (lV s us k))=some (D k*r6 (lV s us k)) from Au c2] at hMu
  have hAd:=pV (some (wkS s us D k)) (some (D k*r6 (lV s us k))) (okS c1) (okS c2)
  rw[Au (by rw[←f1];exact c3),←f1] at hAd
  rw[show ro (some (wkS s us D k))=wkC s us D k from rfl,show ro (some (wkS s us D (k+1)))=wkC s us D (k+1) from rfl] at hAd
  have hat:=hRq h1
  have aKJ:(cV (mQ s D)).length=s.ms.length:=by simp
  rw[show(q6 (lV s us k)).isSome=true from rfl] at hSt
  rw[show q6 (lV s us k)=some (r6 (lV s us k)) from rfl] at hSt hMu
  generalize ro (some (D k*r6 (lV s us k)))=r3 at *
  generalize ro (some (r6 (lV s us k)))=r2 at *
  have hrr:((rv (cV (mQ s D)))[k]?)=some (ro (some (D k))).c:=by
   rw[List.getElem?_eq_getElem (by simpa using h1),Bd,hat]
  generalize ro (some (D k))=r0 at *
  generalize cV (mQ s D)=R at *
  simp[Str.c]
  refine aD hSt ?_
  simp[rl,rt]
  intro gs hgs ngs aOH
  refine⟨r1 _,?_⟩
  have Oq:=Ne.symm ngs
  have hRl:R.length=s.ms.length:=aKJ
  refine aV [(3,.ptr s.c),(4,.sl (iv l)),(5,.sl (rv R)),(7,.sl (rv (rq6 us))),(8,.loc g8 3 0 0),(9,.int .i64 k),(10,.loc gs 3 0 0),(11,.bool true),(50,.sl (mv s.ms)),(51,.int .i64 s.ms.length),(52,.int .i64 k)] _
   (upd (upd bl g8 (some ⟨3,[(wkC s us D k).c]⟩)) gs (some ⟨3,[r2.c]⟩)) 71 (.bool false) ⟨rfl,by simp[Str.c],Sub.refl _⟩ rfl ?_ ?_
  ·simp[hRl,Str.c]
  simp
  generalize kW:wkC s us D (k+1)=w1 at *
  generalize wkC s us D k=w0 at *
  refine cL aQ [0,1,2,3,4,5,6,7] 1 8 (by kernel_rfl) ?_
  simp[ngs,Oq,rl,rt,rsp,hrr,hRl]
  refine aO hMu ?_
  simp[ngs,Oq,rl,rt,rsp,hrr,hRl]
  refine aO hAd ?_
  simp[ngs,Oq,rl,rt,rsp,hrr,hRl]
  refine bX (i:=8) (by kernel_rfl) rfl rfl rfl ?_
  simp[ngs,Oq,rl,rt,rsp,hrr,hRl]
  refine⟨r1 _,?_⟩
  refine Dy ?_
  have wi:IntKind.i64.wrap ((k:Int)+1)=k+1:=i64_in (by omega) (by omega)
  simp[wi]
  simp only[aB]
  refine⟨k+1,by omega,by omega,rfl,by simp[wi,Str.c],?_⟩
  rw[kW]
  intro z y hz
  simp only[aA] at hz ⊢
  grind
 ·have hin:k=s.ms.length:=by omega
  subst hin
  have hcW:=okS (hwk s.ms.length (Nat.le_refl _)).1
  have hle:=ro_le hcW
  have hOk:=oX (ro (some (wkS s us D s.ms.length))) (by omega) (by omega)
  rw[aGY hcW] at hOk
  have hws:=Cc hs (us:=us) hb
  have hEq:=G4 (wkC s us D s.ms.length) (ldC s l us s.js.length) (by show(ro (some (wkS s us D s.ms.length))).m.length≤_;omega) (by show(ro (some (wkS s us D s.ms.length))).d.length≤_;omega)
  rw[show decide (wkC s us D s.ms.length=ldC s l us s.js.length)=true by
   unfold wkC ldC q6;rw[hws];simp] at hEq
  rw[show ro (some (wkS s us D s.ms.length))=wkC s us D s.ms.length from rfl] at hOk
  generalize wkC s us D s.ms.length=w0 at *
  refine aD h0l ?_
  simp[rl,rt]
  intro g12 aLX ng sQ
  refine⟨r1 _,?_⟩
  simp[Str.c]
  have ng':=Ne.symm ng
  refine aK (fun i:Nat=> [(4,.sl (iv l)),(7,.sl (rv (rq6 us))),(8,.loc g8 3 0 0),(12,.loc g12 3 0 0),(13,.int .i64 (idx s.js i)),(83,.sl (jv s.js)),(84,.int .i64 s.js.length),(85,.int .i64 i)])
   (fun i=>upd (upd bl g8 (some ⟨3,[w0.c]⟩)) g12 (some ⟨3,[(ldC s l us i).c]⟩)) (fun i=>i≤s.js.length) (fun i=>s.js.length - i) _ 0 (Nat.zero_le _) ⟨rfl,by simp[Str.c,idx,aS],Sub.refl _⟩ ?_
  intro i hi
  have hix:idx s.js (i+1)=idx s.js i+if fxd s.js i=true then 0 else 1:=by
   unfold idx fxd;rw[dI,List.length_append];split<;>rfl
  have wi:IntKind.i64.wrap ((i:Int)+1)=i+1:=i64_in (by omega) (by omega)
  have aO7:idx s.js i≤i:=eW s.js i
  have wx:IntKind.i64.wrap ((idx s.js i:Int)+1)=idx s.js i+1:=i64_in (by omega) (by omega)
  refine aC ?_
  simp
  refine⟨fun h1=> ?_,fun h1=> ?_⟩
  ·have hfx:(s.js[i]).fixed=fxd s.js i:=by unfold fxd;rw[List.getD_eq_getElem?_getD,List.getElem?_eq_getElem h1];rfl
   simp[h1,J.c]
   generalize s.js[i]=jt at *
   intro gj hgj e1 e2 hbj
   have e1':=Ne.symm e1
   have e2':=Ne.symm e2
   refine⟨fun hfj=> ?_,fun hfj=> ?_⟩
   ·rw[hfj] at hfx
    have hxl:=uO h1 hfx.symm
    have hux:wX s us i=lN us (2*idx s.js i):=by unfold wX;rw[←hfx];rfl
    have huy:wY s us i=lN us (2*idx s.js i+1):=by unfold wY;rw[←hfx];rfl
    rw[←hfx,if_neg (by decide)] at hix
    obtain⟨k1,k2⟩:=L8 hL hmv i
    obtain⟨k3,k4⟩:=sS hmv i
    have k5:=B6 hL (2*i)
    have k6:=B6 hL (2*i+1)
    have k7:=Hd hL hmv i
    have gx:=mU (lN l (2*i)) (by omega)
    have gy:=mU (lN l (2*i+1)) (by omega)
    have mx:=pW (some (lN l (2*i):Rat)) (q6 (wX s us i)) (uC (by omega)) (tO (by omega))
    rw[uD (by omega)] at mx
    have my:=pW (some (lN l (2*i+1):Rat)) (q6 (wY s us i)) (uC (by omega)) (tO (by omega))
    rw[uD (by omega)] at my
    have ax:=pV (q6 (ldI s l us i)) (q6 (lN l (2*i)*wX s us i)) (tO (by omega)) (tO (by omega))
    rw[R3 (by omega)] at ax
    have ay:=pV (q6 (ldI s l us i+lN l (2*i)*wX s us i)) (q6 (lN l (2*i+1)*wY s us i)) (tO (by omega)) (tO (by omega))
    rw[R3 (by omega),Int.add_assoc,show ldI s l us i+(lN l (2*i)*wX s us i+lN l (2*i+1)*wY s us i)=ldI s l us (i+1) from rfl] at ay
    rw[show ro (q6 (ldI s l us i))=ldC s l us i from rfl] at ax
    rw[show ro (q6 (ldI s l us (i+1)))=ldC s l us (i+1) from rfl] at ay
    have w1:IntKind.i64.wrap (2*(i:Int))=2*i:=i64_in (by omega) (by omega)
    have w2:IntKind.i64.wrap (2*(i:Int)+1)=2*i+1:=i64_in (by omega) (by omega)
    have w3:IntKind.i64.wrap (2*(idx s.js i:Int))=2*idx s.js i:=i64_in (by omega) (by omega)
    have w4:IntKind.i64.wrap (2*(idx s.js i:Int)+1)=2*idx s.js i+1:=i64_in (by omega) (by omega)
    have q1:(iv l)[2*i]? =some [.int .i64 (lN l (2*i))]:=wD (by omega)
    have q2:(iv l)[2*i+1]? =some [.int .i64 (lN l (2*i+1))]:=wD (by omega)
    have rat: ∀j,j<us.length→(rv (rq6 us))[j]? =some (ro (q6 (lN us j))).c:=fun j hj=>by
     rw[List.getElem?_eq_getElem (by simpa using hj),Bd]
     unfold rq6 lN
     rw[List.getElem_map,List.getD_eq_getElem?_getD,List.getElem?_eq_getElem hj];rfl
    have p1:=rat (2*idx s.js i) (by omega)
    have p2:=rat (2*idx s.js i+1) (by omega)
    rw[←hux] at p1
    rw[←huy] at p2
    have z1:(0:Int)≤2*(i:Int):=by omega
    have z2:(0:Int)≤2*(i:Int)+1:=by omega
    have z3:(0:Int)≤2*(idx s.js i:Int):=by omega
    have z4:(0:Int)≤2*(idx s.js i:Int)+1:=by omega
    have n1:(2*(i:Int)).toNat=2*i:=by omega
    have n2:(2*(i:Int)+1).toNat=2*i+1:=by omega
    have n3:(2*(idx s.js i:Int)).toNat=2*idx s.js i:=by omega
    have n4:(2*(idx s.js i:Int)+1).toNat=2*idx s.js i+1:=by omega
    generalize ro (q6 (ldI s l us i+lN l (2*i)*wX s us i))=m1 at *
    generalize ro (q6 (lN l (2*i)*wX s us i))=r3 at *
    generalize ro (q6 (lN l (2*i+1)*wY s us i))=r4 at *
    generalize ro (q6 (wX s us i))=r5 at *
    generalize ro (q6 (wY s us i))=r6x at *
    generalize ro (some (lN l (2*i):Rat))=r7 at *
    generalize ro (some (lN l (2*i+1):Rat))=r8 at *
    generalize kL:ldC s l us (i+1)=l1 at *
    generalize ldC s l us i=l0 at *
    refine cL aQ [0,1,2,3,4,5,6,7,8,9,10,11,12,13] 1 14 (by kernel_rfl) ?_
    simp[-cH,e1,e2,e1',e2',ng,ng',rl,rt,rsp,w1,w2,w3,w4,q1,q2,p1,p2,z1,z2,z3,z4,n1,n2,n3,n4]
    refine aO gx ?_
    simp[-cH,e1,e2,e1',e2',ng,ng',rl,rt,rsp,w1,w2,w3,w4,q1,q2,p1,p2,z1,z2,z3,z4,n1,n2,n3,n4]
    refine aO mx ?_
    simp[-cH,e1,e2,e1',e2',ng,ng',rl,rt,rsp,w1,w2,w3,w4,q1,q2,p1,p2,z1,z2,z3,z4,n1,n2,n3,n4]
    refine aO ax ?_
    simp[-cH,e1,e2,e1',e2',ng,ng',rl,rt,rsp,w1,w2,w3,w4,q1,q2,p1,p2,z1,z2,z3,z4,n1,n2,n3,n4]
    refine bX (i:=14) (by kernel_rfl) rfl rfl rfl ?_
    simp[-cH,e1,e2,e1',e2',ng,ng',rl,rt,rsp,w1,w2,w3,w4,q1,q2,p1,p2,z1,z2,z3,z4,n1,n2,n3,n4]
    refine⟨r1 _,?_⟩
    refine Dy ?_
    simp[-cH,e1,e2,e1',e2',ng,ng',rl,rt,rsp,w1,w2,w3,w4,q1,q2,p1,p2,z1,z2,z3,z4,n1,n2,n3,n4]
    refine gV [(4,.sl (iv l)),(7,.sl (rv (rq6 us))),(8,.loc g8 3 0 0),(12,.loc g12 3 0 0),(13,.int .i64 (idx s.js i)),(14,.int .i64 i),(83,.sl (jv s.js)),(84,.int .i64 s.js.length),(85,.int .i64 i),(15,.loc gj 4 0 0)] 133 (upd (upd (upd bl g8 (some ⟨3,[w0.c]⟩)) g12 (some ⟨3,[m1.c]⟩)) gj (some ⟨4,[[.str jt.name,.int .i64 jt.x,.int .i64 jt.y,.bool jt.fixed]]⟩)) ⟨rfl,by simp,by intro z y hz;simp only[aA] at hz ⊢;grind⟩ ?_
    clear gx mx ax rat hux huy hfx hxl
    generalize idx s.js i=ax at *
    refine AW.mono (K:=fun e σ'=>e= .normal∧Fit [(4,.sl (iv l)),(7,.sl (rv (rq6 us))),(8,.loc g8 3 0 0),(12,.loc g12 3 0 0),(13,.int .i64 ax),(83,.sl (jv s.js)),(84,.int .i64 s.js.length),(85,.int .i64 i)] 133 (upd (upd bl g8 (some ⟨3,[w0.c]⟩)) g12 (some ⟨3,[l1.c]⟩)) σ') ?_ ?_
    ·refine cL aQ [0,1,2,3,4,5,6,7,8,9,10,11,12,13,14,15] 1 16 (by kernel_rfl) ?_
     simp[-cH,e1,e2,e1',e2',ng,ng',rl,rt,rsp,w1,w2,w3,w4,q1,q2,p1,p2,z1,z2,z3,z4,n1,n2,n3,n4]
     refine aO gy ?_
     simp[-cH,e1,e2,e1',e2',ng,ng',rl,rt,rsp,w1,w2,w3,w4,q1,q2,p1,p2,z1,z2,z3,z4,n1,n2,n3,n4]
     refine aO my ?_
     simp[-cH,e1,e2,e1',e2',ng,ng',rl,rt,rsp,w1,w2,w3,w4,q1,q2,p1,p2,z1,z2,z3,z4,n1,n2,n3,n4]
     refine aO ay ?_
     simp[-cH,e1,e2,e1',e2',ng,ng',rl,rt,rsp,w1,w2,w3,w4,q1,q2,p1,p2,z1,z2,z3,z4,n1,n2,n3,n4]
     refine bX (i:=16) (by kernel_rfl) rfl rfl rfl ?_
     simp[-cH,e1,e2,e1',e2',ng,ng',rl,rt,rsp,w1,w2,w3,w4,q1,q2,p1,p2,z1,z2,z3,z4,n1,n2,n3,n4]
     refine⟨r1 _,?_⟩
     refine Dy ?_
     exact⟨rfl,by simp,by intro z y hz;simp only[aA] at hz ⊢;grind⟩
    ·rintro e ⟨n',sl',b'⟩ ⟨rfl,hn',hsl,hsb⟩
     have s4:sl' 4= .sl (iv l):=hsl (4,.sl (iv l)) (by simp)
     have s7:sl' 7= .sl (rv (rq6 us)):=hsl (7,.sl (rv (rq6 us))) (by simp)
     have s8:sl' 8= .loc g8 3 0 0:=hsl (8,.loc g8 3 0 0) (by simp)
     have s12:sl' 12= .loc g12 3 0 0:=hsl (12,.loc g12 3 0 0) (by simp)
     have s13:sl' 13= .int .i64 ax:=hsl (13,.int .i64 ax) (by simp)
     have s83:sl' 83= .sl (jv s.js):=hsl (83,.sl (jv s.js)) (by simp)
     have s84:sl' 84= .int .i64 s.js.length:=hsl (84,.int .i64 s.js.length) (by simp)
     have s85:sl' 85= .int .i64 i:=hsl (85,.int .i64 i) (by simp)
     obtain rfl:n'=133:=hn'
     simp[s13,s85,wx,wi]
     simp only[aB]
     refine⟨i+1,by omega,by omega,rfl,by simp[s4,s7,s8,s12,s83,s84,hix,wi,wx],?_⟩
     rw[kL]
     exact hsb
   ·rw[hfj] at hfx
    have hux:wX s us i=0:=by unfold wX;rw[←hfx];rfl
    have huy:wY s us i=0:=by unfold wY;rw[←hfx];rfl
    have kL:ldC s l us (i+1)=ldC s l us i:=by unfold ldC;rw[ldI,hux,huy,Int.mul_zero,Int.mul_zero,Int.add_zero,Int.add_zero]
    rw[←hfx,if_pos rfl,Nat.add_zero] at hix
    simp only[aB]
    refine⟨i+1,by omega,by omega,rfl,by simp[wi,hix],?_⟩
    rw[kL]
    intro z y hz
    simp only[aA] at hz ⊢
    grind
  ·have hin:i=s.js.length:=by omega
   subst hin
   generalize ldC s l us s.js.length=l1 at *
   refine aV [(8,.loc g8 3 0 0),(12,.loc g12 3 0 0)] _ (upd (upd bl g8 (some ⟨3,[w0.c]⟩)) g12 (some ⟨3,[l1.c]⟩)) 2 (.bool true) ⟨rfl,by simp,Sub.refl _⟩ rfl ?_ ?_
   ·simp[ng,ng',rl,rt]
    refine aD hOk ?_
    simp[ng,ng',rl,rt]
    refine aD hEq ?_
    simp
   simp
   exact aN [.bool true] 0 (by simp) (by simp[frz]) (by intro z y hz;simp only[aA];grind)
end Go.Proofs.YticmgmemnpcbbaaGreat.Vm

namespace Go.Proofs.YticmgmemnpcbbaaGreat.lawWork
open Go Go.RowKit Go.ChangeShapes Go.WideShapes Vm
theorem body (xs:List V) (h:pD Tryz.prog Tryz.f4.params.toList xs):RO Tryz.prog 4 xs (.bool true):=by
 rw[Tryz.params4] at h
 obtain⟨c0,ys,rfl,h0,h⟩:=Cf h
 obtain rfl:=Kl h
 obtain⟨b0,rfl,y0,z0⟩:=Jr h0
 rw[De Tryz.underlying22]
 exact law_Work_ro b0 y0 z0
set_option maxRecDepth 100000 in
theorem lifted (os:Os) (started:os.Started) (H:Type) (enc:TypeId×Value→H):
  ReturnsInHanded {} Tryz.checked os 4 .any (Rows.fnWorkSpec.pre6 enc Tryz.prog Tryz.f4 Rows.fnWorkRow.domain false) (Rows.fnWorkSpec.post enc Tryz.prog Tryz.f4 false true false false):=by
 refine returnsInHanded_of_change_sized (C:=Tryz.checked) own started (by kernel_rfl) Tryz.func4
  (ChangeSpec.witness6 (enc:=enc) (C:=Tryz.checked) false ⟨#[], #[.slice none 0 0],[]⟩ 8 (by kernel_rfl) (by kernel_rfl) (by kernel_rfl) (by kernel_rfl)) ?_
 intro W base args ds gs before Gh hW aN4 hsz _
 refine law_calls (tb:=4) rfl rfl Tryz.underlying4 laidOut (by kernel_rfl) (fun ds hds=> ?_) body W base args ds gs before Gh hW hsz
 rw[Tryz.params4] at hds
 first
  | (match ds, hds with | [a], _ => rfl)
  | (match ds, hds with | [a, b], _ => rfl)
  | (match ds, hds with | [a, b, c], _ => rfl)
  | (match ds, hds with | [a, b, c, d], _ => rfl)
  | (match ds, hds with | [a, b, c, d, e], _ => rfl)
  | (match ds, hds with | [a, b, c, d, e, f], _ => rfl)
theorem aA6 :Rows.fnWorkRow.holds Tryz.pinned (OpenSpec.ofChange Rows.fnWorkSpec):=
 OpenClaim.holds_of_wide 4 Tryz.f4 rfl rfl rfl rfl rfl rfl rfl ⟨rfl,rfl,rfl,rfl,rfl⟩ rfl rfl rfl rfl rfl (by kernel_rfl) Tryz.func4 (facts (by kernel_rfl))
  (of_decide_eq_true (by kernel_rfl)) (by unfold Func.isWrapper;first | (rw[if_pos (by decide+kernel)];kernel_rfl)| (rw[if_neg (by decide+kernel)];exact⟨rfl,rfl⟩))
  (fun os started H enc _=>lifted os started H enc)
theorem proved :Rows.FnWorkSaid:=aA6
#print axioms proved
end Go.Proofs.YticmgmemnpcbbaaGreat.lawWork
