import Derived.Test.YticmgmemnpcbbaaGreatQCFnExactPretensionOf8

namespace Go.Proofs.YticmgmemnpcbbaaGreat.Vm
open Go Go.RowKit Go.Proofs
set_option linter.unusedSimpArgs false
set_option linter.unusedVariables false
attribute [-simp] C2
def mT (Z:Nat→Nat→Rat) (n j i:Nat):Rat:=Z i n / Z i j
def lvQ (Z:Nat→Nat→Rat) (n j:Nat) (bs:Nat→Nat):Nat→Option Nat
 | 0 => none
 | i + 1 => if 0 < Z i j then match lvQ Z n j bs i with
   | none=>some i
   | some b=>if mT Z n j i<mT Z n j b∨mT Z n j i=mT Z n j b∧bs i<bs b then some i else some b
   else lvQ Z n j bs i
theorem wZ {Z:Nat→Nat→Rat} {n j:Nat} {bs:Nat→Nat} : ∀ {i p:Nat},lvQ Z n j bs i=some p→p<i∧0<Z p j
 | 0, p, h => by cases h
 | i + 1, p, h => by
   rw[lvQ] at h
   split at h
   ·rename_i hp
    split at h
    ·cases h;exact⟨by omega,hp⟩
    ·rename_i b hb
     have:=wZ hb
     split at h
     ·cases h;exact⟨by omega,hp⟩
     ·cases h;exact⟨by omega,this.2⟩
   ·have:=wZ h
    exact⟨by omega,this.2⟩
theorem P3 {m b:Nat} {E:Nat→Nat→Rat} {T:Lp.Tab} {rows:List Nat} {t:SN} (h:View m b E T rows t) {j:Nat} (hj:j<t.n): ∀i,i≤rows.length→
  Lp.leave T b j (rows.take i)=(lvQ t.Z t.n j t.bs i).map fun p=>atR rows p
 | 0, _ => by simp [lvQ, Lp.leave]
 | i + 1, hi => by
   have hlt:i<rows.length:=by omega
   have hlr:i<t.r:=by rw[h.len];exact hlt
   have ih:=P3 h hj i (by omega)
   have e:rows.take (i+1)=rows.take i++ [atR rows i]:=by
    unfold atR;rw[List.take_add_one,List.getElem?_eq_getElem hlt,List.getD_eq_getElem?_getD,List.getElem?_eq_getElem hlt];rfl
   rw[e,Lp.tF,ih,lvQ]
   unfold Lp.lvStep
   rw[←h.z i j hlr hj]
   by_cases hp:0<t.Z i j
   ·rw[if_pos hp,if_pos hp]
    cases hb:lvQ t.Z t.n j t.bs i with
    | none => rfl
    | some q =>
      simp only[Option.map_some]
      have hq:=(wZ hb).1
      have hqr:q<t.r:=by omega
      have e1: ∀p,p<t.r→Lp.quo T b j (atR rows p)=mT t.Z t.n j p:=fun p hp=>by
       unfold Lp.quo mT
       rw[h.z p j hp hj,h.zb p hp]
      rw[e1 i hlr,e1 q hqr,←h.bs i hlr,←h.bs q hqr]
      split<;>rfl
   ·rw[if_neg hp,if_neg hp]
theorem Xx {a b:Rat} (h:a<b):L3 a b= -1:=by
 have:=(Su a b).1 h
 unfold L3 jA;rw[if_pos this]
theorem Ww (a:Rat):L3 a a=0:=by
 unfold L3 jA;rw[if_neg (by omega),if_pos rfl]
theorem Xp {a b:Rat} (h:b<a):L3 a b=1:=by
 have:=(Su b a).1 h
 unfold L3 jA;rw[if_neg (by omega),if_neg (by omega)]
def Th (Z:Nat→Nat→Rat) (n j:Nat):Option Nat→List V
 | none => [.bool false, .nils, .nils]
 | some b => (ro (some (mT Z n j b))).c
theorem Dl {m b:Nat} {E:Nat→Nat→Rat} {T:Lp.Tab} {rows:List Nat} {t:SN} (h:View m b E T rows t) (j:Nat) (hjn:j<t.n):
  RO Tryz.prog 249 [.ptr t.c,.int .i64 j] (.int .i64 (oI (lvQ t.Z t.n j t.bs t.r))):=by
 have hnl:=h.nl
 have hrl:=h.rl
 have hw1:=h.nw
 have htm:=h.tm.z
 clear h
 obtain⟨R,w,n,Z,co,bs⟩:=t
 simp only at hjn hnl hrl hw1 htm
 subst hw1
 have l3: ∀q:Rat,(rq q).c.length=3:=fun _=>rfl
 have t3: ∀q:Rat,(rq q).c.take 3=(rq q).c:=fun _=>rfl
 obtain⟨w,hw⟩: ∃w,n+1=w:=⟨_,rfl⟩
 rw[hw] at htm
 refine aJ Tryz.func249 rfl rfl (by rw[Tryz.ntmps249];simp) fun bl=> ?_
 rw[Tryz.ntmps249,Tryz.results249]
 refine aC ?_
 simp[SN.c,hw]
 intro g6 hg6 hb6
 refine aI (fun i:Nat=> [(0,.ptr [.int .i64 n,.sl (rrs R w Z),.sl (iv (lb R bs)),.sl (rqs w co)]),(1,.int .i64 j),(5,.int .i64 (oI (lvQ Z n j bs i))),(6,.loc g6 3 0 0),(14,.sl (rrs R w Z)),(15,.int .i64 R),(16,.int .i64 i)]) (fun i=>upd bl g6 (some ⟨3,[Th Z n j (lvQ Z n j bs i)]⟩)) (fun i=>i≤R) (fun i=>R - i) _ 0 (Nat.zero_le _) ⟨rfl,by simp[lvQ,oI],sub_eq (by simp[lvQ,Th])⟩ ?_
 intro i hi
 have wi:IntKind.i64.wrap ((i:Int)+1)=(i:Int)+1:=i64_in (by omega) (by omega)
 refine aE ?_
 simp
 refine aE ?_
 simp
 refine⟨fun hiR=> ?_,fun hiR=> ?_⟩
 ·have Lc:(i:Int)<R:=by omega
  have hjw:j<w:=by omega
  have tY:(j:Int)<w:=by omega
  have hnw:n<w:=by omega
  have aVC:(n:Int)<w:=by omega
  have wn:IntKind.i64.wrap ((w:Int) - 1)=(n:Int):=by rw[i64_in (by omega) (by omega)];omega
  have fj:=cN (htm i j hiR hjw)
  have fn:=cN (htm i n hiR hnw)
  refine aO (aT ?_)
  refine aE ?_
  simp[hiR,Lc]
  refine aO ?_
  refine aC ?_
  simp[hjw,tY,l3,t3]
  refine aD (iG fj) ?_
  simp
  have aN2:(0<Z i j) ↔ 0<(Z i j).num:=Lp.Jg.symm
  refine⟨fun hle=> ?_,fun hgt=> ?_⟩
  ·have hlv:lvQ Z n j bs (i+1)=lvQ Z n j bs i:=by
    rw[lvQ,if_neg (by rw[aN2];omega)]
   refine aC ?_
   simp[wi,aB]
   refine⟨i+1,by omega,by omega,rfl,by simp[hlv],sub_eq (by simp[hlv])⟩
  have kV:0<Z i j:=aN2.2 (by omega)
  have hz0:Z i j≠0:=fun e=>by rw[e] at kV;exact absurd kV (by decide)
  have hfq:fits (mT Z n j i):=uC (htm i n hiR hnw) (htm i j hiR hjw) hz0
  have lD:=Q2 (Z i n) (Z i j) fn fj hz0
  rw[show fit (Z i n / Z i j)=some (mT Z n j i) from by have:fits (Z i n / Z i j):=hfq;simp[fit,this,mT]] at lD
  obtain⟨B,hB⟩: ∃B,upd bl g6 (some ⟨3,[Th Z n j (lvQ Z n j bs i)]⟩)=B:=⟨_,rfl⟩
  have hB6:B g6=some ⟨3,[Th Z n j (lvQ Z n j bs i)]⟩:=by rw[←hB];simp
  rw[hB]
  refine aO ?_
  refine qK aL [0,1,2,3,4,5,6,7,8,9,10] 2 (by kernel_rfl) ?_
  simp[hjw,tY,hnw,aVC,l3,t3,wn]
  refine aN lD ?_
  simp
  refine Dz 11 ?_
  simp
  intro g9 hg9 hb9
  have n96: ¬ g9=g6:=fun e=>by rw[e,hB6] at hb9;cases hb9
  refine⟨by simp[hb9],Dz 12 ?_⟩
  simp[RT.c]
  refine⟨by simp[hb9],Dy ?_⟩
  simp
  refine cW 1 9 (.ptr (ro (some (mT Z n j i))).c) B (by intro z b hz;simp only[aA] at hz ⊢;grind) (by simp[frz,dropB,hb9,V.cl,RT.c]) ?_
  refine dJ [(0,.ptr [.int .i64 n,.sl (rrs R w Z),.sl (iv (lb R bs)),.sl (rqs w co)]),(1,.int .i64 j),(5,.int .i64 (oI (lvQ Z n j bs i))),(6,.loc g6 3 0 0),(14,.sl (rrs R w Z)),(15,.int .i64 R),(16,.int .i64 i),(7,.int .i64 i),(9,.ptr (ro (some (mT Z n j i))).c)] 73 B ⟨rfl,by simp,Sub.refl _⟩ ?_
  cases hlv:lvQ Z n j bs i with
  | none =>
    have hnx:lvQ Z n j bs (i+1)=some i:=by rw[lvQ,if_pos kV,hlv]
    rw[hlv] at hB6
    refine aO ?_
    refine vH aL (by kernel_rfl) [(0,.ptr [.int .i64 n,.sl (rrs R w Z),.sl (iv (lb R bs)),.sl (rqs w co)]),(1,.int .i64 j),(5,.int .i64 (-1)),(6,.loc g6 3 0 0),(14,.sl (rrs R w Z)),(15,.int .i64 R),(16,.int .i64 i),(7,.int .i64 i),(9,.ptr (ro (some (mT Z n j i))).c)] _ B 68 (.bool true) ⟨rfl,by simp[oI],Sub.refl _⟩ rfl ?_ ?_
    ·simp
    simp
    refine aC ?_
    simp[hB6,Th,RT.c,l3,t3]
    refine aC ?_
    simp[wi,aB]
    refine⟨i+1,by omega,by omega,rfl,by simp[hnx,oI],?_⟩
    simp only[hnx]
    rw[←hB]
    intro z y hz
    simp only[aA] at hz ⊢
    grind
  | some q =>
    obtain⟨hqi,hqp⟩:=wZ hlv
    have hqR:q<R:=by omega
    have aT7:(q:Int)<R:=by omega
    have hq0:Z q j≠0:=fun e=>by rw[e] at hqp;exact absurd hqp (by decide)
    have hfl:fits (mT Z n j q):=uC (htm q n hqR hnw) (htm q j hqR hjw) hq0
    have R9:=Mo (mT Z n j i) (mT Z n j q) hfq hfl
    have hnx:lvQ Z n j bs (i+1)=if mT Z n j i<mT Z n j q∨mT Z n j i=mT Z n j q∧bs i<bs q then some i else some q:=by rw[lvQ,if_pos kV,hlv]
    rw[hlv] at hB6
    obtain⟨A,hA⟩: ∃A,mT Z n j i=A:=⟨_,rfl⟩
    obtain⟨L,hL⟩: ∃L,mT Z n j q=L:=⟨_,rfl⟩
    have Ms:B g6=some ⟨3,[(ro (some L)).c]⟩:=by rw[hB6,←hL];rfl
    rw[hA,hL] at R9 hnx
    rw[hA]
    refine aO ?_
    refine Uw aL (by kernel_rfl) [(0,.ptr [.int .i64 n,.sl (rrs R w Z),.sl (iv (lb R bs)),.sl (rqs w co)]),(1,.int .i64 j),(5,.int .i64 q),(6,.loc g6 3 0 0),(14,.sl (rrs R w Z)),(15,.int .i64 R),(16,.int .i64 i),(7,.int .i64 i),(9,.ptr (ro (some A)).c)] _ B 68 (.bool (decide (A<L∨A=L∧bs i<bs q))) ⟨rfl,by simp[oI],Sub.refl _⟩ rfl ?_ ?_
    ·have hq1: ¬ (q:Int)<0:=by omega
     rcases(show A<L∨A=L∨L<A by grind) with c | c | c
     ·rw[Xx c] at R9
      simp[hq1,Ms,l3,t3]
      refine Aw R9 ?_
      simp[c]
     ·subst c
      rw[Ww] at R9
      have c2: ¬ A<A:=by grind
      simp[hq1,Ms,l3,t3]
      refine Aw R9 ?_
      simp[c2,Ms,l3,t3]
      refine Aw R9 ?_
      simp[c2,hiR,Lc,hqR,aT7]
     ·rw[Xp c] at R9
      have c2: ¬ A<L:=by grind
      have c3: ¬ A=L:=by grind
      simp[hq1,Ms,l3,t3]
      refine Aw R9 ?_
      simp[c2,c3,Ms,l3,t3]
      refine Aw R9 ?_
      simp[c2,c3]
    by_cases hc:A<L∨A=L∧bs i<bs q
    ·rw[if_pos hc] at hnx
     simp[hc]
     refine aC ?_
     simp[Ms,RT.c,l3,t3]
     refine aC ?_
     simp[wi,aB]
     refine⟨i+1,by omega,by omega,rfl,by simp[hnx,oI],?_⟩
     simp only[hnx]
     rw[←hA,←hB]
     intro z y hz
     simp only[aA] at hz ⊢
     by_cases e:z=g6
     ·rw[if_pos e] at hz ⊢;exact hz
     ·rw[if_neg e] at hz ⊢;rw[if_neg e];exact hz
    ·rw[if_neg hc] at hnx
     simp[hc]
     refine aC ?_
     simp
     refine aC ?_
     simp[wi,aB]
     refine⟨i+1,by omega,by omega,rfl,by simp[hnx,oI],?_⟩
     simp only[hnx]
     rw[←hB,hlv]
     exact Sub.refl _
 ·have hie:i=R:=by omega
  subst hie
  exact aK [.int .i64 (oI (lvQ Z n j bs i))] 0 (by simp) (by simp[frz]) (by simp[hb6])
end Go.Proofs.YticmgmemnpcbbaaGreat.Vm

namespace Go.Proofs.YticmgmemnpcbbaaGreat.Vm
open Go Go.RowKit Go.Proofs
set_option linter.unusedSimpArgs false
set_option linter.unusedVariables false
def snV (rows:List Nat) (n b m:Nat) (w0:Nat→Rat) (T:Lp.Tab):SN:=⟨rows.length,n+1,n,fun p c=>T.X (atR rows p) (if c<n then c else b),fun c=>Lp.rc m w0 T (if c<n then c else b),fun p=>T.bs (atR rows p)⟩
theorem SS.congr {b:Int→Option Blk} {g:SG} {r w n:Nat} {Z Z':Nat→Nat→Rat} {co co':Nat→Rat} {bs bs':Nat→Nat} (h:SS b g ⟨r,w,n,Z,co,bs⟩) (hZ: ∀p c,p<r→c<w→Z p c=Z' p c) (hc: ∀c,c<w→co c=co' c) (hb: ∀p,p<r→bs p=bs' p):SS b g ⟨r,w,n,Z',co',bs'⟩:=by
 have hlb:lb r bs=lb r bs':=List.map_congr_left fun p hp=>by rw[hb p (by simpa using hp)]
 refine⟨h.len,h.top,fun i x hi=> ?_,h.pos,h.hd,?_,?_,h.pT,h.pR,h.pB,h.pC,h.nd⟩
 ·have hlt:i<r:=by have:=h.len;simp only at this;rw[←this];exact(List.getElem?_eq_some_iff.1 hi).1
  rw[h.row i x hi]
  simp only
  rw[bV fun c hc2=>hZ i c hlt hc2]
 ·have:=h.ba
  simp only at this ⊢
  rw[this,hlb]
 ·have:=h.cst
  simp only at this ⊢
  rw[this,bV hc]
structure Qz (n0 m n : Nat) (E : Nat → Nat → Rat) (rows : List Nat) (deep : Bool) (w0 : Nat → Rat) (ok : Lp.Tab → Nat → Prop) : Prop where
 ml:m≤17
 nl:n0+m≤100
 nn:n≤n0+m
 rr:Rows m rows
 dead: ∀T,oW n0 m E rows T→ ∀i,i<m→i∉rows→n≤T.bs i
 wt: ∀c,c<n0+m+1→Lp.isInt (w0 c)∧ -((1000:Nat):Rat)≤w0 c∧w0 c≤((1000:Nat):Rat)
 bas: ∀T,oW n0 m E rows T→ ∀j,j<n→basic rows.length (fun p=>T.bs (atR rows p)) j→ ¬ ok T j
theorem Qz.view {n0 m n:Nat} {E:Nat→Nat→Rat} {rows:List Nat} {deep:Bool} {w0:Nat→Rat} {ok:Lp.Tab→Nat→Prop} (h:Qz n0 m n E rows deep w0 ok) {T:Lp.Tab} (hI:oW n0 m E rows T):View m (n0+m) E T rows (snV rows n (n0+m) m w0 T):=by
 have hl:=h.rr.len
 have hml:=h.ml
 have hnl:=h.nl
 have hnn:=h.nn
 refine⟨hI.z.ti,h.rr,rfl,fun _ _=>rfl,?_,?_,rfl,?_,h.dead T hI,fun p j _ hj=> ?_,fun p _=> ?_,⟨fun i c hi hc=> ?_,fun c hc=> ?_,?_,?_⟩⟩
 ·show n≤100;omega
 ·show rows.length≤100;omega
 ·show n+1≤200;omega
 ·show T.X _ (if j<n then j else n0+m)=_
  rw[if_pos (show j<n from hj)]
 ·show T.X _ (if n<n then n else n0+m)=_
  rw[if_neg (by omega)]
 ·have hi':i<rows.length:=hi
  have hin:=h.rr.lt (cU hi')
  exact Lp.fP (hI.z.sm (c:=if c<n then c else n0+m) hin (by split<;>omega)) (nZ hml)
 ·exact Lp.fP (hI.z.rc h.wt (c:=if c<n then c else n0+m) (by split<;>omega) (by decide)) (vG hml)
 ·show n+1≤200;omega
 ·show rows.length≤100;omega
theorem Hs {n0 m n:Nat} {rows:List Nat} {w0:Nat→Rat} {T:Lp.Tab} (hr:Rows m rows) {pr k:Nat} (hp:pr<rows.length) (hk:k<n) (h0:T.X (atR rows pr) k≠0):
  (∀p c,p<rows.length→zpv (snV rows n (n0+m) m w0 T).Z pr k p c=(snV rows n (n0+m) m w0 (Lp.piv T (atR rows pr) k)).Z p c)∧
  (∀c,cpv (snV rows n (n0+m) m w0 T).Z (snV rows n (n0+m) m w0 T).co pr k c=(snV rows n (n0+m) m w0 (Lp.piv T (atR rows pr) k)).co c)∧
  (∀p,p<rows.length→pvS (snV rows n (n0+m) m w0 T).bs pr k p=(snV rows n (n0+m) m w0 (Lp.piv T (atR rows pr) k)).bs p):=by
 refine⟨fun p c hpl=> ?_,fun c=> ?_,fun p hpl=> ?_⟩
 ·unfold zpv snV
  simp only
  rw[if_pos hk]
  by_cases e:p=pr
  ·subst e;rw[if_pos rfl,Lp.sR]
  ·rw[if_neg e,Lp.nX T k _ fun e2=>e (hr.inj hpl hp e2)]
 ·unfold cpv snV
  simp only
  rw[if_pos hk,Lp.Py w0 T (hr.lt (cU hp)) h0]
 ·unfold pvS snV
  simp only
  by_cases e:p=pr
  ·subst e;rw[if_pos rfl,Lp.eE]
  ·rw[if_neg e,Lp.dE T k fun e2=>e (hr.inj hpl hp e2)]
structure aNX where
 e:Nat
 b:Int→Option Blk
structure aOJ where
 j:Nat
 en:Int
theorem l10Run_cp {bl:Int→Option Blk} {K:V→(Int→Option Blk)→Prop} {n0 m n:Nat} {E:Nat→Nat→Rat} {rows:List Nat} {deep:Bool} {w0:Nat→Rat} {ok:Lp.Tab→Nat→Prop} (h:Qz n0 m n E rows deep w0 ok) (g:SG) (T:Lp.Tab) (e:Nat)
  (hsg: ∀T,oW n0 m E rows T→ ∀j,j<n→ ¬ basic rows.length (fun p=>T.bs (atR rows p)) j→ ∃s:Int,(0<s ↔ ok T j)∧RO Tryz.prog 248 [.ptr (snV rows n (n0+m) m w0 T).c,.int .i64 j,.bool deep] (.int .i64 s))
  (h1:Lp.nx n (n0+m) rows ok (Lp.orb (Lp.nx n (n0+m) rows ok) T e)=none)
  (h2: ∀e',e'<e→(Lp.nx n (n0+m) rows ok (Lp.orb (Lp.nx n (n0+m) rows ok) T e')).isSome=true)
  (hI: ∀e',e'≤e→oW n0 m E rows (Lp.orb (Lp.nx n (n0+m) rows ok) T e'))
  (hS:SS bl g (snV rows n (n0+m) m w0 T))
  (hT: ∀b',Lp.fstP (ok (Lp.orb (Lp.nx n (n0+m) rows ok) T e)) n=none→SS b' g (snV rows n (n0+m) m w0 (Lp.orb (Lp.nx n (n0+m) rows ok) T e))→(∀x y,bl x=some y→x∉g.all→b' x=some y)→K (.bool true) b')
  (hF: ∀b' k,Lp.fstP (ok (Lp.orb (Lp.nx n (n0+m) rows ok) T e)) n=some k→Lp.leave (Lp.orb (Lp.nx n (n0+m) rows ok) T e) (n0+m) k rows=none→(∀x y,bl x=some y→x∉g.all→b' x=some y)→K (.bool false) b'):
  cH Tryz.prog 190 [.loc g.T 4 0 0,.bool deep] bl K:=by
 obtain⟨nxf,hnx⟩: ∃f,Lp.nx n (n0+m) rows ok=f:=⟨_,rfl⟩
 rw[hnx] at h1 h2 hI hT hF
 have hml:=h.ml
 have hnl:=h.nl
 have hnn:=h.nn
 have hrl:=h.rr.len
 refine cP Tryz.func190 rfl rfl (by rw[Tryz.ntmps190];simp) ?_
 rw[Tryz.ntmps190,Tryz.results190]
 refine aC ?_
 simp
 refine aI (fun q:aNX=> [(0,.loc g.T 4 0 0),(1,.bool deep)]) (fun q=>q.b) (fun q=>q.e≤e∧SS q.b g (snV rows n (n0+m) m w0 (Lp.orb nxf T q.e))∧ ∀x y,bl x=some y→x∉g.all→q.b x=some y) (fun q=>e - q.e) _ ⟨0,bl⟩ ⟨Nat.zero_le _,hS,fun _ _ hx _=>hx⟩ ⟨rfl,by simp,Sub.refl _⟩ ?_
 rintro⟨q,b⟩ ⟨hq,hSb,hfb⟩
 simp only at hq hSb hfb
 obtain⟨U,hU⟩: ∃U,Lp.orb nxf T q=U:=⟨_,rfl⟩
 have hIU:=hI q hq
 rw[hU] at hSb hIU
 have hV:=h.view hIU
 have z4:frz b 4 (.loc g.T 4 0 0)=some (.ptr (snV rows n (n0+m) m w0 U).c):=hSb.frz 0
 have bT:b g.T=_:=hSb.hd
 simp only[snV] at bT
 refine aT ?_
 refine aE ?_
 simp
 refine aO ?_
 refine aC ?_
 simp
 refine aI (fun s:aOJ=> [(0,.loc g.T 4 0 0),(1,.bool deep),(5,.int .i64 s.en),(6,.int .i64 s.j)]) (fun _=>b) (fun s=>s.j≤n∧((s.en= -1∧ ∀k,k<s.j→ ¬ ok U k)∨ ∃k:Nat,s.en=k∧Lp.fstP (ok U) n=some k)) (fun s=>n - s.j) _ ⟨0, -1⟩ ⟨Nat.zero_le _,.inl ⟨rfl,fun k hk=>by simp only at hk;omega⟩⟩ ⟨rfl,by simp,Sub.refl _⟩ ?_
 rintro⟨j,en⟩ ⟨hj,hen⟩
 simp only at hj hen
 have wj:IntKind.i64.wrap ((j:Int)+1)=(j:Int)+1:=i64_in (by omega) (by omega)
 refine aO (aO ?_)
 refine bN [(0,.loc g.T 4 0 0),(1,.bool deep),(5,.int .i64 en),(6,.int .i64 j)] _ b 17 (.bool (decide (j<n∧en<0))) ⟨rfl,by simp,Sub.refl _⟩ rfl ?_ ?_
 ·simp[bT]
  by_cases h0:j<n
  ·simp[h0]
   try (intro;omega)
  ·simp[h0]
 simp
 refine aC ?_
 simp
 refine⟨fun hjn cO=> ?_,fun hno=> ?_⟩
 ·have bH:en= -1∧ ∀k,k<j→ ¬ ok U k:=by
   rcases hen with g1 | ⟨k,g1,g2⟩
   ·exact g1
   ·omega
  obtain⟨rfl,bH⟩:=bH
  refine aO (aT ?_)
  refine aO ?_
  have hBs:=Du (snV rows n (n0+m) m w0 U) j hV.rl
  by_cases hok:ok U j
  ·refine bN [(0,.loc g.T 4 0 0),(1,.bool deep),(5,.int .i64 (-1)),(6,.int .i64 j)] _ b 30 (.bool true) ⟨rfl,by simp,Sub.refl _⟩ rfl ?_ ?_
   ·have hnb: ¬ basic rows.length (fun p=>U.bs (atR rows p)) j:=fun hb=>h.bas U hIU j hjn hb hok
    obtain⟨s,hs1,hs2⟩:=hsg U hIU j hjn hnb
    rw[show decide (basic (snV rows n (n0+m) m w0 U).r (snV rows n (n0+m) m w0 U).bs j)=false from decide_eq_false hnb] at hBs
    simp
    refine aX 4 (ys:= [.ptr (snV rows n (n0+m) m w0 U).c,.int .i64 j]) (by simp[z4];simp[frz]) hBs rfl ?_
    simp
    refine aX 4 (ys:= [.ptr (snV rows n (n0+m) m w0 U).c,.int .i64 j,.bool deep]) (by simp[z4];simp[frz]) hs2 rfl ?_
    have aPE:0<s:=hs1.2 hok
    simp[aPE]
   simp
   refine aC ?_
   simp
   refine aC ?_
   simp[wj,aB]
   refine⟨⟨j+1,j⟩,⟨by simp only;omega,.inr ⟨j,rfl,Lp.dW.2 ⟨hjn,hok,bH⟩⟩⟩,by simp only;omega,rfl,by simp,Sub.refl _⟩
  ·refine bN [(0,.loc g.T 4 0 0),(1,.bool deep),(5,.int .i64 (-1)),(6,.int .i64 j)] _ b 30 (.bool false) ⟨rfl,by simp,Sub.refl _⟩ rfl ?_ ?_
   ·simp
    by_cases hb:basic rows.length (fun p=>U.bs (atR rows p)) j
    ·rw[show decide (basic (snV rows n (n0+m) m w0 U).r (snV rows n (n0+m) m w0 U).bs j)=true from decide_eq_true hb] at hBs
     refine aX 4 (ys:= [.ptr (snV rows n (n0+m) m w0 U).c,.int .i64 j]) (by simp[z4];simp[frz]) hBs rfl ?_
     simp
    ·obtain⟨s,hs1,hs2⟩:=hsg U hIU j hjn hb
     rw[show decide (basic (snV rows n (n0+m) m w0 U).r (snV rows n (n0+m) m w0 U).bs j)=false from decide_eq_false hb] at hBs
     refine aX 4 (ys:= [.ptr (snV rows n (n0+m) m w0 U).c,.int .i64 j]) (by simp[z4];simp[frz]) hBs rfl ?_
     simp
     refine aX 4 (ys:= [.ptr (snV rows n (n0+m) m w0 U).c,.int .i64 j,.bool deep]) (by simp[z4];simp[frz]) hs2 rfl ?_
     have: ¬ 0<s:=fun e=>hok (hs1.1 e)
     simp
     omega
   simp
   refine aC ?_
   simp
   refine aC ?_
   simp[wj,aB]
   refine⟨⟨j+1, -1⟩,⟨by simp only;omega,.inl ⟨rfl,fun k hk=> ?_⟩⟩,by simp only;omega,rfl,by simp,Sub.refl _⟩
   by_cases e:k=j
   ·rw[e];exact hok
   ·exact bH k (by simp only at hk;omega)
 ·have hnU:nxf U=match Lp.fstP (ok U) n with | none=>none | some k=>match Lp.leave U (n0+m) k rows with | none=>none | some r=>some (r,k):=by rw[←hnx];rfl
  have hqe:nxf U=none→q=e:=fun hn=>by
   rcases Nat.lt_or_ge q e with g1 | g1
   ·have:=h2 q g1
    rw[hU,hn] at this;cases this
   ·omega
  refine aO ?_
  refine aC ?_
  simp
  rcases hen with ⟨rfl,bH⟩| ⟨k,rfl,hk⟩
  ·have hjn:j=n:=by
    rcases Nat.lt_or_ge j n with g1 | g1
    ·have:=hno g1;omega
    ·omega
   subst hjn
   have hf0:Lp.fstP (ok U) j=none:=Lp.fD.2 bH
   rw[hf0] at hnU
   have hq1:=hqe hnU
   subst hq1
   rw[hU] at hT
   simp
   rw[cE]
   exact⟨[.bool true],by simp,hT b hf0 hSb hfb⟩
  ·obtain⟨hkn,aYK, -⟩:=Lp.dW.1 hk
   rw[hk] at hnU
   simp only at hnU
   have hk1: ¬ (k:Int)<0:=by omega
   simp[hk1]
   have hlv:=P3 hV hkn rows.length (Nat.le_refl _)
   rw[List.take_length] at hlv
   have hLr:=Dl hV k hkn
   refine aE ?_
   simp
   refine aX 4 (ys:= [.ptr (snV rows n (n0+m) m w0 U).c,.int .i64 k]) (by simp[z4];simp[frz]) hLr rfl ?_
   simp
   cases hv:lvQ (snV rows n (n0+m) m w0 U).Z (snV rows n (n0+m) m w0 U).n k (snV rows n (n0+m) m w0 U).bs rows.length with
   | none =>
     have hv':lvQ (snV rows n (n0+m) m w0 U).Z (snV rows n (n0+m) m w0 U).n k (snV rows n (n0+m) m w0 U).bs (snV rows n (n0+m) m w0 U).r=none:=hv
     have hlv:Lp.leave U (n0+m) k rows=none:=hlv.trans (congrArg (Option.map fun p=>atR rows p) hv)
     rw[hlv] at hnU
     have hq1:=hqe hnU
     subst hq1
     rw[hU] at hF
     refine aO ?_
     refine aC ?_
     simp[hv',oI]
     rw[cE]
     exact⟨[.bool false],by simp,hF b k hk hlv hfb⟩
   | some pr =>
     have hv':lvQ (snV rows n (n0+m) m w0 U).Z (snV rows n (n0+m) m w0 U).n k (snV rows n (n0+m) m w0 U).bs (snV rows n (n0+m) m w0 U).r=some pr:=hv
     have hlv:Lp.leave U (n0+m) k rows=some (atR rows pr):=hlv.trans (congrArg (Option.map fun p=>atR rows p) hv)
     rw[hlv] at hnU
     simp only at hnU
     have aEF:=(wZ hv).1
     have kV:(snV rows n (n0+m) m w0 U).Z pr k≠0:=fun e0=>by
      have:=(wZ hv).2
      rw[e0] at this;exact absurd this (by decide)
     have hX:U.X (atR rows pr) k≠0:=by
      have:=hV.z pr k aEF hkn
      rw[this] at kV;exact kV
     have aV9:q<e:=by
      rcases Nat.lt_or_ge q e with g1 | g1
      ·exact g1
      ·have:q=e:=by omega
       subst this
       rw[hU,hnU] at h1;cases h1
     have qE:Lp.orb nxf T (q+1)=Lp.piv U (atR rows pr) k:=by
      rw[Lp.orb,hU,hnU]
     have hV2:=h.view (T:=Lp.piv U (atR rows pr) k) (by have:=hI (q+1) aV9;rwa [qE] at this)
     obtain⟨p1,p2,p3⟩:=Hs (n0:=n0) (w0:=w0) h.rr aEF hkn hX
     have aT6: ¬ (pr:Int)<0:=by omega
     refine aO ?_
     refine aC ?_
     simp[hv',oI,aT6]
     refine aC ?_
     simp
     refine yK g (snV rows n (n0+m) m w0 U) pr k hSb aEF (show k<n+1 by omega) hV.tm kV ⟨fun i c hi hc=> ?_,fun c hc=> ?_,hV.tm.w,hV.tm.r⟩ fun b' hS' hx'=> ?_
     ·show qB (zpv _ pr k i c)
      rw[p1 i c hi];exact hV2.tm.z i c hi hc
     ·show qB (cpv _ _ pr k c)
      rw[p2 c];exact hV2.tm.co c hc
     simp[aB]
     refine⟨⟨q+1,b'⟩,⟨by simp only;omega,?_,fun x y g1 g2=>hx' x y (hfb x y g1 g2) g2⟩,by simp only;omega,rfl,by simp,Sub.refl _⟩
     simp only
     rw[qE]
     exact hS'.congr (fun p c hp _=>p1 p c hp) (fun c _=>p2 c) (fun p hp=>p3 p hp)

def wk :V→V
 | .nils => .sl []
 | x => x
theorem aBU {x:V} (h:x.one=true):(wk x).one=true:=by
 cases x<;>first | exact h | rfl
theorem aD1 {F:Nat→Prop} {w:World} {x:V} {v:Value} (h:Rep F w x v):Rep F w (wk x) v:=by
 cases x with
 | nils => cases h; exact .sl0 none 0 (fun _ => rfl)
 | _ => exact h
theorem aJT {P:Program} {c:Code} {K:Ex→St→Prop} {σ:St} {g:Int} {s:Nat} {els:List (List V)} (hb:σ.bl g=some ⟨s,els⟩)
  (h:AW P c K ⟨σ.n,σ.sl,upd σ.bl g (some ⟨s,els.map fun e=>e.map wk⟩)⟩):AW P c K σ:=by
 intro w0 M F a w hs
 have hm:=hs.mem
 refine h w0 M F a w ⟨⟨hm.os,hm.tape,hm.output,hm.size,hm.frame,hm.kA,hm.fr,?_,fun x b hx h0=> ?_,fun x b hx=> ?_⟩,hs.size,hs.sl,hs.defers⟩
 ·obtain⟨n,hn⟩:=hm.fin
  refine⟨n,fun x hx=> ?_⟩
  have:=hn x hx
  show upd _ _ _ x=none
  by_cases hxg:x=g
  ·subst hxg;rw[hb] at this;cases this
  ·rw[aG _ _ _ _ hxg];exact this
 ·by_cases hxg:x=g
  ·subst hxg;exact hm.own x _ hb h0
  ·simp only at hx
   rw[aG _ _ _ _ hxg] at hx
   exact hm.own x b hx h0
 ·by_cases hxg:x=g
  ·subst hxg
   simp only at hx
   rw[aV] at hx
   cases hx
   have hB:=hm.blk x _ hb
   unfold cY at hB ⊢
   split at hB
   ·rename_i cO
    rw[if_pos cO];simp only at hB ⊢;rw[hB];rfl
   ·rename_i cO
    rw[if_neg cO]
    obtain⟨h1,cs,t,h2,h3,h4⟩:=hB
    refine⟨h1,cs,t,h2,by simpa using h3,fun k e he=> ?_⟩
    simp only[List.getElem?_map] at he
    cases he0:els[k]? with
    | none => rw [he0] at he; cases he
    | some e0 =>
      rw[he0] at he;cases he
      obtain⟨h5,h6⟩:=h4 k e0 he0
      refine⟨by simpa using h5,fun j y hy=> ?_⟩
      rw[List.getElem?_map] at hy
      cases hy0:e0[j]? with
      | none=>rw[hy0] at hy;cases hy
      | some y0=>
        rw[hy0] at hy;cases hy
        obtain⟨h7,v,h8,h9⟩:=h6 j y0 hy0
        exact⟨aBU h7,v,h8,aD1 h9⟩
  ·simp only at hx
   rw[aG _ _ _ _ hxg] at hx
   exact hm.blk x b hx
theorem aVN :biC 0= [.bool false,.sl []]:=by
 simp[bW,aW,iv]
theorem Wn (n:Nat):(List.replicate n [V.bool false,.nils]).map (fun e=>e.map wk)=zv n fun _=>0:=by
 rw[List.map_replicate]
 apply List.ext_getElem
 ·simp
 ·intro i h1 h2
  simp[zv,aVN,wk]
theorem Ns {N i:Nat} (f:Nat→Int) (v:Int) (h:i<N):(zv N f).set i (biC v)=zv N fun c=>if c=i then v else f c:=by
 apply List.ext_getElem
 ·simp
 ·intro j h1 h2
  rw[List.getElem_set,Y5,Y5]
  by_cases e:i=j
  ·rw[if_pos e,if_pos e.symm]
  ·rw[if_neg e,if_neg (Ne.symm e)]
theorem V7 (r:Nat) (bs:Nat→Nat):lb (r+1) bs=lb r bs++ [(bs r:Int)]:=by simp[lb,List.range_succ]
theorem TT.start {b:Int→Option Blk} {T R B F:Int} {t:TN} (hr:t.r=0) (hR:b R=some ⟨1,[]⟩) (hB:b B=some ⟨1,[]⟩) (hT:b T=some ⟨6,[[.lsl R 1 0 0,.bool (decide (t.d<0)),.sl (iv (lim t.d.natAbs)),.lsl B 1 0 0,.int .i64 t.n,.lsl F 1 0 t.n]]⟩)
  (hF:b F=some ⟨1,lv t.n t.fr⟩) (pT:0≤T) (pF:0≤F) (nd: [T,R,B,F].Nodup):TT b ⟨T,R,B,F,[]⟩ t:=
 ⟨⟨hr.symm,hR,fun i g h=>(by cases h),fun g h=>(by cases h),fun i j g h=>(by cases h),fun h=>(by cases h)⟩,by simp only[hr];exact hT,by simp only[hr];exact hB,hF,pT,fun _=>hr,fun _=>hr,pF,nd⟩
theorem TT.snoc {b b':Int→Option Blk} {g:TG} {t:TN} (h:TT b g t) (gN gM gr:Int) (hR:b' gN=some ⟨1,(g.ids++ [gr]).map fun g=> [.lsl g 2 0 (t.n+1)]⟩) (hB:b' gM=some ⟨1,iv (lb (t.r+1) t.bs)⟩)
  (hT:b' g.T=some ⟨6,[[.lsl gN 1 0 (t.r+1),.bool (decide (t.d<0)),.sl (iv (lim t.d.natAbs)),.lsl gM 1 0 (t.r+1),.int .i64 t.n,.lsl g.F 1 0 t.n]]⟩) (hF:b' g.F=b g.F) (hi: ∀x,x∈g.ids→b' x=b x)
  (hr:b' gr=some ⟨2,zv (t.n+1) (t.Z t.r)⟩) (h0:0≤gr) (hN:0≤gN) (hM:0≤gM) (nd:(g.T::gN::gM::g.F::(g.ids++ [gr])).Nodup):
  TT b' ⟨g.T,gN,gM,g.F,g.ids++ [gr]⟩ ⟨t.r+1,t.n,t.Z,t.d,t.bs,t.fr⟩:=by
 have hl:=h.fM.len
 have key: ∀(i:Nat) (x:Int),(g.ids++ [gr])[i]? =some x→(i<t.r∧g.ids[i]? =some x)∨(i=t.r∧x=gr):=fun i x hx=>by
  by_cases e:i<t.r
  ·rw[List.getElem?_append_left (by omega)] at hx;exact .inl ⟨e,hx⟩
  ·rw[List.getElem?_append_right (by omega)] at hx
   have:i - g.ids.length=0:=by
    rcases Nat.eq_zero_or_pos (i - g.ids.length) with h | h
    ·exact h
    ·rw[List.getElem?_eq_none (by simp;omega)] at hx;cases hx
   rw[this] at hx;cases hx
   exact .inr ⟨by omega,rfl⟩
 have nd2:=nd
 simp only[List.nodup_cons,List.mem_cons,not_or] at nd2
 obtain⟨-,⟨-, -,nNi⟩, -, -,ndi⟩:=nd2
 have hgr:gr∉g.ids:=fun hm=>by
  rw[List.nodup_append] at ndi
  exact ndi.2.2 gr hm gr (by simp) rfl
 refine⟨⟨by simp[hl],hR,fun i x hx=> ?_,fun x hx=> ?_,fun i j x hx hy=> ?_,nNi⟩,hT,hB,?_,h.pT,fun hn=>absurd hn (by simp only;omega),fun hn=>absurd hn (by simp only;omega),h.pF,nd⟩
 ·rcases key i x hx with ⟨hlt,hx⟩| ⟨rfl,rfl⟩
  ·rw[hi x (List.mem_of_getElem? hx)];exact h.fM.row i x hx
  ·exact hr
 ·rcases List.mem_append.1 hx with hx | hx
  ·exact h.fM.pos x hx
  ·rw[List.mem_singleton.1 hx];exact h0
 ·rcases key i x hx with ⟨hlt,hx⟩| ⟨e1,e2⟩<;>rcases key j x hy with ⟨aCS,hy⟩| ⟨e3,e4⟩
  ·exact h.fM.inj i j x hx hy
  ·exact absurd (List.mem_of_getElem? hx) (by rw[e4];exact hgr)
  ·exact absurd (List.mem_of_getElem? hy) (by rw[e2];exact hgr)
  ·rw[e1,e3]
 ·simp only;rw[hF];exact h.fre
theorem TT.aMJ {b b':Int→Option Blk} {g:TG} {t:TN} (h:TT b g t) (fr:Nat→Bool) (hF:b' g.F=some ⟨1,lv t.n fr⟩) (hk: ∀x y,x∈g.all→x≠g.F→b x=some y→b' x=some y):TT b' g ⟨t.r,t.n,t.Z,t.d,t.bs,fr⟩:=by
 have nd:=h.nd
 simp only[List.nodup_cons,List.mem_cons,not_or] at nd
 obtain⟨⟨n1,n2,n3,n4⟩,⟨n5,n6,n7⟩,⟨n8,n9⟩,n10,n11⟩:=nd
 refine⟨h.fM.cZ fun x y hx hy=> ?_,hk _ _ (by simp[TG.all]) n3 h.hd,hk _ _ (by simp[TG.all]) n8 h.ba,hF,h.pT,h.pR,h.pB,h.pF,h.nd⟩
 rcases hx with rfl | hx
 ·exact hk _ _ (by simp[TG.all]) n6 hy
 ·exact hk _ _ (by simp[TG.all,hx]) (fun e=>n10 (e▸hx)) hy
theorem dU {m q:Nat} (h:q<m):atR (List.range m) q=q:=by
 unfold atR
 rw[List.getD_eq_getElem?_getD,List.getElem?_eq_getElem (by simpa using h)];simp

theorem Nf (p:Pg) (n m i:Nat) (h:PgN p n m) (hi:i<m):RO Tryz.prog 246 [.agg p.v,.int .i64 i] (.sl (iv (lz n (pA p n i)))):=by
 have hr:=h.row hi
 have hml:=h.ml
 have hnl:=h.nl
 have hal:=h.al
 have hin:i*n≤17*100:=Nat.mul_le_mul (by omega) (by omega)
 have hmn:i*n+n≤m*n:=by
  have:=Nat.mul_le_mul_right n (show i+1≤m by omega)
  rwa [Nat.add_mul,Nat.one_mul] at this
 have e1:(i:Int)*(n:Int)=((i*n:Nat):Int):=(Int.natCast_mul i n).symm
 have e2:((i:Int)+1)*(n:Int)=((i*n+n:Nat):Int):=by rw[Int.add_mul,Int.one_mul,e1];omega
 have w0:IntKind.i64.wrap ((i:Int)+1)=(i:Int)+1:=i64_in (by omega) (by omega)
 have w1:IntKind.i64.wrap ((i:Int)*(n:Int))=(i:Int)*n:=by rw[e1];exact i64_in (by omega) (by omega)
 have w2:IntKind.i64.wrap (((i:Int)+1)*(n:Int))=(i:Int)*n+n:=by rw[e2,i64_in (by omega) (by omega)];simp
 have hc:=h.aP
 have k1:(0:Int)≤(i:Int)*n:=by rw[e1];omega
 have k2:(i:Int)*n≤(i:Int)*n+n:=by omega
 have k3:(i:Int)*n+n≤(p.a.length:Int):=by rw[hal,e1];omega
 have k4:((i:Int)*n).toNat=i*n:=by rw[e1];omega
 have k5:((i:Int)*n+n).toNat=i*n+n:=by rw[e1];omega
 refine aJ Tryz.func246 rfl rfl (by rw[Tryz.ntmps246];simp) fun bl=> ?_
 rw[Tryz.ntmps246,Tryz.results246]
 refine aC ?_
 simp[Pg.v]
 intro g hg hbg
 simp[hc,w0,w1,w2,k1,k2,k3,sliV,k4,k5,hr]
 exact⟨fun x hx=>(U2 _ x hx).symm,aK [.sl (iv (lz n (pA p n i)))] 0 (by simp) (by simp[frz,V.cl]) (by simp[hbg])⟩
theorem SS.snoc {b b':Int→Option Blk} {g:SG} {r w n:Nat} {Z:Nat→Nat→Rat} {co:Nat→Rat} {bs:Nat→Nat} (h:SS b g ⟨r,w,n,Z,co,bs⟩) (gN gM gr:Int) (hR:b' gN=some ⟨1,(g.ids++ [gr]).map fun x=> [.lsl x 3 0 w]⟩) (hB:b' gM=some ⟨1,iv (lb (r+1) bs)⟩)
  (hT:b' g.T=some ⟨4,[[.int .i64 n,.lsl gN 1 0 (r+1),.lsl gM 1 0 (r+1),.lsl g.C 3 0 w]]⟩) (hC:b' g.C=b g.C) (hi: ∀x,x∈g.ids→b' x=b x)
  (hr:b' gr=some ⟨3,rqs w (Z r)⟩) (h0:0≤gr) (hN:0≤gN) (hM:0≤gM) (nd:(SG.all ⟨g.T,gN,gM,g.C,g.ids++ [gr]⟩).Nodup):
  SS b' ⟨g.T,gN,gM,g.C,g.ids++ [gr]⟩ ⟨r+1,w,n,Z,co,bs⟩:=by
 have hl:=h.len
 simp only at hl
 refine⟨by simp[hl],hR,fun i x hx=> ?_,fun x hx=> ?_,hT,hB,by simp only;rw[hC];exact h.cst,h.pT,fun e=>by simp only at e;omega,fun e=>by simp only at e;omega,h.pC,nd⟩
 ·simp only at hx ⊢
  by_cases e:i<r
  ·rw[List.getElem?_append_left (by omega)] at hx
   rw[hi x (List.mem_of_getElem? hx)];exact h.row i x hx
  ·rw[List.getElem?_append_right (by omega)] at hx
   have e0:i - g.ids.length=0:=by
    rcases Nat.eq_zero_or_pos (i - g.ids.length) with q | q
    ·exact q
    ·rw[List.getElem?_eq_none (by simp;omega)] at hx;cases hx
   rw[e0] at hx;cases hx
   rw[show i=r by omega];exact hr
 ·rcases List.mem_append.1 hx with hx | hx
  ·exact h.pos x hx
  ·rw[List.mem_singleton.1 hx];exact h0
noncomputable def fS (p : Pg) (n m i : Nat) : Nat → Rat := fun c => if c < n ∨ c = n + m then Lp.S i fun r => eQ p n m r c else 0
theorem aJW {p:Pg} {n m:Nat} (h:PgN p n m) (i c:Nat): ∃z:Int,eQ p n m i c=(z:Rat)∧z.natAbs≤1000:=⟨_,rfl,Ob h i c⟩
theorem Ao {p:Pg} {n m:Nat} (h:PgN p n m) (c:Nat): ∀i,∃z:Int,fS p n m i c=(z:Rat)∧z.natAbs≤i*1000
 | 0 => ⟨0, by unfold fS; rw [Lp.S]; split <;> rfl, by simp⟩
 | i + 1 => by
   obtain⟨z,h1,h2⟩:=Ao h c i
   obtain⟨y,h3,h4⟩:=aJW h i c
   by_cases e:c<n∨c=n+m
   ·refine⟨z+y,?_,by omega⟩
    unfold fS at h1 ⊢
    rw[if_pos e] at h1 ⊢
    rw[Lp.S,h1,h3,Rat.intCast_add]
   ·refine⟨0,?_,by simp⟩
    unfold fS;rw[if_neg e];rfl
theorem O1 {p:Pg} {n m i:Nat} (h:PgN p n m) (hi:i≤m) (c:Nat):fits (fS p n m i c):=by
 obtain⟨z,h1,h2⟩:=Ao h c i
 rw[h1]
 have:=h.ml
 have:=Nat.mul_le_mul_right 1000 (show i≤17 by omega)
 exact fits_int (by omega)
theorem Y9 {p:Pg} {n m i c:Nat} (e:c<n∨c=n+m):fS p n m (i+1) c=fS p n m i c+eQ p n m i c:=by unfold fS;rw[if_pos e,if_pos e,Lp.S]
theorem Yg {p:Pg} {n m i c:Nat} (e: ¬ (c<n∨c=n+m)):fS p n m (i+1) c=fS p n m i c:=by unfold fS;rw[if_neg e,if_neg e]
theorem Yx {p:Pg} {n m c:Nat} (h:PgN p n m) (hc:c≤n+m):fS p n m m c=Lp.rc m (Lp.bK n m) (Lp.lH n (eQ p n m)) c:=by
 have hS:(Lp.S m fun i=>(Lp.lH n (eQ p n m)).X i c*Lp.bK n m ((Lp.lH n (eQ p n m)).bs i))= - Lp.S m fun i=>eQ p n m i c:=by
  rw[Lp.bS (g:=fun i=>(-1)*eQ p n m i c) fun i hi=>by
   show eQ p n m i c*Lp.bK n m (n+i)=_
   unfold Lp.bK
   rw[if_pos (by omega)];grind,Lp.jV]
  grind
 unfold Lp.rc
 rw[hS]
 unfold fS
 by_cases e:c<n∨c=n+m
 ·rw[if_pos e,show Lp.bK n m c=0 by unfold Lp.bK;rw[if_neg (by omega)]];grind
 ·rw[if_neg e,show Lp.bK n m c= -1 by unfold Lp.bK;rw[if_pos (by omega)]]
  obtain⟨j,hj⟩: ∃j,c=n+j:=⟨c - n,by omega⟩
  have hjm:j<m:=by omega
  rw[hj,Lp.eG (k:=j) hjm,h.init.art j j hjm hjm,if_pos rfl]
  ·grind
  ·intro i hi hne
   rw[h.init.art i j hi hjm,if_neg hne]
structure Ps where
 j:Nat
 gC:Int
 b:Int→Option Blk
structure Z6 where
 k:Nat
 gw:Int
 b:Int→Option Blk
structure Ok where
 i:Nat
 g:SG
 b:Int→Option Blk
structure WOk (b : Int → Option Blk) (f : Nat → Rat) (W : Z6) : Prop where
 blk:W.b W.gw=some ⟨3,rqs W.k f⟩
 new:b W.gw=none
 nn:0≤W.gw
 sub:Sub b W.b
theorem WOk.snoc {b:Int→Option Blk} {f:Nat→Rat} {k:Nat} {gw g4 gN:Int} {bw:Int→Option Blk} (h:WOk b f ⟨k,gw,bw⟩) (h4:bw g4=none) (hN:0≤gN) (hn: ¬ gN=gw→ ¬ gN=g4∧bw gN=none):
  WOk b f ⟨k+1,gN,upd (rem bw gw) gN (some ⟨3,rqs (k+1) f⟩)⟩:=by
 have hbN:b gN=none:=by
  by_cases e:gN=gw
  ·rw[e];exact h.new
  ·cases hv:b gN with
   | none => rfl
   | some y => have := h.sub gN y hv; simp only at this; rw [(hn e).2] at this; cases this
 refine⟨aV _ _ _,hbN,hN,fun x y hx=> ?_⟩
 have x1:x≠gN:=fun e=>by rw[e,hbN] at hx;cases hx
 have x2:x≠gw:=fun e=>by have:=h.new;simp only at this;rw[e,this] at hx;cases hx
 simp only
 rw[aG _ _ _ _ x1,aF,if_neg x2]
 exact h.sub x y hx
theorem C9 {bw:Int→Option Blk} {gw g4 gN:Int} {X Y:Option Blk} (h4:bw g4=none) (h: ¬ gN=gw→ ¬ gN=g4) (hw:g4≠gw):Sub (upd (rem bw gw) gN Y) (upd (rem (upd bw g4 X) gw) gN Y):=fun z y hz=>by
 simp only[aA,aF] at hz ⊢
 grind
theorem Ce {bl:Int→Option Blk} {K:V→(Int→Option Blk)→Prop} (p:Pg) (n m:Nat) (h:PgN p n m)
  (hK: ∀b' g,SS b' g (snV (List.range m) (n+m) (n+m) m (Lp.bK n m) (Lp.lH n (eQ p n m)))→(∀x,x∈g.all→bl x=none)→Sub bl b'→K (.loc g.T 4 0 0) b'):
  cH Tryz.prog 189 [.agg p.v] bl K:=by
 have hml:=h.ml
 have hnl:=h.nl
 obtain⟨N,hN⟩: ∃N,n+m=N:=⟨_,rfl⟩
 have wN:IntKind.i64.wrap ((n:Int)+(m:Int))=(N:Int):=by rw[i64_in (by omega) (by omega)];omega
 have hL5:p.v.length=5:=rfl
 refine cP Tryz.func189 rfl rfl (by rw[Tryz.ntmps189];simp) ?_
 rw[Tryz.ntmps189,Tryz.results189]
 refine aE ?_
 simp[Pg.v]
 intro g1 hg1 hb1
 refine cW 1 1 (.ptr p.v) bl (by intro z b hz;simp only[aA] at hz ⊢;grind) (by simp[frz,dropB,hb1,V.cl,Pg.v]) ?_
 refine aE ?_
 simp[Pg.v,h.rows,h.aP,wN]
 intro gT hgT hbT
 refine dJ [(1,.ptr p.v),(3,.loc gT 4 0 0)] 152 (upd bl gT (some ⟨4,[[.int .i64 N,.nils,.nils,.nils]]⟩)) ⟨rfl,by simp[Pg.v,h.rows,h.aP],sub_eq (by simp)⟩ ?_
 refine dD (g:=gT) (s:=4) (els:= [[.int .i64 N,.nils,.nils,.nils]]) 0 1 1 (by simp) rfl rfl fun gR hgR hRT=> ?_
 simp[hRT] at hgR
 refine dD (g:=gT) (s:=4) (els:= [[.int .i64 N,.lsl gR 1 0 0,.nils,.nils]]) 0 2 1 (by simp[Ne.symm hRT]) rfl rfl fun gB hgB hBT=> ?_
 simp[hBT] at hgB
 obtain⟨hBR,hgB⟩:=hgB
 refine dD (g:=gT) (s:=4) (els:= [[.int .i64 N,.lsl gR 1 0 0,.lsl gB 1 0 0,.nils]]) 0 3 3 (by simp[Ne.symm hBT]) rfl rfl fun gC hgC hCT=> ?_
 simp[hCT] at hgC
 obtain⟨hCB,hCR,hgC⟩:=hgC
 obtain⟨b1,hb1⟩: ∃b1,b1=upd (upd (upd (upd (upd (upd (upd bl gT (some ⟨4,[[.int .i64 N,.nils,.nils,.nils]]⟩)) gT (some ⟨4,[[.int .i64 N,.lsl gR 1 0 0,.nils,.nils]]⟩)) gR (some ⟨1,[]⟩)) gT (some ⟨4,[[.int .i64 N,.lsl gR 1 0 0,.lsl gB 1 0 0,.nils]]⟩)) gB (some ⟨1,[]⟩)) gT (some ⟨4,[[.int .i64 N,.lsl gR 1 0 0,.lsl gB 1 0 0,.lsl gC 3 0 0]]⟩)) gC (some ⟨3,[]⟩):=⟨_,rfl⟩
 have b1T:b1 gT=some ⟨4,[[.int .i64 N,.lsl gR 1 0 0,.lsl gB 1 0 0,.lsl gC 3 0 0]]⟩:=by rw[hb1];simp[Ne.symm hCT]
 have b1R:b1 gR=some ⟨1,[]⟩:=by rw[hb1];simp[Ne.symm hCR,hRT,Ne.symm hBR]
 have b1B:b1 gB=some ⟨1,[]⟩:=by rw[hb1];simp[Ne.symm hCB,hBT]
 have b1C:b1 gC=some ⟨3,rqs 0 fun _=>0⟩:=by rw[hb1];simp[rqs]
 have s1:Sub bl b1:=fun x y hx=>by
  have x1:x≠gT:=fun e=>by rw[e,hbT] at hx;cases hx
  have x2:x≠gR:=fun e=>by rw[e,hgR] at hx;cases hx
  have x3:x≠gB:=fun e=>by rw[e,hgB] at hx;cases hx
  have x4:x≠gC:=fun e=>by rw[e,hgC] at hx;cases hx
  rw[hb1];simp[x1,x2,x3,x4,hx]
 refine dJ [(1,.ptr p.v),(3,.loc gT 4 0 0)] 152 b1 ⟨rfl,by simp,by rw[hb1];exact sub_eq (by simp)⟩ ?_
 clear hb1
 refine aO ?_
 refine aC ?_
 simp
 refine aI (fun q:Ps=> [(1,.ptr p.v),(3,.loc gT 4 0 0),(4,.int .i64 q.j)]) (fun q=>q.b) (fun q=>q.j≤N+1∧q.b gT=some ⟨4,[[.int .i64 N,.lsl gR 1 0 0,.lsl gB 1 0 0,.lsl q.gC 3 0 q.j]]⟩∧q.b gR=some ⟨1,[]⟩∧q.b gB=some ⟨1,[]⟩∧q.b q.gC=some ⟨3,rqs q.j fun _=>0⟩∧(q.gC≠gT∧q.gC≠gR∧q.gC≠gB∧bl q.gC=none∧(0≤q.gC∨q.j=0))∧Sub bl q.b) (fun q=>N+1 - q.j) _ ⟨0,gC,b1⟩ ⟨Nat.zero_le _,b1T,b1R,b1B,b1C,⟨hCT,hCR,hCB,hgC,.inr rfl⟩,s1⟩ ⟨rfl,by simp,Sub.refl _⟩ ?_
 clear s1 b1T b1R b1B b1C hgC hCB hCR hCT
 rintro⟨j,gC,b⟩ ⟨hj,bT,bR,bB,bC,⟨cT,cR,cB,cbl,aC4⟩,hsb⟩
 simp only at hj bT bR bB bC cT cR cB cbl aC4 hsb
 have wj:IntKind.i64.wrap ((j:Int)+1)=(j:Int)+1:=i64_in (by omega) (by omega)
 refine aO ?_
 refine aC ?_
 simp[bT]
 refine⟨fun hjn=> ?_,fun hjn=> ?_⟩
 ·refine aO (aT ?_)
  have hR0:=dO 0 (by decide)
  refine dK aL (rem b gC) (eH b gC) [0,1,2,3,4,5] 5 10 (by kernel_rfl) ?_
  simp[Ne.symm cT,bT]
  refine aN hR0 ?_
  simp
  refine Dq 6 false ?_
  simp[RT.c]
  intro g4 hg4 hb4
  have n4T:g4≠gT:=fun e=>by rw[e,bT] at hb4;cases hb4
  have n4R:g4≠gR:=fun e=>by rw[e,bR] at hb4;cases hb4
  have n4B:g4≠gB:=fun e=>by rw[e,bB] at hb4;cases hb4
  have n4C:g4≠gC:=fun e=>by rw[e,bC] at hb4;cases hb4
  have sQ: ∀X,Sub (rem b gC) (upd b g4 X):=fun X z y hz=>by
   rw[aF] at hz
   rw[aA]
   grind
  refine⟨sQ _,Dq 7 false ?_⟩
  have tkC:(rqs j fun _=>(0:Rat)).take j=rqs j fun _=>0:=List.take_of_length_le (by simp)
  simp[n4C,Ne.symm n4C,appV,elsV,Int.not_lt.2 hg4,bC,tkC]
  have hsn:(rqs j fun _=>(0:Rat))++ [[V.bool (rq 0).neg,.sl (iv (rq 0).m),.sl (iv (rq 0).d)]]=rqs (j+1) fun _=>0:=by rw[kU];rfl
  rw[hsn]
  refine⟨by omega,fun gN hgN hbN=> ?_⟩
  have nN:gN≠gT∧gN≠gR∧gN≠gB∧gN≠g4:=by
   by_cases e:gN=gC
   ·subst e
    exact⟨cT,cR,cB,Ne.symm n4C⟩
   ·obtain⟨q1,q2⟩:=hbN e
    exact⟨fun e=>(by rw[e,bT] at q2;cases q2),fun e=>(by rw[e,bR] at q2;cases q2),fun e=>(by rw[e,bB] at q2;cases q2),q1⟩
  obtain⟨nNT,nNR,nNB,nN4⟩:=nN
  have blN:bl gN=none:=by
   by_cases e:gN=gC
   ·rw[e];exact cbl
   ·cases hv:bl gN with
    | none => rfl
    | some y => have := hsb gN y hv; rw [(hbN e).2] at this; cases this
  have iO: ∀X Y,Sub (rem b gC) (upd (rem (upd b g4 X) gC) gN Y):=fun X Y z y hz=>by
   rw[aF] at hz
   rw[aA,aF,aA]
   grind
  have lJ: ∀X Y Z,Sub (upd (upd (rem b gC) gN Y) gT Z) (upd (upd (rem (upd b g4 X) gC) gN Y) gT Z):=fun X Y Z z y hz=>by
   simp only[aA,aF] at hz ⊢
   grind
  refine⟨iO _ _,Dq 8 false ?_⟩
  simp
  refine⟨iO _ _,Dq 9 false ?_⟩
  simp
  refine⟨iO _ _,Dq 10 true ?_⟩
  simp[Ne.symm nNT,Ne.symm cT,n4T,Ne.symm n4T,bT]
  refine Dd ?_
  simp
  refine aC ?_
  simp[wj,aB]
  obtain⟨b2,hb2⟩: ∃b2,b2=upd (upd (rem b gC) gN (some ⟨3,rqs (j+1) fun _=>0⟩)) gT (some ⟨4,[[.int .i64 N,.lsl gR 1 0 0,.lsl gB 1 0 0,.lsl gN 3 0 (j+1)]]⟩):=⟨_,rfl⟩
  refine⟨⟨j+1,gN,b2⟩,⟨by simp only;omega,by rw[hb2];simp,by rw[hb2];simp[hRT,Ne.symm nNR,Ne.symm cR,bR],by rw[hb2];simp[hBT,Ne.symm nNB,Ne.symm cB,bB],by rw[hb2];simp[nNT],⟨nNT,nNR,nNB,blN,.inl hgN⟩,fun x y hx=> ?_⟩,by simp only;omega,rfl,by simp,by rw[hb2];exact lJ _ _ _⟩
  have x1:x≠gT:=fun e=>by rw[e,hbT] at hx;cases hx
  have x2:x≠gN:=fun e=>by rw[e,blN] at hx;cases hx
  have x3:x≠gC:=fun e=>by rw[e,cbl] at hx;cases hx
  simp only
  rw[hb2];simp[x1,x2,x3];exact hsb x y hx
 have hje:j=N+1:=by omega
 subst hje
 have cnn:0≤gC:=by rcases aC4 with g | g;exact g;omega
 refine aO ?_
 refine aC ?_
 simp
 have nTR:=Ne.symm hRT
 have hS0:SS b ⟨gT,gR,gB,gC,[]⟩ ⟨0,N+1,N,eQ p n m,fS p n m 0,fun q=>n+q⟩:=by
  refine⟨rfl,bR,fun i x hx=>(by cases hx),fun x hx=>(by cases hx),bT,bB,?_,hgT,fun _=>rfl,fun _=>rfl,cnn,?_⟩
  ·simp only
   rw[bC,bV (g:=fS p n m 0) fun c _=>by unfold fS;rw[Lp.S];split<;>rfl]
  ·simp[SG.all];grind
 have aMV: ∀x,x∈SG.all ⟨gT,gR,gB,gC,[]⟩→bl x=none:=by simp[SG.all,hbT,hgR,hgB,cbl]
 refine aI (fun q:Ok=> [(1,.ptr p.v),(3,.loc gT 4 0 0),(5,.int .i64 q.i)]) (fun q=>q.b) (fun q=>q.i≤m∧SS q.b q.g ⟨q.i,N+1,N,eQ p n m,fS p n m q.i,fun q=>n+q⟩∧q.g.T=gT∧(∀x,x∈q.g.all→bl x=none)∧Sub bl q.b) (fun q=>m - q.i) _ ⟨0,⟨gT,gR,gB,gC,[]⟩,b⟩ ⟨Nat.zero_le _,hS0,rfl,aMV,hsb⟩ ⟨rfl,by simp,Sub.refl _⟩ ?_
 clear hS0 aMV hsb aC4 cbl cB cR cT bC bB bR bT wj hj cnn nTR
 rintro⟨i,⟨gT',gR',gB',gC',ids⟩,b'⟩ ⟨hi,hS,e1,hal,hsb⟩
 simp only at hi hS e1 hsb
 subst e1
 have hal: ∀x,x∈SG.all ⟨gT',gR',gB',gC',ids⟩→bl x=none:=hal
 have wi:IntKind.i64.wrap ((i:Int)+1)=(i:Int)+1:=i64_in (by omega) (by omega)
 refine aO ?_
 refine aC ?_
 simp[Pg.v,h.rows]
 refine⟨fun him=> ?_,fun him=> ?_⟩
 ·refine aO (aT ?_)
  refine aE ?_
  simp
  refine gV (fun _:Unit=> [(1,.ptr p.v),(3,.loc gT' 4 0 0),(5,.int .i64 i),(6,.int .i64 (sgB p i))]) (fun _=>b') (fun _=>True) 152 ?_ ?_
  ·refine aC ?_
   simp[Pg.v,h.b,him]
   refine⟨fun cO=> ?_,fun cO=> ?_⟩
   ·simp[aH]
    exact⟨rfl,by simp[Pg.v,h.b,h.rows,sgB,cO],Sub.refl _⟩
   ·simp[aH]
    exact⟨rfl,by simp[Pg.v,h.b,h.rows,sgB,cO],Sub.refl _⟩
  rintro⟨⟩ -
  obtain⟨sg,hsg⟩: ∃x,sgB p i=x:=⟨_,rfl⟩
  have sg1:sg.natAbs=1:=by rw[←hsg];unfold sgB;split<;>rfl
  rw[hsg]
  have hpA: ∀c,(sg*pA p n i c).natAbs≤1000:=fun c=>by rw[Int.natAbs_mul,sg1,Nat.one_mul];exact jR h.am _
  have hpB:(sg*pB p i).natAbs≤1000:=by rw[Int.natAbs_mul,sg1,Nat.one_mul];exact jR h.bm _
  refine aE ?_
  simp
  intro g7 hg7 hb7
  have hW0:WOk b' (eQ p n m i) ⟨0,g7,upd b' g7 (some ⟨3,[]⟩)⟩:=⟨by simp[rqs],hb7,hg7,fun x y hx=>by simp only;rw[aG _ _ _ _ (fun e=>by rw[e,hb7] at hx;cases hx)];exact hx⟩
  have heq: ∀c,eQ p n m i c=((eZ p n m i c:Int):Rat):=fun _=>rfl
  refine gV (fun W:Z6=> [(1,.ptr p.v),(3,.loc gT' 4 0 0),(5,.int .i64 i),(6,.int .i64 sg),(7,.lsl W.gw 3 0 n)]) (fun W=>W.b) (fun W=>W.k=n∧WOk b' (eQ p n m i) W) 152 ?_ ?_
  ·refine aC ?_
   simp[Pg.v]
   refine aD (Nf p n m i h him) ?_
   simp
   refine aI (fun W:Z6=> [(1,.ptr p.v),(3,.loc gT' 4 0 0),(5,.int .i64 i),(6,.int .i64 sg),(7,.lsl W.gw 3 0 W.k),(53,.sl (iv (lz n (pA p n i)))),(54,.int .i64 n),(55,.int .i64 W.k)]) (fun W=>W.b) (fun W=>W.k≤n∧WOk b' (eQ p n m i) W) (fun W=>n - W.k) _ ⟨0,g7,upd b' g7 (some ⟨3,[]⟩)⟩ ⟨Nat.zero_le _,hW0⟩ ⟨rfl,by simp[Pg.v],Sub.refl _⟩ ?_
   rintro⟨k,gw,bw⟩ ⟨hk,hW⟩
   simp only at hk
   have wk:IntKind.i64.wrap ((k:Int)+1)=(k:Int)+1:=i64_in (by omega) (by omega)
   have wa: ∀c,IntKind.i64.wrap (sg*pA p n i c)=sg*pA p n i c:=fun c=>i64_in (by have:=hpA c;omega) (by have:=hpA c;omega)
   have hbw:=hW.blk
   simp only at hbw
   refine aC ?_
   simp
   refine⟨fun hkn=> ?_,fun hkn=> ?_⟩
   ·have hez:eZ p n m i k=sg*pA p n i k:=by unfold eZ;rw[if_pos hkn,hsg]
    have hR0:=dO (sg*pA p n i k) (by have:=hpA k;omega)
    rw[←hez,←heq] at hR0
    simp[hkn,wa]
    rw[←hez]
    refine aD hR0 ?_
    simp[RT.c]
    intro g4 hg4 hb4
    have n4w:g4≠gw:=fun e=>by rw[e,hbw] at hb4;cases hb4
    have tkw:(rqs k (eQ p n m i)).take k=rqs k (eQ p n m i):=List.take_of_length_le (by simp)
    simp[n4w,Ne.symm n4w,appV,elsV,Int.not_lt.2 hg4,hbw,tkw]
    have hsn:rqs k (eQ p n m i)++ [[V.bool (rq (eQ p n m i k)).neg,.sl (iv (rq (eQ p n m i k)).m),.sl (iv (rq (eQ p n m i k)).d)]]=rqs (k+1) (eQ p n m i):=by rw[kU];rfl
    rw[hsn]
    refine⟨by omega,fun gN hgN hbN=> ?_⟩
    simp[wk,aB]
    refine⟨⟨k+1,gN,upd (rem bw gw) gN (some ⟨3,rqs (k+1) (eQ p n m i)⟩)⟩,⟨by simp only;omega,hW.snoc hb4 hgN hbN⟩,by simp only;omega,rfl,by simp[Pg.v],C9 hb4 (fun e=>(hbN e).1) n4w⟩
   ·have hke:k=n:=by omega
    subst hke
    simp[aH]
    exact⟨⟨k,gw,bw⟩,⟨rfl,hW⟩,rfl,by simp[Pg.v],Sub.refl _⟩
  rintro⟨k,gw,bw⟩ ⟨hk,hW⟩
  simp only at hk
  have hk:=hk.symm
  subst hk
  clear hW0
  have hfr: ∀ {w1:Nat} {gw1:Int} {bw1:Int→Option Blk},WOk b' (eQ p n m i) ⟨w1,gw1,bw1⟩→bw1 gw1=some ⟨3,rqs w1 (eQ p n m i)⟩:=fun h=>h.blk
  refine gV (fun W:Z6=> [(1,.ptr p.v),(3,.loc gT' 4 0 0),(5,.int .i64 i),(6,.int .i64 sg),(7,.lsl W.gw 3 0 N)]) (fun W=>W.b) (fun W=>W.k=N∧WOk b' (eQ p n m i) W) 152 ?_ ?_
  ·refine aC ?_
   simp
   refine aI (fun W:Z6=> [(1,.ptr p.v),(3,.loc gT' 4 0 0),(5,.int .i64 i),(6,.int .i64 sg),(7,.lsl W.gw 3 0 (n+W.k)),(10,.int .i64 W.k)]) (fun W=>W.b) (fun W=>W.k≤m∧WOk b' (eQ p n m i) ⟨n+W.k,W.gw,W.b⟩) (fun W=>m - W.k) _ ⟨0,gw,bw⟩ ⟨Nat.zero_le _,hW⟩ ⟨rfl,by simp[Pg.v],Sub.refl _⟩ ?_
   clear hW
   rintro⟨k,gw,bw⟩ ⟨hk,hW⟩
   simp only at hk hW
   have wk:IntKind.i64.wrap ((k:Int)+1)=(k:Int)+1:=i64_in (by omega) (by omega)
   have hbw:=hfr hW
   refine aO ?_
   refine aC ?_
   simp[Pg.v,h.rows]
   refine⟨fun hkm=> ?_,fun hkm=> ?_⟩
   ·refine aO (aT ?_)
    refine aE ?_
    simp
    have hez:eZ p n m i (n+k)=if k=i then 1 else 0:=by
     unfold eZ
     rw[if_neg (by omega),if_neg (by omega)]
     by_cases e:k=i
     ·rw[if_pos e,if_pos (by omega)]
     ·rw[if_neg e,if_neg (by omega)]
    have hR0:=dO (eZ p n m i (n+k)) (by rw[hez];split<;>decide)
    rw[←heq] at hR0
    refine gV (fun _:Unit=> [(1,.ptr p.v),(3,.loc gT' 4 0 0),(5,.int .i64 i),(6,.int .i64 sg),(7,.lsl gw 3 0 (n+k)),(10,.int .i64 k),(11,.int .i64 (eZ p n m i (n+k)))]) (fun _=>bw) (fun _=>True) 152 ?_ ?_
    ·refine aC ?_
     simp
     refine⟨fun e=> ?_,fun e=> ?_⟩
     ·have ez1:eZ p n m i (n+k)=1:=by rw[hez,if_pos (show k=i by omega)]
      simp[aH]
      exact⟨rfl,by simp[Pg.v,h.rows,ez1],Sub.refl _⟩
     ·have ez1:eZ p n m i (n+k)=0:=by rw[hez,if_neg (show ¬ k=i by omega)]
      simp[aH]
      exact⟨rfl,by simp[Pg.v,h.rows,ez1],Sub.refl _⟩
    rintro⟨⟩ -
    obtain⟨w1,hw1⟩: ∃w1,n+k=w1:=⟨_,rfl⟩
    rw[hw1] at hR0 hbw hW
    rw[hw1]
    have hw2:n+(k+1)=w1+1:=by omega
    refine aC ?_
    simp
    refine aD hR0 ?_
    simp[RT.c]
    intro g4 hg4 hb4
    have n4w:g4≠gw:=fun e=>by rw[e,hbw] at hb4;cases hb4
    have tkw:(rqs w1 (eQ p n m i)).take w1=rqs w1 (eQ p n m i):=List.take_of_length_le (by simp)
    simp[n4w,Ne.symm n4w,appV,elsV,Int.not_lt.2 hg4,hbw,tkw]
    have hsn:rqs w1 (eQ p n m i)++ [[V.bool (rq (eQ p n m i w1)).neg,.sl (iv (rq (eQ p n m i w1)).m),.sl (iv (rq (eQ p n m i w1)).d)]]=rqs (w1+1) (eQ p n m i):=by rw[kU];rfl
    rw[hsn]
    refine⟨by omega,fun gN hgN hbN=> ?_⟩
    refine aC ?_
    simp[wk,aB]
    refine⟨⟨k+1,gN,upd (rem bw gw) gN (some ⟨3,rqs (w1+1) (eQ p n m i)⟩)⟩,⟨by simp only;omega,by simp only;rw[hw2];exact hW.snoc hb4 hgN hbN⟩,by simp only;omega,rfl,by simp[Pg.v,h.rows,hw2],C9 hb4 (fun e=>(hbN e).1) n4w⟩
   ·have hke:m=k:=by omega
    rw[hke] at hN
    simp[aH]
    exact⟨⟨N,gw,bw⟩,⟨rfl,by rw[←hN];exact hW⟩,rfl,by simp[Pg.v,h.rows,hN],Sub.refl _⟩
  clear hW
  rintro⟨k,gw,bw⟩ ⟨hk,hW⟩
  simp only at hk
  have hk:=hk.symm
  subst hk
  have wB:IntKind.i64.wrap (sg*pB p i)=sg*pB p i:=i64_in (by omega) (by omega)
  have hez:eZ p n m i N=sg*pB p i:=by unfold eZ;rw[if_neg (by omega),if_pos hN.symm,hsg]
  have hR0:=dO (sg*pB p i) (by omega)
  rw[←hez,←heq] at hR0
  have hbw:=hfr hW
  refine aE ?_
  simp[Pg.v,h.b,him,wB]
  rw[←hez]
  refine aD hR0 ?_
  simp[RT.c]
  intro g4 hg4 hb4
  have n4w:g4≠gw:=fun e=>by rw[e,hbw] at hb4;cases hb4
  have tkw:(rqs N (eQ p n m i)).take N=rqs N (eQ p n m i):=List.take_of_length_le (by simp)
  simp[n4w,Ne.symm n4w,appV,elsV,Int.not_lt.2 hg4,hbw,tkw]
  have hsn:rqs N (eQ p n m i)++ [[V.bool (rq (eQ p n m i N)).neg,.sl (iv (rq (eQ p n m i N)).m),.sl (iv (rq (eQ p n m i N)).d)]]=rqs (N+1) (eQ p n m i):=by rw[kU];rfl
  rw[hsn]
  refine⟨by omega,fun gN hgN hbN=> ?_⟩
  obtain⟨N1,hN1⟩: ∃N1,N+1=N1:=⟨_,rfl⟩
  have hW2:=hW.snoc hb4 hgN hbN
  rw[hN1] at hW2
  obtain⟨bx,hbx⟩: ∃bx,bx=upd (rem bw gw) gN (some ⟨3,rqs N1 (eQ p n m i)⟩):=⟨_,rfl⟩
  rw[←hbx] at hW2
  refine dJ [(1,.ptr p.v),(3,.loc gT' 4 0 0),(5,.int .i64 i),(7,.lsl gN 3 0 N1)] 152 bx ⟨rfl,by simp[Pg.v,h.b,hN1],by rw[hbx,hN1];exact C9 hb4 (fun e=>(hbN e).1) n4w⟩ ?_
  clear hbx hW hbN hgN hsn tkw n4w hb4 hg4 hbw
  clear g4
  have hSx:SS bx ⟨gT',gR',gB',gC',ids⟩ ⟨i,N+1,N,eQ p n m,fS p n m i,fun q=>n+q⟩:=hS.cZ fun x y _ hx=>hW2.sub x y hx
  have xw:bx gN=some ⟨3,rqs N1 (eQ p n m i)⟩:=hW2.blk
  have xT:bx gT'=_:=hSx.hd
  have xR:bx gR'=_:=hSx.top
  have xB:bx gB'=_:=hSx.ba
  have xC:bx gC'=_:=hSx.cst
  simp only[hN1] at xT xR xB xC
  have nd:=hS.nd
  simp only[SG.all,List.nodup_cons,List.mem_cons,not_or] at nd
  obtain⟨⟨nTR,nTB,nTC,nTi⟩,⟨nRB,nRC,nRi⟩,⟨nBC,nBi⟩,nCi,nds⟩:=nd
  have hin: ∀x,x∈SG.all ⟨gT',gR',gB',gC',ids⟩→ ∃y,b' x=some y:=fun x hx=>by
   simp only[SG.all,List.mem_cons] at hx
   rcases hx with rfl | rfl | rfl | rfl | hx
   ·exact⟨_,hS.hd⟩
   ·exact⟨_,hS.top⟩
   ·exact⟨_,hS.ba⟩
   ·exact⟨_,hS.cst⟩
   ·obtain⟨q,hq⟩:=List.mem_iff_getElem?.1 hx
    exact⟨_,hS.row q x hq⟩
  have A8:gN∉SG.all ⟨gT',gR',gB',gC',ids⟩:=fun hm2=>by
   obtain⟨y,hy⟩:=hin gN hm2
   have:=hW2.new
   simp only at this
   rw[this] at hy;cases hy
  simp only[SG.all,List.mem_cons,not_or] at A8
  obtain⟨wT,wR,wB',wC,wI⟩:=A8
  refine gV (fun _:Unit=> [(1,.ptr p.v),(3,.loc gT' 4 0 0),(5,.int .i64 i),(7,.lsl gN 3 0 N1)]) (fun _=>upd bx gC' (some ⟨3,rqs N1 (fS p n m (i+1))⟩)) (fun _=>True) 152 ?_ ?_
  ·refine aC ?_
   simp
   refine aI (fun j:Nat=> [(1,.ptr p.v),(3,.loc gT' 4 0 0),(5,.int .i64 i),(7,.lsl gN 3 0 N1),(93,.int .i64 N1),(94,.int .i64 j)]) (fun j=>upd bx gC' (some ⟨3,rqs N1 fun c=>if c<j then fS p n m (i+1) c else fS p n m i c⟩)) (fun j=>j≤N1) (fun j=>N1 - j) _ 0 (Nat.zero_le _) ⟨rfl,by simp[Pg.v],sub_eq (by funext x;simp only[aA];split;rename_i e;rw[e,xC];simp;rfl)⟩ ?_
   intro j hj
   have wj:IntKind.i64.wrap ((j:Int)+1)=(j:Int)+1:=i64_in (by omega) (by omega)
   refine aE ?_
   simp
   refine aE ?_
   simp
   refine⟨fun hj1=> ?_,fun hj1=> ?_⟩
   ·have aE0:(j:Int)<N1:=by omega
    refine aO (aT ?_)
    refine aE ?_
    simp
    refine aO ?_
    refine bN [(1,.ptr p.v),(3,.loc gT' 4 0 0),(5,.int .i64 i),(7,.lsl gN 3 0 N1),(93,.int .i64 N1),(94,.int .i64 j),(12,.int .i64 j)] _ (upd bx gC' (some ⟨3,rqs N1 fun c=>if c<j then fS p n m (i+1) c else fS p n m i c⟩)) 108 (.bool (decide (j<n∨j=N))) ⟨rfl,by simp[Pg.v],Sub.refl _⟩ rfl ?_ ?_
    ·simp[Pg.v,h.aP,nTC,xT]
     by_cases e:j<n
     ·simp[e]
      intro h9;omega
     ·simp[e]
      intro _
      by_cases e2:j=N
      ·simp[e2]
      ·have e3: ¬ (j:Int)=N:=by omega
       simp[e2,e3]
    simp
    have aZC: ∀c,(if c<j then fS p n m (i+1) c else fS p n m i c)=if c<j then fS p n m (i+1) c else fS p n m i c:=fun _=>rfl
    refine aC ?_
    simp
    refine⟨fun Uu=> ?_,fun hno hno2=> ?_⟩
    ·have Zi:j<n∨j=n+m:=by omega
     have lA:=rO (some (fS p n m i j)) (some (eQ p n m i j)) (okS (O1 h hi j)) (okS (fits_int (by have:=Ob h i j;omega)))
     rw[zT (by rw[←Y9 Zi];exact O1 h (by omega) j),←Y9 Zi] at lA
     have sM:(rqs N1 fun c=>if c<j then fS p n m (i+1) c else fS p n m i c).set j (ro (some (fS p n m (i+1) j))).c=rqs N1 fun c=>if c<j+1 then fS p n m (i+1) c else fS p n m i c:=by
      rw[zN _ _ hj1]
      exact bV fun c _=>by
       by_cases e:c=j
       ·subst e;rw[if_pos rfl,if_pos (by omega)]
       ·rw[if_neg e]
        by_cases e2:c<j
        ·rw[if_pos e2,if_pos (by omega)]
        ·rw[if_neg e2,if_neg (by omega)]
     have l3: ∀q:Rat,(rq q).c.length=3:=fun _=>rfl
     have t3: ∀q:Rat,(rq q).c.take 3=(rq q).c:=fun _=>rfl
     refine bY aL [0,1,2,3,4,5,6,7,8,9,10,11,12,13,14,15,16,17] 1 18 (by kernel_rfl) ?_
     simp[nTC,wC,xT,xw,hj1,aE0,l3,t3]
     refine aN lA ?_
     simp[hj1,aE0]
     refine bZ (i:=18) (by kernel_rfl) rfl rfl rfl ?_
     generalize hy:fS p n m (i+1) j=y at sM
     simp[hj1,aE0,RT.c]
     refine Dy ?_
     simp
     refine aC ?_
     simp[wj,aB]
     refine⟨j+1,by omega,by omega,rfl,by simp[Pg.v],?_⟩
     rw[←sM]
     intro z b hz
     simp only[aA,RT.c,oS] at hz ⊢
     grind
    ·have aUL: ¬ (j<n∨j=n+m):=by omega
     refine aC ?_
     simp[wj,aB]
     refine⟨j+1,by omega,by omega,rfl,by simp[Pg.v],sub_eq ?_⟩
     rw[bV (f:=fun c=>if c<j+1 then fS p n m (i+1) c else fS p n m i c) (g:=fun c=>if c<j then fS p n m (i+1) c else fS p n m i c) fun c _=>by
      by_cases e:c=j
      ·subst e;rw[if_pos (by omega),if_neg (by omega)];exact Yg aUL
      ·by_cases e2:c<j
       ·rw[if_pos e2,if_pos (by omega)]
       ·rw[if_neg e2,if_neg (by omega)]]
   ·have hje:j=N1:=by omega
    subst hje
    simp[aH]
    refine⟨rfl,by simp[Pg.v],sub_eq ?_⟩
    rw[bV fun c hc=>by rw[if_pos hc]]
  rintro⟨⟩ -
  obtain⟨by',hby⟩: ∃by',by'=upd bx gC' (some ⟨3,rqs N1 (fS p n m (i+1))⟩):=⟨_,rfl⟩
  rw[←hby]
  have hSy:SS by' ⟨gT',gR',gB',gC',ids⟩ ⟨i,N+1,N,eQ p n m,fS p n m (i+1),fun q=>n+q⟩:=by
   have:=hSx.aDG (fS p n m (i+1))
   simp only[hN1] at this
   rw[hby,hN1];exact this
  have yT:by' gT'=_:=hSy.hd
  have yR:by' gR'=_:=hSy.top
  have yB:by' gB'=_:=hSy.ba
  have yC:by' gC'=_:=hSy.cst
  have yw:by' gN=some ⟨3,rqs N1 (eQ p n m i)⟩:=by rw[hby,aG _ _ _ _ wC];exact xw
  have yx: ∀x,x≠gC'→by' x=bx x:=fun x hx=>by rw[hby,aG _ _ _ _ hx]
  simp only[hN1] at yT yR yB yC
  have hil:=hS.len
  simp only at hil
  clear hby
  have Kv: ∀x,by' x=none→x≠gT'∧x≠gR'∧x≠gB'∧x≠gC'∧x≠gN∧x∉ids:=fun x hx=>by
   refine⟨fun e=> ?_,fun e=> ?_,fun e=> ?_,fun e=> ?_,fun e=> ?_,fun e=> ?_⟩
   ·rw[e,yT] at hx;cases hx
   ·rw[e,yR] at hx;cases hx
   ·rw[e,yB] at hx;cases hx
   ·rw[e,yC] at hx;cases hx
   ·rw[e,yw] at hx;cases hx
   ·obtain⟨q,hq⟩:=List.mem_iff_getElem?.1 e
    rw[hSy.row q x hq] at hx;cases hx
  refine aE ?_
  simp[yT,yR,appV,elsV,hil]
  intro g4 hg4 hb4
  obtain⟨n4T,n4R,n4B,n4C,n4w,n4i⟩:=Kv g4 hb4
  have tk:(ids.map fun x=> [V.lsl x 3 0 N1]).take i=ids.map fun x=> [V.lsl x 3 0 N1]:=List.take_of_length_le (by simp[hil])
  simp[Ne.symm n4T,Ne.symm n4R,n4T,n4R,Int.not_lt.2 hg4,yR,hil,tk]
  refine⟨by omega,fun gQ hgQ hbQ=> ?_⟩
  have nQ:gQ≠gT'∧gQ≠gB'∧gQ≠gC'∧gQ≠gN∧gQ∉ids∧gQ≠g4:=by
   by_cases e:gQ=gR'
   ·subst e
    exact⟨Ne.symm nTR,nRB,nRC,Ne.symm wR,nRi,Ne.symm n4R⟩
   ·obtain⟨q1,q2⟩:=hbQ e
    obtain⟨w1,w2,w3,w4,w5,w6⟩:=Kv gQ q2
    exact⟨w1,w3,w4,w5,w6,q1⟩
  obtain⟨nQT,nQB,nQC,nQw,nQi,nQ4⟩:=nQ
  simp[Ne.symm nQT,nQT,Ne.symm n4T,nTR,yT]
  obtain⟨b3,hb3⟩: ∃b3,b3=upd (upd (rem by' gR') gQ (some ⟨1,(ids++ [gN]).map fun x=> [.lsl x 3 0 N1]⟩)) gT' (some ⟨4,[[.int .i64 N,.lsl gQ 1 0 (i+1),.lsl gB' 1 0 i,.lsl gC' 3 0 N1]]⟩):=⟨_,rfl⟩
  refine dJ [(1,.ptr p.v),(3,.loc gT' 4 0 0),(5,.int .i64 i)] 152 b3 ⟨rfl,by simp[Pg.v],?_⟩ ?_
  ·rw[hb3]
   intro z y hz
   simp only[aA,aF] at hz ⊢
   grind
  have b3N:b3 gQ=some ⟨1,(ids++ [gN]).map fun x=> [.lsl x 3 0 N1]⟩:=by rw[hb3];simp[nQT]
  have b3T:b3 gT'=some ⟨4,[[.int .i64 N,.lsl gQ 1 0 (i+1),.lsl gB' 1 0 i,.lsl gC' 3 0 N1]]⟩:=by rw[hb3];simp
  have b3x: ∀x,x≠gT'→x≠gQ→x≠gR'→b3 x=by' x:=fun x x1 x2 x3=>by rw[hb3,aG _ _ _ _ x1,aG _ _ _ _ x2,aF,if_neg x3]
  have b3B:=b3x gB' (Ne.symm nTB) (Ne.symm nQB) (Ne.symm nRB)
  rw[yB] at b3B
  clear hb3
  have wni:IntKind.i64.wrap ((n:Int)+(i:Int))=((n+i:Nat):Int):=by rw[i64_in (by omega) (by omega)];simp
  obtain⟨ni,hni⟩: ∃x,n+i=x:=⟨_,rfl⟩
  rw[hni] at wni
  refine dK aL (rem b3 gB') (eH b3 gB') [0,1,2,3,4,5,6,7,8] 5 13 (by kernel_rfl) ?_
  simp[nTB,b3T,Pg.v,h.aP,wni]
  refine Dq 9 false ?_
  simp
  intro g5 hg5 hb5
  have n5:g5≠gT'∧g5≠gQ∧g5≠gB':=⟨fun e=>(by rw[e,b3T] at hb5;cases hb5),fun e=>(by rw[e,b3N] at hb5;cases hb5),fun e=>(by rw[e,b3B] at hb5;cases hb5)⟩
  obtain⟨n5T,n5Q,n5B⟩:=n5
  have Ea: ∀X,Sub (rem b3 gB') (upd b3 g5 X):=fun X z y hz=>by
   rw[aF] at hz
   rw[aA]
   grind
  refine⟨Ea _,Dq 10 false ?_⟩
  have tkB:(iv (lb i fun q=>n+q)).take i=iv (lb i fun q=>n+q):=List.take_of_length_le (by simp)
  simp[n5B,Ne.symm n5B,appV,elsV,Int.not_lt.2 hg5,b3B,tkB]
  have hlb:iv (lb i fun q=>n+q)++ [[.int .i64 ni]]=iv (lb (i+1) fun q=>n+q):=by rw[V7,aZ,hni];rfl
  rw[hlb]
  refine⟨by omega,fun gM hgM hbM=> ?_⟩
  have nM:gM≠gT'∧gM≠gQ∧gM≠gC'∧gM≠gN∧gM∉ids∧gM≠g5:=by
   by_cases e:gM=gB'
   ·subst e
    exact⟨Ne.symm nTB,Ne.symm nQB,nBC,Ne.symm wB',nBi,Ne.symm n5B⟩
   ·obtain⟨q1,q2⟩:=hbM e
    have q3:gM≠gT':=fun e2=>by rw[e2,b3T] at q2;cases q2
    have q4:gM≠gQ:=fun e2=>by rw[e2,b3N] at q2;cases q2
    by_cases e3:gM=gR'
    ·subst e3
     exact⟨q3,q4,nRC,Ne.symm wR,nRi,q1⟩
    ·rw[b3x gM q3 q4 e3] at q2
     obtain⟨w1,w2,w3,w4,w5,w6⟩:=Kv gM q2
     exact⟨q3,q4,w4,w5,w6,q1⟩
  obtain⟨nMT,nMQ,nMC,nMw,nMi,nM5⟩:=nM
  have mL: ∀X Y,Sub (rem b3 gB') (upd (rem (upd b3 g5 X) gB') gM Y):=fun X Y z y hz=>by
   rw[aF] at hz
   rw[aA,aF,aA]
   grind
  have lJ: ∀X Y Z,Sub (upd (upd (rem b3 gB') gM Y) gT' Z) (upd (upd (rem (upd b3 g5 X) gB') gM Y) gT' Z):=fun X Y Z z y hz=>by
   simp only[aA,aF] at hz ⊢
   grind
  refine⟨mL _ _,Dq 11 false ?_⟩
  simp
  refine⟨mL _ _,Dq 12 false ?_⟩
  simp
  refine⟨mL _ _,Dq 13 true ?_⟩
  simp[Ne.symm nMT,nTB,n5T,Ne.symm n5T,b3T]
  refine Dd ?_
  simp
  refine aC ?_
  simp[wi,aB]
  obtain⟨b4,jH⟩: ∃b4,b4=upd (upd (rem b3 gB') gM (some ⟨1,iv (lb (i+1) fun q=>n+q)⟩)) gT' (some ⟨4,[[.int .i64 N,.lsl gQ 1 0 (i+1),.lsl gM 1 0 (i+1),.lsl gC' 3 0 N1]]⟩):=⟨_,rfl⟩
  have b4T:b4 gT'=some ⟨4,[[.int .i64 N,.lsl gQ 1 0 (i+1),.lsl gM 1 0 (i+1),.lsl gC' 3 0 N1]]⟩:=by rw[jH];simp
  have b4M:b4 gM=some ⟨1,iv (lb (i+1) fun q=>n+q)⟩:=by rw[jH];simp[nMT]
  have b4x: ∀x,x≠gT'→x≠gM→x≠gB'→b4 x=b3 x:=fun x x1 x2 x3=>by rw[jH,aG _ _ _ _ x1,aG _ _ _ _ x2,aF,if_neg x3]
  have b4o: ∀x,x≠gT'→x≠gM→x≠gB'→x≠gQ→x≠gR'→b4 x=by' x:=fun x x1 x2 x3 x4 x5=>by rw[b4x x x1 x2 x3,b3x x x1 x4 x5]
  have fr: ∀x,by' x=none→bl x=none:=fun x hx=>by
   cases hv:bl x with
   | none => rfl
   | some y =>
     have h5:=hsb x y hv
     have h6:=hW2.sub x y h5
     simp only at h6
     by_cases e:x=gC'
     ·rw[e,yC] at hx;cases hx
     ·rw[yx x e,h6] at hx;cases hx
  have blT:bl gT'=none:=hal gT' (by simp[SG.all])
  have blR:bl gR'=none:=hal gR' (by simp[SG.all])
  have blB:bl gB'=none:=hal gB' (by simp[SG.all])
  have blC:bl gC'=none:=hal gC' (by simp[SG.all])
  have blw:bl gN=none:=by
   cases hv:bl gN with
   | none => rfl
   | some y => have := hsb gN y hv; have h6 := hW2.new; simp only at h6; rw [h6] at this; cases this
  have blQ:bl gQ=none:=by
   by_cases e:gQ=gR'
   ·rw[e];exact blR
   ·exact fr gQ (hbQ e).2
  have blM:bl gM=none:=by
   by_cases e:gM=gB'
   ·rw[e];exact blB
   ·by_cases e3:gM=gR'
    ·rw[e3];exact blR
    ·have:=(hbM e).2
     rw[b3x gM nMT nMQ e3] at this;exact fr gM this
  have Oq:=hSy.snoc (b':=b4) gQ gM gN (by simp only;rw[hN1,b4x gQ nQT (Ne.symm nMQ) nQB,b3N]) (by exact b4M) (by simp only;rw[hN1,b4T])
   (by simp only;exact b4o gC' (Ne.symm nTC) (Ne.symm nMC) (Ne.symm nBC) (Ne.symm nQC) (Ne.symm nRC))
   (fun x hx=>by simp only at hx;exact b4o x (fun e=>nTi (e▸hx)) (fun e=>nMi (e▸hx)) (fun e=>nBi (e▸hx)) (fun e=>nQi (e▸hx)) (fun e=>nRi (e▸hx)))
   (by rw[hN1,b4o gN wT (Ne.symm nMw) wB' (Ne.symm nQw) wR,yw]) hW2.nn hgQ hgM (by
     simp only[SG.all,List.nodup_cons,List.mem_cons,not_or,List.mem_append,List.mem_singleton,List.nodup_append,List.not_mem_nil,or_false]
     refine⟨⟨Ne.symm nQT,Ne.symm nMT,nTC,nTi,Ne.symm wT⟩,⟨Ne.symm nMQ,nQC,nQi,nQw⟩,⟨nMC,nMi,nMw⟩,⟨nCi,Ne.symm wC⟩,nds,by simp,fun a ha c hc=> ?_⟩
     rw[hc];exact fun e=>wI (e▸ha))
  refine⟨⟨i+1,⟨gT',gQ,gM,gC',ids++ [gN]⟩,b4⟩,⟨by simp only;omega,Oq,rfl,fun x hx=> ?_,fun x y hx=> ?_⟩,by simp only;omega,rfl,by simp[Pg.v,h.aP,h.rows,h.b],by rw[jH];exact lJ _ _ _⟩
  ·simp only[SG.all,List.mem_cons,List.mem_append,List.not_mem_nil,or_false] at hx
   rcases hx with rfl | rfl | rfl | rfl | hx | rfl
   ·exact blT
   ·exact blQ
   ·exact blM
   ·exact blC
   ·exact hal x (by simp[SG.all,hx])
   ·exact blw
  ·have nx: ∀z,bl z=none→x≠z:=fun z hz e=>by rw[e,hz] at hx;cases hx
   simp only
   rw[b4o x (nx _ blT) (nx _ blM) (nx _ blB) (nx _ blQ) (nx _ blR),yx x (nx _ blC)]
   exact hW2.sub x y (hsb x y hx)
 ·have hie:m=i:=by omega
  refine aC ?_
  simp
  rw[cE]
  refine⟨[.loc gT' 4 0 0],by simp,hK b' ⟨gT',gR',gB',gC',ids⟩ ?_ hal hsb⟩
  unfold snV
  rw[←hie,←hN] at hS
  rw[show(List.range m).length=m by simp]
  refine hS.congr (fun q c hq hc=> ?_) (fun c hc=> ?_) fun q hq=> ?_
  ·rw[dU hq]
   show eQ p n m q c=eQ p n m q _
   by_cases e:c<n+m
   ·rw[if_pos e]
   ·rw[if_neg e,show c=n+m by omega]
  ·rw[Yx h (by omega)]
   by_cases e:c<n+m
   ·rw[if_pos e]
   ·rw[if_neg e,show c=n+m by omega]
  ·rw[dU hq];rfl
end Go.Proofs.YticmgmemnpcbbaaGreat.Vm

namespace Go.Proofs.YticmgmemnpcbbaaGreat.Lp
set_option linter.unusedSimpArgs false
set_option linter.unusedVariables false
noncomputable def opt (n m : Nat) (E : Nat → Nat → Rat) (b : Nat) (C : Nat → Rat) : Option (Option (Nat → Rat)) :=
 open Classical in
 if h: ∃x,tL n m E b C x then some (some fun c=>if c<n then h.choose c else 0)
 else if∃x,kB n m E b x then some none else none
theorem tZ {n m b:Nat} {E:Nat→Nat→Rat} {C x:Nat→Rat} (h:tL n m E b C x):opt n m E b C=some (some fun c=>if c<n then x c else 0):=by
 have he: ∃x,tL n m E b C x:=⟨x,h⟩
 unfold opt
 rw[dif_pos he]
 congr 2
 funext c
 split
 ·exact Kg he.choose_spec h c (by assumption)
 ·rfl
theorem I4 {n m b:Nat} {E:Nat→Nat→Rat} {C:Nat→Rat} (h:Unb n m E b C) {x:Nat→Rat} (hx:kB n m E b x):opt n m E b C=some none:=by
 have he: ¬ ∃x,tL n m E b C x:=fun⟨x,hb⟩=>X4 h hb
 unfold opt
 rw[dif_neg he,if_pos ⟨x,hx⟩]
theorem B4 {n m b:Nat} {E:Nat→Nat→Rat} {C:Nat→Rat} (h: ∀x, ¬ kB n m E b x):opt n m E b C=none:=by
 have he: ¬ ∃x,tL n m E b C x:=fun⟨x,hb⟩=>h x hb.1
 unfold opt
 rw[dif_neg he,if_neg fun⟨x,hx⟩=>h x hx]
theorem Ga {n m b:Nat} {E:Nat→Nat→Rat} {x y:Nat→Rat} (h:kB n m E b x) (e: ∀c,c<n→x c=y c):kB n m E b y:=
 ⟨fun c hc=>by rw[←e c hc];exact h.nn c hc,fun i hi=>by
   have:=h.sol i hi
   rw[←this]
   exact bS fun c hc=>by rw[e c hc]⟩
theorem wS {n:Nat} {C x y:Nat→Rat} (e: ∀c,c<n→x c=y c):dot n C x=dot n C y:=bS fun c hc=>by rw[e c hc]
theorem Nj {n m b:Nat} {E:Nat→Nat→Rat} {C x:Nat→Rat} (h:opt n m E b C=some (some x)):tL n m E b C x:=by
 unfold opt at h
 split at h
 ·rename_i he
  cases h
  have hb:=he.choose_spec
  have e: ∀c,c<n→he.choose c=if c<n then he.choose c else 0:=fun c hc=>by rw[if_pos hc]
  refine⟨Ga hb.1 e,fun y hy hp=>hb.2 y hy ?_⟩
  refine eO hp fun q hq=> ?_
  rw[wS (C:=wl C q) e]
 ·split at h<;>cases h

def Den (L n:Nat) (x:Nat→Rat):Prop:= ∃v:Int,v≠0∧v.natAbs≤L∧ ∀c,c<n→ ∃a:Int,x c*v=a∧a.natAbs≤L
theorem Den.congr {L n:Nat} {x y:Nat→Rat} (h:Den L n x) (e: ∀c,c<n→x c=y c):Den L n y:=by
 obtain⟨v,h1,h2,h3⟩:=h
 exact⟨v,h1,h2,fun c hc=>by rw[←e c hc];exact h3 c hc⟩
theorem Den.sm {L n:Nat} {x:Nat→Rat} (h:Den L n x) {c:Nat} (hc:c<n):Lp.sm L (x c):=by
 obtain⟨v,h1,h2,h3⟩:=h
 obtain⟨a,ha,hal⟩:=h3 c hc
 exact⟨a,v,h1,ha,hal,h2⟩
theorem Qt {n m N K b:Nat} {E:Nat→Nat→Rat} {t:Tab} (h:TZ m N K E t) (hb:b<N):Den (lid K m) n (xb m b t):=by
 obtain⟨⟨v,hv⟩,hvl⟩:=h.nJ
 have hne:=h.vol
 refine⟨v,fun e=>hne (by rw[hv,e];rfl),nD hv hvl,fun c _=> ?_⟩
 by_cases e: ∃i,i<m∧t.bs i=c
 ·obtain⟨i,hi,rfl⟩:=e
  rw[aMD h.ti hi]
  obtain⟨⟨a,ha⟩,hal⟩:=h.entry hi hb
  exact⟨a,by rw[←hv,ha],nD ha hal⟩
 ·rw[aEU fun i hi e2=>e ⟨i,hi,e2⟩]
  exact⟨0,by grind,by simp⟩
theorem Den.sum {L n W:Nat} {x:Nat→Rat} (h:Den L n x) {C:Nat→Int} (hC: ∀c,c<n→(C c).natAbs≤W) (hW:1≤W): ∀k,k≤n→Lp.sm ((n+1)*(W*L)) (S k fun c=>(C c:Rat)*x c):=by
 obtain⟨v,h1,h2,h3⟩:=h
 have key: ∀k,k≤n→ ∃a:Int,(S k fun c=>(C c:Rat)*x c)*v=a∧a.natAbs≤k*(W*L):=by
  intro k
  induction k with
  | zero => intro _; exact ⟨0, by rw [S]; grind, by simp⟩
  | succ k ih =>
    intro hk
    obtain⟨a,ha,hal⟩:=ih (by omega)
    obtain⟨z,hz,hzl⟩:=h3 k (by omega)
    refine⟨a+C k*z,?_,?_⟩
    ·rw[S,Rat.intCast_add,Rat.intCast_mul,←ha,←hz];grind
    ·have e1:=Int.natAbs_add_le a (C k*z)
     have e2:(C k*z).natAbs≤W*L:=by rw[Int.natAbs_mul];exact Nat.mul_le_mul (hC k (by omega)) hzl
     rw[Nat.add_mul,Nat.one_mul];omega
 intro k hk
 obtain⟨a,ha,hal⟩:=key k hk
 refine⟨a,v,h1,ha,Nat.le_trans hal (Nat.mul_le_mul_right _ (by omega)),Nat.le_trans h2 ?_⟩
 have e1:1*L≤W*L:=Nat.mul_le_mul_right _ hW
 have e2:1*(W*L)≤(n+1)*(W*L):=Nat.mul_le_mul_right _ (by omega)
 omega
theorem runs {n m K:Nat} {E:Nat→Nat→Rat} (C:Nat→Rat) (h:Init n m K E):(∀x, ¬ kB n m E (n+m) x)∨
  ∃t rows,Inv n m (n+m) (n+m+1) K E rows t∧(∀i,i∈rows→t.bs i<n)∧nx n (n+m) rows (okL m n C) t=none:=by
 obtain⟨e,h1,h2,h3,h4⟩:=tK (N':=n+m) (F:=fun c=>c<n) h (fun c hc=>by omega) (Nat.le_refl _) (fun c hc=>⟨by omega,hc⟩)
 generalize orb (nx (n+m) (n+m) (List.range m) (okW m (bK n m) fun c=>c<n)) (lH n E) e=t at *
 by_cases hp:rc m (bK n m) t (n+m)=0
 ·right
  have hk:=(kL (h4.lT hp) (by omega) m (Nat.le_refl _)).inv
  have R:uS n m (n+m) (n+1) n (n+m+1) (wl C) (fun c=>c<n) (bO n (kicks n t m) m) (okL m n C):=Zx (by omega) (by omega)
  obtain⟨e2,g1,g2,g3⟩:=R.ends hk
  exact⟨_,_,g3 e2 (Nat.le_refl _),R.low (fun c hc=>hc) g3 (fun i hi=>(mE.1 hi).2) e2 (Nat.le_refl _),g1⟩
 ·exact .inl fun x=>h4.no hp x
theorem answers {n m K:Nat} {E:Nat→Nat→Rat} (C:Nat→Rat) (h:Init n m K E):(opt n m E (n+m) C=none∧ ∀x, ¬ kB n m E (n+m) x)∨(opt n m E (n+m) C=some none∧Unb n m E (n+m) C∧ ∃x,kB n m E (n+m) x)∨
  ∃x,opt n m E (n+m) C=some (some x)∧tL n m E (n+m) C x∧Den (lid K m) n x∧ ∀c,n≤c→x c=0:=by
 rcases runs C h with g | ⟨t,rows,h1,h2,h3⟩
 ·exact .inl ⟨B4 g,g⟩
 ·have hf:kB n m E (n+m) (xb m (n+m) t):=uR h1.z.ti h1.nn (h1.zero h2)
  rcases B0 h1 h2 h3 with ⟨_,hb⟩| ⟨_,hu⟩
  ·refine .inr (.inr ⟨_,tZ hb,Nj (tZ hb),(Qt (b:=n+m) h1.z (by omega)).congr fun c hc=>by rw[if_pos hc],fun c hc=>if_neg (by omega)⟩)
  ·exact .inr (.inl ⟨I4 hu hf,hu,_,hf⟩)
end Go.Proofs.YticmgmemnpcbbaaGreat.Lp

namespace Go.Proofs.YticmgmemnpcbbaaGreat.Vm
open Go Go.RowKit Go.Proofs
set_option linter.unusedSimpArgs false
set_option linter.unusedVariables false
structure aW8 (p : Pg) (n m : Nat) : Prop where
 a: ∀x,x∈p.a→x.natAbs≤100
 b: ∀x,x∈p.b→x.natAbs≤100
 c: ∀x,x∈p.c→x.natAbs≤100
 m:m≤20
 n:n≤40
noncomputable def Yw (n m : Nat) (E : Nat → Nat → Rat) : Bool := open Classical in decide (∃ x, Lp.kB n m E (n + m) x)
theorem Pa {n m:Nat} {E:Nat→Nat→Rat} :Yw n m E=true ↔ ∃x,Lp.kB n m E (n+m) x:=by unfold Yw;simp
theorem uX (n m c:Nat):Lp.isInt (Lp.bK n m c)∧ -((1000:Nat):Rat)≤Lp.bK n m c∧Lp.bK n m c≤((1000:Nat):Rat):=by
 unfold Lp.bK
 split
 ·exact⟨⟨-1,rfl⟩,by decide,by decide⟩
 ·exact⟨⟨0,rfl⟩,by decide,by decide⟩
theorem Lf {bl:Int→Option Blk} {K:V→(Int→Option Blk)→Prop} (p:Pg) (n m:Nat) (h:PgN p n m) (g:SG) (hS:SS bl g (snV (List.range m) (n+m) (n+m) m (Lp.bK n m) (Lp.lH n (eQ p n m))))
  (hK: ∀b' T r,Lp.rD n m (n+m+1) 1000 (eQ p n m) T→SS b' g (snV (List.range m) (n+m) (n+m) m (Lp.bK n m) T)→(∀x y,bl x=some y→x∉g.all→b' x=some y)→K (.bool r) b'):
  cH Tryz.prog 190 [.loc g.T 4 0 0,.bool false] bl K:=by
 have hml:=h.ml
 have hnl:=h.nl
 obtain⟨e,h1,h2,h3,h4⟩:=Lp.tK (F:=fun c=>c<n+m) (N':=n+m) h.init (fun c hc=>hc) (Nat.le_refl _) (fun c hc=>⟨by omega,by omega⟩)
 have hR:Qz n m (n+m) (eQ p n m) (List.range m) false (Lp.bK n m) (Lp.okW m (Lp.bK n m) fun c=>c<n+m):=by
  refine⟨hml,hnl,Nat.le_refl _,mN m,fun T _ i hi hn=>absurd (by simpa using hi) hn,fun c _=>uX n m c,fun T hI j hj hb hok=> ?_⟩
  obtain⟨q,hq,e1⟩:=hb
  have hq':q<m:=by simpa using hq
  have e2:=Lp.mI hI.z.ti (Lp.bK n m) hq'
  simp only at e1
  rw[dU hq'] at e1
  rw[e1] at e2
  have:=hok.2
  rw[e2] at this;exact absurd this (by decide)
 have hnx:Lp.nx (n+m) (n+m) (List.range m) (Lp.okW m (Lp.bK n m) fun c=>c<n+m) (Lp.orb (Lp.nx (n+m) (n+m) (List.range m) (Lp.okW m (Lp.bK n m) fun c=>c<n+m)) (Lp.lH n (eQ p n m)) e)=none:=by
  unfold Lp.nx at h1 ⊢
  rw[h1]
 refine l10Run_cp hR g (Lp.lH n (eQ p n m)) e (fun T hI j hj hnb=> ?_) hnx h2 h3 hS (fun b' _ hS' hx=>hK b' _ true h4 hS' hx) (fun b' k hk _ _=>absurd hk (by rw[h1];simp))
 have hV:=hR.view hI
 have hco:(snV (List.range m) (n+m) (n+m) m (Lp.bK n m) T).co j=Lp.rc m (Lp.bK n m) T j:=by
  show Lp.rc m (Lp.bK n m) T (if j<n+m then j else n+m)=_
  rw[if_pos hj]
 have hfl:=U0 (snV (List.range m) (n+m) (n+m) m (Lp.bK n m) T) j (show j<n+m+1 by omega) (cN (hV.tm.co j (show j<n+m+1 by omega)))
 refine⟨_,?_,hfl⟩
 rw[Lp.D4,hco]
 unfold Lp.okW
 exact⟨fun hp=>⟨hj,hp⟩,fun hp=>hp.2⟩
theorem rD.has {p:Pg} {n m:Nat} {T:Lp.Tab} (h:Lp.rD n m (n+m+1) 1000 (eQ p n m) T):(Lp.rc m (Lp.bK n m) T (n+m)=0) ↔ Yw n m (eQ p n m)=true:=by
 rw[Pa]
 constructor
 ·intro h0;exact⟨_,h.Qg h0⟩
 ·rintro⟨x,hx⟩
  exact Classical.byContradiction fun h0=>h.no h0 x hx
end Go.Proofs.YticmgmemnpcbbaaGreat.Vm

namespace Go.Proofs.YticmgmemnpcbbaaGreat.Lp
set_option linter.unusedSimpArgs false
set_option linter.unusedVariables false
def part (w:Nat→Rat) (t:Tab) (rw_:Nat→Nat) (i c:Nat):Rat:=w c - S i fun p=>t.X (rw_ p) c*w (t.bs (rw_ p))
theorem TZ.part {m N K W:Nat} {E:Nat→Nat→Rat} {t:Tab} (h:TZ m N K E t) {w:Nat→Rat} (hw: ∀c,c<N→isInt (w c)∧ -(W:Rat)≤w c∧w c≤W) {c:Nat} (hc:c<N) (hW:1≤W) {rw_:Nat→Nat} {i:Nat} (hi:i≤m) (hr: ∀p,p<i→rw_ p<m):Lp.sm ((m+1)*(W*lid K m)) (Lp.part w t rw_ i c):=by
 obtain⟨hvi,hvl⟩:=h.nJ
 obtain⟨v,hv⟩:=hvi
 have hne:=h.vol
 have e:Lp.part w t rw_ i c*Lp.vol m E t=w c*Lp.vol m E t - S i fun p=>w (t.bs (rw_ p))*(t.X (rw_ p) c*Lp.vol m E t):=by
  unfold Lp.part
  rw[show(S i fun p=>w (t.bs (rw_ p))*(t.X (rw_ p) c*Lp.vol m E t))=(S i fun p=>t.X (rw_ p) c*w (t.bs (rw_ p)))*Lp.vol m E t by rw[←pO];exact bS fun i _=>by grind]
  grind
 have hint:isInt (Lp.part w t rw_ i c*Lp.vol m E t):=by
  rw[e]
  exact M9 (lX (hw c hc).1 h.nJ.1) (zR fun p hp=>lX (hw _ (h.bs _ (hr p hp))).1 (h.entry (hr p hp) hc).1)
 have b1:=vF (hw c hc).2 hvl
 have b2:=Ju (n:=i) (f:=fun p=>w (t.bs (rw_ p))*(t.X (rw_ p) c*Lp.vol m E t)) (B:=(W:Rat)*lid K m) fun p hp=>vF (hw _ (h.bs _ (hr p hp))).2 (h.entry (hr p hp) hc).2
 have hB:(((m+1)*(W*lid K m):Nat):Rat)=(m:Rat)*((W:Rat)*lid K m)+(W:Rat)*lid K m:=by
  rw[Rat.natCast_mul,Rat.natCast_mul,Rat.natCast_add]
  grind
 have hle:(i:Rat)*((W:Rat)*lid K m)≤(m:Rat)*((W:Rat)*lid K m):=by
  have:i*(W*lid K m)≤m*(W*lid K m):=Nat.mul_le_mul_right _ hi
  have:=Rat.natCast_le_natCast.2 this
  simp only[Rat.natCast_mul] at this
  exact this
 obtain⟨a,ha⟩:=hint
 refine⟨a,v,fun e0=>hne (by rw[hv,e0];rfl),by rw[←hv,ha],nD ha ?_,?_⟩
 ·rw[hB,e]
  grind
 ·have h1:=nD hv hvl
  have:lid K m≤(m+1)*(W*lid K m):=by
   calc lid K m=1*(1*lid K m):=by omega
    _≤(m+1)*(W*lid K m):=Nat.mul_le_mul (by omega) (Nat.mul_le_mul hW (Nat.le_refl _))
  omega
theorem Ek {m:Nat} {E:Nat→Nat→Rat} {t:Tab} (h:TI m E t) {w:Nat→Rat} {rw_:Nat→Nat} {i:Nat} (hi:rw_ i<m) (hr: ∀p,p<i→rw_ p<m) (hne: ∀p,p<i→rw_ p≠rw_ i):Lp.part w t rw_ i (t.bs (rw_ i))=w (t.bs (rw_ i)):=by
 unfold Lp.part
 rw[jU]
 ·grind
 ·intro p hp
  rw[h.unit _ _ (hr p hp) hi,if_neg (hne p hp)];grind
theorem Lt (w:Nat→Rat) (t:Tab) (rw_:Nat→Nat) (i c:Nat):Lp.part w t rw_ (i+1) c=Lp.part w t rw_ i c - w (t.bs (rw_ i))*t.X (rw_ i) c:=by
 unfold Lp.part
 rw[S];grind
end Go.Proofs.YticmgmemnpcbbaaGreat.Lp

namespace Go.Proofs.YticmgmemnpcbbaaGreat.Vm
open Go Go.RowKit Go.Proofs
set_option linter.unusedSimpArgs false
set_option linter.unusedVariables false
theorem Di {n0 m n:Nat} {E:Nat→Nat→Rat} {rows:List Nat} {w0:Nat→Rat} {T:Lp.Tab} (hml:m≤17) (hnl:n0+m≤100) (hnn:n≤n0+m) (hr:Rows m rows) (hw: ∀c,c<n0+m+1→Lp.isInt (w0 c)∧ -((1000:Nat):Rat)≤w0 c∧w0 c≤((1000:Nat):Rat)) (z:Lp.TZ m (n0+m+1) 1000 E T):Yq (snV rows n (n0+m) m w0 T):=by
 have hl:=hr.len
 refine⟨fun i c hi hc=> ?_,fun c hc=> ?_,?_,?_⟩
 ·have hi':i<rows.length:=hi
  have hin:=hr.lt (cU hi')
  exact Lp.fP (z.sm (c:=if c<n then c else n0+m) hin (by split<;>omega)) (nZ hml)
 ·exact Lp.fP (z.rc hw (c:=if c<n then c else n0+m) (by split<;>omega) (by decide)) (vG hml)
 ·show n+1≤200;omega
 ·show rows.length≤100;omega
theorem Sl {w j:Nat} {f g:Nat→Rat} (hj:j≤w) (h: ∀c,c<j→f c=g c):(rqs w f).take j=rqs j g:=by
 unfold rqs
 rw[←List.map_take,List.take_range,Nat.min_eq_left hj]
 exact List.map_congr_left fun c hc=>by rw[h c (by simpa using hc)]
theorem rN {L:List Nat} (r:Nat) {z:Nat} (h:z<L.length):atR (L++ [r]) z=atR L z:=by
 unfold atR
 rw[List.getD_eq_getElem?_getD,List.getD_eq_getElem?_getD,List.getElem?_append_left h]
theorem xW {L:List Nat} (r:Nat) {l:Nat} (h:L.length=l):atR (L++ [r]) l=r:=by
 unfold atR
 rw[List.getD_eq_getElem?_getD,List.getElem?_append_right (by omega),h,Nat.sub_self];rfl
theorem Sd {r:Nat} {f g:Nat→Nat} (h: ∀z,z<r→f z=g z):lb r f=lb r g:=List.map_congr_left fun c hc=>by rw[h c (by simpa using hc)]
structure aKW where
 i:Nat
 b:Int→Option Blk
structure aC2 where
 j:Nat
 d:Bool
 b:Int→Option Blk
set_option maxHeartbeats 2000000 in
theorem X9 {bl:Int→Option Blk} {K:V→(Int→Option Blk)→Prop} (p:Pg) (n m:Nat) (h:PgN p n m) (g:SG) (T:Lp.Tab) (h4:Lp.rD n m (n+m+1) 1000 (eQ p n m) T) (hp:Lp.rc m (Lp.bK n m) T (n+m)=0) (hS:SS bl g (snV (List.range m) (n+m) (n+m) m (Lp.bK n m) T))
  (hK: ∀b' g',SS b' g' (snV (Lp.bO n (Lp.kicks n T m) m) n (n+m) m (wO (pC p)) (Lp.kicks n T m))→(∀x,x∈g'.all→bl x=none)→(∀x y,bl x=some y→x∉g.all→b' x=some y)→K (.loc g'.T 4 0 0) b'):
  cH Tryz.prog 201 [.agg p.v,.loc g.T 4 0 0] bl K:=by
 have hml:=h.ml
 have hnl:=h.nl
 have hkk:=Lp.kL (h4.lT hp) (show n≤n+m+1 by omega)
 have hrl:(List.range m).length=m:=by simp
 obtain⟨N,hN⟩: ∃N,n+m=N:=⟨_,rfl⟩
 refine cP Tryz.func201 rfl rfl (by rw[Tryz.ntmps201];simp) ?_
 rw[Tryz.ntmps201,Tryz.results201]
 refine aE ?_
 simp[Pg.v]
 intro g2 hg2 hb2
 refine cW 1 2 (.ptr p.v) bl (by intro z b hz;simp only[aA] at hz ⊢;grind) (by simp[frz,dropB,hb2,V.cl,Pg.v]) ?_
 have bT:bl g.T=some ⟨4,[[.int .i64 N,.lsl g.R 1 0 m,.lsl g.B 1 0 m,.lsl g.C 3 0 (N+1)]]⟩:=by
  have:=hS.hd
  simp only[snV,hrl] at this
  rw[←hN];exact this
 refine aO ?_
 refine aC ?_
 simp[bT]
 refine aI (fun q:aKW=> [(1,.loc g.T 4 0 0),(2,.ptr p.v),(18,.int .i64 m),(19,.int .i64 q.i)]) (fun q=>q.b) (fun q=>q.i≤m∧SS q.b g (snV (List.range m) (n+m) (n+m) m (Lp.bK n m) (Lp.kicks n T q.i))∧ ∀x y,bl x=some y→x∉g.all→q.b x=some y) (fun q=>m - q.i) _ ⟨0,bl⟩ ⟨Nat.zero_le _,hS,fun _ _ hx _=>hx⟩ ⟨rfl,by simp[Pg.v],Sub.refl _⟩ ?_
 clear bT hS
 rintro⟨i,b⟩ ⟨hi,hSb,hfb⟩
 simp only at hi hSb hfb
 have wi:IntKind.i64.wrap ((i:Int)+1)=(i:Int)+1:=i64_in (by omega) (by omega)
 obtain⟨U,hU⟩: ∃U,Lp.kicks n T i=U:=⟨_,rfl⟩
 rw[hU] at hSb
 have hKi:=hkk i hi
 rw[hU] at hKi
 refine aE ?_
 simp
 refine aE ?_
 simp
 refine⟨fun him=> ?_,fun him=> ?_⟩
 ·have qE:Lp.kicks n T (i+1)=Lp.lT n U i:=by rw[Lp.kicks,hU]
  have hKn:=hkk (i+1) (by omega)
  rw[qE] at hKn
  refine aO (aT ?_)
  refine aE ?_
  simp
  refine aC ?_
  simp
  refine aI (fun q:aC2=> [(1,.loc g.T 4 0 0),(2,.ptr p.v),(18,.int .i64 m),(19,.int .i64 i),(5,.int .i64 i),(6,.int .i64 q.j)]) (fun q=>q.b) (fun q=>q.j≤n∧(∀x y,bl x=some y→x∉g.all→q.b x=some y)∧((q.d=false∧ ¬ U.bs i<n∧(∀c,c<q.j→ ¬ U.X i c≠0)∧SS q.b g (snV (List.range m) (n+m) (n+m) m (Lp.bK n m) U))∨(q.d=true∧(Lp.lT n U i).bs i<n∧SS q.b g (snV (List.range m) (n+m) (n+m) m (Lp.bK n m) (Lp.lT n U i))))) (fun q=>n - q.j) _ ⟨0,decide (U.bs i<n),b⟩ ⟨Nat.zero_le _,hfb,?_⟩ ⟨rfl,by simp[Pg.v],Sub.refl _⟩ ?_
  ·by_cases e:U.bs i<n
   ·have ek:Lp.lT n U i=U:=by unfold Lp.lT;rw[if_pos e]
    exact .inr ⟨by simp[e],by rw[ek];exact e,by rw[ek];exact hSb⟩
   ·exact .inl ⟨by simp[e],e,fun c hc=>by simp only at hc;omega,hSb⟩
  clear hSb hfb
  rintro⟨j,d,b⟩ ⟨hj,hfb,hst⟩
  simp only at hj hfb hst
  have wj:IntKind.i64.wrap ((j:Int)+1)=(j:Int)+1:=i64_in (by omega) (by omega)
  rcases hst with ⟨rfl,hnb,bH,hSb⟩| ⟨rfl,hkb,hSb⟩
  ·have bT:b g.T=some ⟨4,[[.int .i64 N,.lsl g.R 1 0 m,.lsl g.B 1 0 m,.lsl g.C 3 0 (N+1)]]⟩:=by
    have:=hSb.hd
    simp only[snV,hrl] at this
    rw[←hN];exact this
   have bB:b g.B=some ⟨1,iv (lb m fun q=>U.bs (atR (List.range m) q))⟩:=by
    have:=hSb.ba
    simp only[snV,hrl] at this
    exact this
   have Ck:(i:Int)<m:=by omega
   have hge:n≤U.bs i:=by omega
   refine aO (aO ?_)
   refine vH aL (by kernel_rfl) [(1,.loc g.T 4 0 0),(2,.ptr p.v),(18,.int .i64 m),(19,.int .i64 i),(5,.int .i64 i),(6,.int .i64 j)] _ b 37 (.bool (decide (j<n))) ⟨rfl,by simp[Pg.v],Sub.refl _⟩ rfl ?_ ?_
   ·simp[Pg.v,h.aP]
    by_cases e:j<n
    ·simp[e,bT,bB,him,Ck,dU him,hge]
    ·simp[e]
   simp
   refine aC ?_
   simp
   refine⟨fun hjn=> ?_,fun hjn=> ?_⟩
   ·have hRt:SG.mk g.T g.R g.B g.C g.ids=g:=rfl
    obtain⟨gi,hgi,zJ,yZ,nT⟩:=hSb.at i (show i<(List.range m).length by rw[hrl];exact him)
    obtain⟨zr,hzr⟩: ∃zr,(snV (List.range m) (n+m) (n+m) m (Lp.bK n m) U).Z i=zr:=⟨_,rfl⟩
    have aND:b gi=some ⟨3,rqs (N+1) zr⟩:=by rw[nT,←hzr,←hN];rfl
    have bR:b g.R=some ⟨1,g.ids.map fun x=> [.lsl x 3 0 (N+1)]⟩:=by
     have:=hSb.top
     simp only[snV] at this
     rw[←hN];exact this
    have hil:g.ids.length=m:=by have:=hSb.len;simp only[snV,hrl] at this;exact this
    have hgj: ∀h,g.ids[i]'h=gi:=fun h=>by rw[List.getElem?_eq_getElem h] at hgi;exact Option.some.inj hgi
    have hjN:j<N+1:=by omega
    have aWR:(j:Int)<(N:Int)+1:=by omega
    have hzj:zr j=U.X i j:=by
     rw[←hzr]
     show U.X (atR (List.range m) i) (if j<n+m then j else n+m)=_
     rw[dU him,if_pos (by omega)]
    have htm:=Di hml hnl (Nat.le_refl (n+m)) (mN m) (fun c _=>uX n m c) hKi.z
    have hfz:fits (U.X i j):=by
     have:=htm.z i j (show i<(List.range m).length by rw[hrl];exact him) (show j<n+m+1 by omega)
     rw[hzr,hzj] at this
     exact cN this
    have l3: ∀q:Rat,(rq q).c.length=3:=fun _=>rfl
    have t3: ∀q:Rat,(rq q).c.take 3=(rq q).c:=fun _=>rfl
    refine aO (aT ?_)
    refine aO ?_
    refine aC ?_
    simp[bT,bR,him,Ck,hil,hgj,aND,hjN,aWR,hzj,l3,t3]
    refine aD (iG hfz) ?_
    simp
    by_cases hz:U.X i j=0
    ·refine aC ?_
     simp[hz]
     refine aC ?_
     simp[wj,aB]
     refine⟨⟨j+1,false,b⟩,⟨by simp only;omega,hfb,.inl ⟨rfl,hge,fun c hc=> ?_,hSb⟩⟩,by simp only;omega,rfl,by simp[Pg.v],Sub.refl _⟩
     by_cases e:c=j
     ·rw[e];exact hz
     ·exact Classical.not_not.1 (bH c (by simp only at hc;omega))
    ·have ek:Lp.lT n U i=Lp.piv U i j:=by unfold Lp.lT;rw[if_neg hnb,Lp.dW.2 ⟨hjn,hz,bH⟩]
     have hat:=dU him
     obtain⟨p1,p2,p3⟩:=Hs (n0:=n) (n:=n+m) (w0:=Lp.bK n m) (T:=U) (mN m) (pr:=i) (k:=j) (by rw[hrl];exact him) (by omega) (by rw[hat];exact hz)
     rw[hat] at p1 p2 p3
     have aED:=Di hml hnl (Nat.le_refl (n+m)) (mN m) (fun c _=>uX n m c) hKn.z
     rw[ek] at aED
     refine aC ?_
     simp[hz]
     refine yK g (snV (List.range m) (n+m) (n+m) m (Lp.bK n m) U) i j hSb (show i<(List.range m).length by rw[hrl];exact him) (show j<n+m+1 by omega) htm (by rw[hzr,hzj];exact hz) ⟨fun a c ha hc=> ?_,fun c hc=> ?_,htm.w,htm.r⟩ fun b' hS' hx'=> ?_
     ·show qB (zpv _ i j a c)
      rw[p1 a c ha];exact aED.z a c ha hc
     ·show qB (cpv _ _ i j c)
      rw[p2 c];exact aED.co c hc
     simp
     refine aC ?_
     simp[wj,aB]
     refine⟨⟨j+1,true,b'⟩,⟨by simp only;omega,fun x y g1 g2=>hx' x y (hfb x y g1 g2) g2,.inr ⟨rfl,by rw[ek,Lp.eE];exact hjn,?_⟩⟩,by simp only;omega,rfl,by simp[Pg.v],Sub.refl _⟩
     rw[ek]
     exact hS'.congr (fun q c hq _=>p1 q c hq) (fun c _=>p2 c) (fun q hq=>p3 q hq)
   ·have hje:j=n:=by omega
    have ek:Lp.lT n U i=U:=by
     unfold Lp.lT
     rw[if_neg hnb,Lp.fD.2 fun c hc=>bH c (by omega)]
    refine aC ?_
    simp[wi,aB]
    refine⟨⟨i+1,b⟩,⟨by simp only;omega,by simp only;rw[qE,ek];exact hSb,hfb⟩,by simp only;omega,rfl,by simp[Pg.v],Sub.refl _⟩
  ·have bT:b g.T=some ⟨4,[[.int .i64 N,.lsl g.R 1 0 m,.lsl g.B 1 0 m,.lsl g.C 3 0 (N+1)]]⟩:=by
    have:=hSb.hd
    simp only[snV,hrl] at this
    rw[←hN];exact this
   have bB:b g.B=some ⟨1,iv (lb m fun q=>(Lp.lT n U i).bs (atR (List.range m) q))⟩:=by
    have:=hSb.ba
    simp only[snV,hrl] at this
    exact this
   have Ck:(i:Int)<m:=by omega
   have hlt: ¬ n≤(Lp.lT n U i).bs i:=by omega
   refine aO (aO ?_)
   refine vH aL (by kernel_rfl) [(1,.loc g.T 4 0 0),(2,.ptr p.v),(18,.int .i64 m),(19,.int .i64 i),(5,.int .i64 i),(6,.int .i64 j)] _ b 37 (.bool false) ⟨rfl,by simp[Pg.v],Sub.refl _⟩ rfl ?_ ?_
   ·simp[Pg.v,h.aP]
    by_cases e:j<n
    ·simp[e,bT,bB,him,Ck,dU him,hlt]
     try omega
    ·simp[e]
   simp
   refine aC ?_
   simp
   refine aC ?_
   simp[wi,aB]
   refine⟨⟨i+1,b⟩,⟨by simp only;omega,by simp only;rw[qE];exact hSb,hfb⟩,by simp only;omega,rfl,by simp[Pg.v],Sub.refl _⟩
 ·have hie:i=m:=by omega
  subst hie
  clear him hi wi
  obtain⟨rows,lK⟩: ∃rows,Lp.bO n (Lp.kicks n T i) i=rows:=⟨_,rfl⟩
  rw[lK] at hK
  rw[hU] at hK lK
  have nE:=wJ n i U
  have hRl:(List.range i).length=i:=hrl
  have hin: ∀x,x∈g.all→ ∃y,b x=some y:=fun x hx=>by
   simp only[SG.all,List.mem_cons] at hx
   rcases hx with rfl | rfl | rfl | rfl | hx
   ·exact⟨_,hSb.hd⟩
   ·exact⟨_,hSb.top⟩
   ·exact⟨_,hSb.ba⟩
   ·exact⟨_,hSb.cst⟩
   ·obtain⟨q,hq⟩:=List.mem_iff_getElem?.1 hx
    exact⟨_,hSb.row q x hq⟩
  have frB: ∀x,b x=none→bl x=none:=fun x hx=>by
   cases hv:bl x with
   | none => rfl
   | some y =>
     by_cases e:x∈g.all
     ·obtain⟨z,hz⟩:=hin x e
      rw[hx] at hz;cases hz
     ·have:=hfb x y hv e
      rw[hx] at this;cases this
  have bT0:b g.T=some ⟨4,[[.int .i64 N,.lsl g.R 1 0 i,.lsl g.B 1 0 i,.lsl g.C 3 0 (N+1)]]⟩:=by
   have:=hSb.hd
   simp only[snV,hrl] at this
   rw[←hN];exact this
  have bR0:b g.R=some ⟨1,g.ids.map fun x=> [.lsl x 3 0 (N+1)]⟩:=by
   have:=hSb.top
   simp only[snV] at this
   rw[←hN];exact this
  have bB0:b g.B=some ⟨1,iv (lb i fun q=>U.bs (atR (List.range i) q))⟩:=by
   have:=hSb.ba
   simp only[snV,hrl] at this
   exact this
  have hil:g.ids.length=i:=by have:=hSb.len;simp only[snV,hrl] at this;exact this
  have aUR: ∀q x,g.ids[q]? =some x→b x=some ⟨3,rqs (N+1) fun c=>U.X q (if c<N then c else N)⟩:=fun q x hq=>by
   have hqi:q<i:=by rw[←hil];exact(List.getElem?_eq_some_iff.1 hq).1
   rw[hSb.row q x hq]
   simp only[snV]
   rw[hN,dU hqi]
  obtain⟨w,hw⟩: ∃w,wO (pC p)=w:=⟨_,rfl⟩
  rw[hw] at hK
  have hwi: ∀c,w c=((pC p c:Int):Rat):=fun c=>by rw[←hw];rfl
  have hpc: ∀c,(pC p c).natAbs≤1000:=fun c=>jR h.cm c
  refine aE ?_
  simp[Pg.v,h.aP]
  intro gT hgT hbT
  refine dJ [(1,.loc g.T 4 0 0),(2,.ptr p.v),(7,.loc gT 4 0 0)] 179 (upd b gT (some ⟨4,[[.int .i64 n,.nils,.nils,.nils]]⟩)) ⟨rfl,by simp[Pg.v,h.aP],sub_eq (by simp)⟩ ?_
  refine dD (g:=gT) (s:=4) (els:= [[.int .i64 n,.nils,.nils,.nils]]) 0 1 1 (by simp) rfl rfl fun gR hgR hRT=> ?_
  simp[hRT] at hgR
  refine dD (g:=gT) (s:=4) (els:= [[.int .i64 n,.lsl gR 1 0 0,.nils,.nils]]) 0 2 1 (by simp[Ne.symm hRT]) rfl rfl fun gB hgB hBT=> ?_
  simp[hBT] at hgB
  obtain⟨hBR,hgB⟩:=hgB
  refine dD (g:=gT) (s:=4) (els:= [[.int .i64 n,.lsl gR 1 0 0,.lsl gB 1 0 0,.nils]]) 0 3 3 (by simp[Ne.symm hBT]) rfl rfl fun gC hgC hCT=> ?_
  simp[hCT] at hgC
  obtain⟨hCB,hCR,hgC⟩:=hgC
  obtain⟨b1,hb1⟩: ∃b1,b1=upd (upd (upd (upd (upd (upd (upd b gT (some ⟨4,[[.int .i64 n,.nils,.nils,.nils]]⟩)) gT (some ⟨4,[[.int .i64 n,.lsl gR 1 0 0,.nils,.nils]]⟩)) gR (some ⟨1,[]⟩)) gT (some ⟨4,[[.int .i64 n,.lsl gR 1 0 0,.lsl gB 1 0 0,.nils]]⟩)) gB (some ⟨1,[]⟩)) gT (some ⟨4,[[.int .i64 n,.lsl gR 1 0 0,.lsl gB 1 0 0,.lsl gC 3 0 0]]⟩)) gC (some ⟨3,[]⟩):=⟨_,rfl⟩
  have b1T:b1 gT=some ⟨4,[[.int .i64 n,.lsl gR 1 0 0,.lsl gB 1 0 0,.lsl gC 3 0 0]]⟩:=by rw[hb1];simp[Ne.symm hCT]
  have b1R:b1 gR=some ⟨1,[]⟩:=by rw[hb1];simp[Ne.symm hCR,hRT,Ne.symm hBR]
  have b1B:b1 gB=some ⟨1,[]⟩:=by rw[hb1];simp[Ne.symm hCB,hBT]
  have b1C:b1 gC=some ⟨3,rqs 0 w⟩:=by rw[hb1];simp[rqs]
  have s1:Sub b b1:=fun x y hx=>by
   have x1:x≠gT:=fun e=>by rw[e,hbT] at hx;cases hx
   have x2:x≠gR:=fun e=>by rw[e,hgR] at hx;cases hx
   have x3:x≠gB:=fun e=>by rw[e,hgB] at hx;cases hx
   have x4:x≠gC:=fun e=>by rw[e,hgC] at hx;cases hx
   rw[hb1];simp[x1,x2,x3,x4,hx]
  refine dJ [(1,.loc g.T 4 0 0),(2,.ptr p.v),(7,.loc gT 4 0 0)] 179 b1 ⟨rfl,by simp,by rw[hb1];exact sub_eq (by simp)⟩ ?_
  clear hb1
  refine aO ?_
  refine aC ?_
  simp
  refine aI (fun q:Ps=> [(1,.loc g.T 4 0 0),(2,.ptr p.v),(7,.loc gT 4 0 0),(8,.int .i64 q.j)]) (fun q=>q.b) (fun q=>q.j≤n∧q.b gT=some ⟨4,[[.int .i64 n,.lsl gR 1 0 0,.lsl gB 1 0 0,.lsl q.gC 3 0 q.j]]⟩∧q.b gR=some ⟨1,[]⟩∧q.b gB=some ⟨1,[]⟩∧q.b q.gC=some ⟨3,rqs q.j w⟩∧(q.gC≠gT∧q.gC≠gR∧q.gC≠gB∧b q.gC=none)∧Sub b q.b) (fun q=>n - q.j) _ ⟨0,gC,b1⟩ ⟨Nat.zero_le _,b1T,b1R,b1B,b1C,⟨hCT,hCR,hCB,hgC⟩,s1⟩ ⟨rfl,by simp,Sub.refl _⟩ ?_
  clear s1 b1T b1R b1B b1C hgC hCB hCR hCT
  rintro⟨j,gC,c⟩ ⟨hj,cT,cR,cB,cC,⟨nCT,nCR,nCB,cbl⟩,hsb⟩
  simp only at hj cT cR cB cC nCT nCR nCB cbl hsb
  have wj:IntKind.i64.wrap ((j:Int)+1)=(j:Int)+1:=i64_in (by omega) (by omega)
  refine aO ?_
  refine aC ?_
  simp[Pg.v,h.aP]
  refine⟨fun hjn=> ?_,fun hjn=> ?_⟩
  ·refine aO (aT ?_)
   have hR0:=dO (pC p j) (by have:=hpc j;omega)
   rw[←hwi] at hR0
   refine dK aL (rem c gC) (eH c gC) [0,1,2,3,4,5,6,7,8,9,10] 5 15 (by kernel_rfl) ?_
   simp[Ne.symm nCT,cT,Pg.v,h.c,hjn]
   refine aN hR0 ?_
   simp
   refine Dq 11 false ?_
   simp[RT.c]
   intro g4 hg4 hb4
   have n4T:g4≠gT:=fun e=>by rw[e,cT] at hb4;cases hb4
   have n4R:g4≠gR:=fun e=>by rw[e,cR] at hb4;cases hb4
   have n4B:g4≠gB:=fun e=>by rw[e,cB] at hb4;cases hb4
   have n4C:g4≠gC:=fun e=>by rw[e,cC] at hb4;cases hb4
   have sQ: ∀X,Sub (rem c gC) (upd c g4 X):=fun X z y hz=>by
    rw[aF] at hz
    rw[aA]
    grind
   refine⟨sQ _,Dq 12 false ?_⟩
   have tkC:(rqs j w).take j=rqs j w:=List.take_of_length_le (by simp)
   simp[n4C,Ne.symm n4C,appV,elsV,Int.not_lt.2 hg4,cC,tkC]
   have hsn:rqs j w++ [[V.bool (rq (w j)).neg,.sl (iv (rq (w j)).m),.sl (iv (rq (w j)).d)]]=rqs (j+1) w:=by rw[kU];rfl
   rw[hsn]
   refine⟨by omega,fun gN hgN hbN=> ?_⟩
   have nN:gN≠gT∧gN≠gR∧gN≠gB∧gN≠g4:=by
    by_cases e:gN=gC
    ·subst e
     exact⟨nCT,nCR,nCB,Ne.symm n4C⟩
    ·obtain⟨q1,q2⟩:=hbN e
     exact⟨fun e=>(by rw[e,cT] at q2;cases q2),fun e=>(by rw[e,cR] at q2;cases q2),fun e=>(by rw[e,cB] at q2;cases q2),q1⟩
   obtain⟨nNT,nNR,nNB,nN4⟩:=nN
   have blN:b gN=none:=by
    by_cases e:gN=gC
    ·rw[e];exact cbl
    ·cases hv:b gN with
     | none => rfl
     | some y => have := hsb gN y hv; rw [(hbN e).2] at this; cases this
   have iO: ∀X Y,Sub (rem c gC) (upd (rem (upd c g4 X) gC) gN Y):=fun X Y z y hz=>by
    rw[aF] at hz
    rw[aA,aF,aA]
    grind
   have lJ: ∀X Y Z,Sub (upd (upd (rem c gC) gN Y) gT Z) (upd (upd (rem (upd c g4 X) gC) gN Y) gT Z):=fun X Y Z z y hz=>by
    simp only[aA,aF] at hz ⊢
    grind
   refine⟨iO _ _,Dq 13 false ?_⟩
   simp
   refine⟨iO _ _,Dq 14 false ?_⟩
   simp
   refine⟨iO _ _,Dq 15 true ?_⟩
   simp[Ne.symm nNT,Ne.symm nCT,n4T,Ne.symm n4T,cT]
   refine Dd ?_
   simp
   refine aC ?_
   simp[wj,aB]
   obtain⟨b2,hb2⟩: ∃b2,b2=upd (upd (rem c gC) gN (some ⟨3,rqs (j+1) w⟩)) gT (some ⟨4,[[.int .i64 n,.lsl gR 1 0 0,.lsl gB 1 0 0,.lsl gN 3 0 (j+1)]]⟩):=⟨_,rfl⟩
   refine⟨⟨j+1,gN,b2⟩,⟨by simp only;omega,by rw[hb2];simp,by rw[hb2];simp[hRT,Ne.symm nNR,Ne.symm nCR,cR],by rw[hb2];simp[hBT,Ne.symm nNB,Ne.symm nCB,cB],by rw[hb2];simp[nNT],⟨nNT,nNR,nNB,blN⟩,fun x y hx=> ?_⟩,by simp only;omega,rfl,by simp[Pg.v,h.aP,h.c],by rw[hb2];exact lJ _ _ _⟩
   have x1:x≠gT:=fun e=>by rw[e,hbT] at hx;cases hx
   have x2:x≠gN:=fun e=>by rw[e,blN] at hx;cases hx
   have x3:x≠gC:=fun e=>by rw[e,cbl] at hx;cases hx
   simp only
   rw[hb2];simp[x1,x2,x3];exact hsb x y hx
  have Pr:j=n:=by omega
  subst Pr
  have hwN:w (j+i)=0:=by
   rw[hwi,show pC p (j+i)=0 by unfold pC;rw[List.getD_eq_getElem?_getD,List.getElem?_eq_none (by have:=h.cl;omega)];rfl];rfl
  obtain⟨ph,hph⟩: ∃ph:Nat→Nat,ph=fun c=>if c<j then c else j+i:=⟨_,rfl⟩
  have hpl: ∀c,c<j→ph c=c:=fun c hc=>by rw[hph];simp only;rw[if_pos hc]
  have hpn:ph j=j+i:=by rw[hph];simp only;rw[if_neg (by omega)]
  have hR0:=dO 0 (by decide)
  rw[show(((0:Int):Rat))=w (ph j) by rw[hpn,hwN];rfl] at hR0
  refine aO ?_
  refine dK aL (rem c gC) (eH c gC) [0,1,2,3,4,5] 5 10 (by kernel_rfl) ?_
  simp[Ne.symm nCT,cT]
  refine aN hR0 ?_
  simp
  refine Dq 6 false ?_
  simp[RT.c]
  intro g4 hg4 hb4
  have n4T:g4≠gT:=fun e=>by rw[e,cT] at hb4;cases hb4
  have n4R:g4≠gR:=fun e=>by rw[e,cR] at hb4;cases hb4
  have n4B:g4≠gB:=fun e=>by rw[e,cB] at hb4;cases hb4
  have n4C:g4≠gC:=fun e=>by rw[e,cC] at hb4;cases hb4
  have sQ: ∀X,Sub (rem c gC) (upd c g4 X):=fun X z y hz=>by
   rw[aF] at hz
   rw[aA]
   grind
  refine⟨sQ _,Dq 7 false ?_⟩
  have tkC:(rqs j w).take j=rqs j w:=List.take_of_length_le (by simp)
  simp[n4C,Ne.symm n4C,appV,elsV,Int.not_lt.2 hg4,cC,tkC]
  obtain⟨j1,hj1⟩: ∃j1,j+1=j1:=⟨_,rfl⟩
  have hsn:rqs j w++ [[V.bool (rq (w (ph j))).neg,.sl (iv (rq (w (ph j))).m),.sl (iv (rq (w (ph j))).d)]]=rqs j1 fun c=>w (ph c):=by
   rw[←hj1,kU,bV (f:=fun c=>w (ph c)) (g:=w) fun c hc=>by rw[hpl c hc]];rfl
  rw[hsn,hj1]
  refine⟨by omega,fun gN hgN hbN=> ?_⟩
  have nN:gN≠gT∧gN≠gR∧gN≠gB∧gN≠g4:=by
   by_cases e:gN=gC
   ·subst e
    exact⟨nCT,nCR,nCB,Ne.symm n4C⟩
   ·obtain⟨q1,q2⟩:=hbN e
    exact⟨fun e=>(by rw[e,cT] at q2;cases q2),fun e=>(by rw[e,cR] at q2;cases q2),fun e=>(by rw[e,cB] at q2;cases q2),q1⟩
  obtain⟨nNT,nNR,nNB,nN4⟩:=nN
  have blN:b gN=none:=by
   by_cases e:gN=gC
   ·rw[e];exact cbl
   ·cases hv:b gN with
    | none => rfl
    | some y => have := hsb gN y hv; rw [(hbN e).2] at this; cases this
  have iO: ∀X Y,Sub (rem c gC) (upd (rem (upd c g4 X) gC) gN Y):=fun X Y z y hz=>by
   rw[aF] at hz
   rw[aA,aF,aA]
   grind
  have lJ: ∀X Y Z,Sub (upd (upd (rem c gC) gN Y) gT Z) (upd (upd (rem (upd c g4 X) gC) gN Y) gT Z):=fun X Y Z z y hz=>by
   simp only[aA,aF] at hz ⊢
   grind
  refine⟨iO _ _,Dq 8 false ?_⟩
  simp
  refine⟨iO _ _,Dq 9 false ?_⟩
  simp
  refine⟨iO _ _,Dq 10 true ?_⟩
  simp[Ne.symm nNT,Ne.symm nCT,n4T,Ne.symm n4T,cT]
  refine Dd ?_
  simp
  obtain⟨b2,hb2⟩: ∃b2,b2=upd (upd (rem c gC) gN (some ⟨3,rqs j1 fun c=>w (ph c)⟩)) gT (some ⟨4,[[.int .i64 j,.lsl gR 1 0 0,.lsl gB 1 0 0,.lsl gN 3 0 j1]]⟩):=⟨_,rfl⟩
  have hS2:SS b2 ⟨gT,gR,gB,gN,[]⟩ ⟨0,j1,j,fun q c=>U.X (atR [] q) (ph c),fun c=>w (ph c),fun q=>U.bs (atR [] q)⟩:=by
   refine⟨rfl,by rw[hb2];simp[hRT,Ne.symm nNR,Ne.symm nCR,cR],fun q x hx=>(by cases hx),fun x hx=>(by cases hx),by rw[hb2];simp,by rw[hb2];simp[hBT,Ne.symm nNB,Ne.symm nCB,cB,lb,iv],by rw[hb2];simp[nNT],hgT,fun _=>rfl,fun _=>rfl,hgN,?_⟩
   simp[SG.all];grind
  have s2:Sub b b2:=fun x y hx=>by
   have x1:x≠gT:=fun e=>by rw[e,hbT] at hx;cases hx
   have x2:x≠gN:=fun e=>by rw[e,blN] at hx;cases hx
   have x3:x≠gC:=fun e=>by rw[e,cbl] at hx;cases hx
   rw[hb2];simp[x1,x2,x3];exact hsb x y hx
  have aOS: ∀x,x∈SG.all ⟨gT,gR,gB,gN,[]⟩→b x=none:=by simp[SG.all,hbT,hgR,hgB,blN]
  refine dJ [(1,.loc g.T 4 0 0),(2,.ptr p.v),(7,.loc gT 4 0 0)] 179 b2 ⟨rfl,by simp[Pg.v,h.aP],by rw[hb2];exact lJ _ _ _⟩ ?_
  clear hb2 lJ iO hsn tkC sQ hsb cbl nCB nCR nCT cC cB cR cT wj hj hbN blN
  have aI9:b2 g.T=_:=s2 _ _ bT0
  refine aO ?_
  refine aC ?_
  simp[aI9]
  refine aI (fun q:Ok=> [(1,.loc g.T 4 0 0),(2,.ptr p.v),(7,.loc gT 4 0 0),(95,.lsl g.R 1 0 i),(96,.int .i64 i),(97,.int .i64 q.i)]) (fun q=>q.b) (fun q=>q.i≤i∧SS q.b q.g ⟨(Lp.bO j U q.i).length,j1,j,fun z c=>U.X (atR (Lp.bO j U q.i) z) (ph c),fun c=>w (ph c),fun z=>U.bs (atR (Lp.bO j U q.i) z)⟩∧q.g.T=gT∧(∀x,x∈q.g.all→b x=none)∧Sub b q.b) (fun q=>i - q.i) _ ⟨0,⟨gT,gR,gB,gN,[]⟩,b2⟩ ⟨Nat.zero_le _,hS2,rfl,aOS,s2⟩ ⟨rfl,by simp[Pg.v,h.aP],Sub.refl _⟩ ?_
  clear hS2 aOS s2 aI9
  clear hg4 n4T n4R n4B n4C nNT nNR nNB nN4
  rintro⟨r,⟨gT',gR',gB',gC',ids⟩,b'⟩ ⟨hri,hS,e1,hal,hsb⟩
  simp only at hri hS e1 hsb
  subst e1
  have hal: ∀x,x∈SG.all ⟨gT',gR',gB',gC',ids⟩→b x=none:=hal
  have wr:IntKind.i64.wrap ((r:Int)+1)=(r:Int)+1:=i64_in (by omega) (by omega)
  have b'T:b' g.T=_:=hsb _ _ bT0
  have b'R:b' g.R=_:=hsb _ _ bR0
  have b'B:b' g.B=_:=hsb _ _ bB0
  refine aE ?_
  simp
  refine aE ?_
  simp
  refine⟨fun him=> ?_,fun him=> ?_⟩
  ·refine aO (aT ?_)
   have Ck:(r:Int)<i:=by omega
   obtain⟨gi,hgi⟩: ∃gi,g.ids[r]? =some gi:=⟨_,List.getElem?_eq_getElem (show r<g.ids.length by omega)⟩
   have hgj: ∀h,g.ids[r]'h=gi:=fun h=>by rw[List.getElem?_eq_getElem h] at hgi;exact Option.some.inj hgi
   have nT:=aUR r gi hgi
   have yZ:0≤gi:=hSb.pos gi (List.mem_of_getElem? hgi)
   have b'i:b' gi=_:=hsb _ _ nT
   refine aE ?_
   simp[b'R,him,Ck,hil,hgj]
   refine aO ?_
   refine cI aL (by kernel_rfl) ?_
   simp[b'T,b'B,Pg.v,h.aP,him,Ck,dU him]
   obtain⟨L,hL⟩: ∃L,Lp.bO j U r=L:=⟨_,rfl⟩
   have hls:=wA j r U
   rw[hL] at hS hls
   refine aC ?_
   simp
   refine⟨fun R1=> ?_,fun aAU=> ?_⟩
   ·have aDC:U.bs r<j:=by omega
    rw[if_pos aDC] at hls
    have Oa: ∀x,x∈SG.all ⟨gT',gR',gB',gC',ids⟩→ ∃y,b' x=some y:=fun x hx=>by
     simp only[SG.all,List.mem_cons] at hx
     rcases hx with rfl | rfl | rfl | rfl | hx
     ·exact⟨_,hS.hd⟩
     ·exact⟨_,hS.top⟩
     ·exact⟨_,hS.ba⟩
     ·exact⟨_,hS.cst⟩
     ·obtain⟨q,hq⟩:=List.mem_iff_getElem?.1 hx
      exact⟨_,hS.row q x hq⟩
    intro g5 hg5 hb5
    have n5i:g5≠gi:=fun e=>by rw[e,b'i] at hb5;cases hb5
    have hjN: ¬ (N:Int)+1<j:=by omega
    have aLI:j≤N+1:=by omega
    have aWG:(j:Int)≤(N:Int)+1:=by omega
    have tkw:(rqs (N+1) fun c=>U.X r (if c<N then c else N)).take j=rqs j fun c=>U.X r c:=Sl aLI fun c hc=>by rw[if_pos (by omega)]
    simp[Pg.v,h.aP,sliV,appV,elsV,n5i,Ne.symm n5i,b'i,Int.not_lt.2 hg5,hjN,aLI,aWG,tkw,yZ,Int.not_lt.2 yZ]
    refine⟨by omega,fun gw hgw hbw=> ?_⟩
    have bw:b' gw=none:=by
     by_cases e:gw=g5
     ·rw[e];exact hb5
     ·exact(hbw e).2
    obtain⟨l,hl⟩: ∃l,L.length=l:=⟨_,rfl⟩
    rw[hl] at hS
    obtain⟨bx,hbx⟩: ∃bx,bx=upd b' gw (some ⟨3,rqs j fun c=>U.X r c⟩):=⟨_,rfl⟩
    refine dJ [(1,.loc g.T 4 0 0),(2,.ptr p.v),(7,.loc gT' 4 0 0),(95,.lsl g.R 1 0 i),(96,.int .i64 i),(97,.int .i64 r),(9,.int .i64 r),(10,.lsl gi 3 0 (N+1)),(11,.lsl gw 3 0 j)] 179 bx ⟨rfl,by simp[Pg.v,h.aP],?_⟩ ?_
    ·rw[hbx]
     intro z y hz
     simp only[aA,aF] at hz ⊢
     grind
    clear hbw hgj hgi
    have Bl: ∀x y,b' x=some y→x≠gw:=fun x y hx e=>by rw[e,bw] at hx;cases hx
    have old: ∀x y,b x=some y→x≠gT'∧x≠gR'∧x≠gB'∧x≠gC':=fun x y hx=>
     ⟨fun e=>(by rw[e,hal gT' (by simp[SG.all])] at hx;cases hx),fun e=>(by rw[e,hal gR' (by simp[SG.all])] at hx;cases hx),fun e=>(by rw[e,hal gB' (by simp[SG.all])] at hx;cases hx),fun e=>(by rw[e,hal gC' (by simp[SG.all])] at hx;cases hx)⟩
    obtain⟨oTT,oTR,oTB,oTC⟩:=old _ _ bT0
    obtain⟨oBT,oBR,oBB,oBC⟩:=old _ _ bB0
    obtain⟨iT,iR,iB,iC⟩:=old _ _ nT
    have nd:=hS.nd
    simp only[SG.all,List.nodup_cons,List.mem_cons,not_or] at nd
    obtain⟨⟨nTR,nTB,nTC,nTi⟩,⟨nRB,nRC,nRi⟩,⟨nBC,nBi⟩,nCi,nds⟩:=nd
    have My:=hS.len
    have H8:b' gT'=_:=hS.hd
    have X1:b' gR'=_:=hS.top
    have M1:b' gB'=_:=hS.ba
    simp only at My H8 X1 M1
    have wT:=Bl _ _ H8
    have wR:=Bl _ _ X1
    have wB:=Bl _ _ M1
    have wC:=Bl _ _ hS.cst
    simp only at wC
    have wT0:=Bl _ _ b'T
    have wi:=Bl _ _ b'i
    have wB0:=Bl _ _ b'B
    have wI:gw∉ids:=fun e=>by
     obtain⟨q,hq⟩:=List.mem_iff_getElem?.1 e
     exact Bl _ _ (hS.row q gw hq) rfl
    have xx: ∀x,x≠gw→bx x=b' x:=fun x hx=>by rw[hbx,aG _ _ _ _ hx]
    have xT:bx g.T=_:=(xx _ wT0).trans b'T
    have xi:bx gi=_:=(xx _ wi).trans b'i
    have xB:bx g.B=_:=(xx _ wB0).trans b'B
    have xT':bx gT'=_:=(xx _ wT).trans H8
    have xR':bx gR'=_:=(xx _ wR).trans X1
    have xB':bx gB'=_:=(xx _ wB).trans M1
    have xw:bx gw=some ⟨3,rqs j fun c=>U.X r c⟩:=by rw[hbx];simp
    clear hbx
    have aMB: ∀x,bx x=none→x≠gT'∧x≠gR'∧x≠gB'∧x≠gC'∧x≠gw∧x∉ids∧x≠g.T∧x≠g.B∧x≠gi∧b' x=none:=fun x hx=>by
     have q0:x≠gw:=fun e=>by rw[e,xw] at hx;cases hx
     have q1:b' x=none:=by rw[←xx x q0];exact hx
     have nx: ∀y,b' y≠none→x≠y:=fun y hy e=>hy (e▸q1)
     refine⟨nx _ (by rw[H8];simp),nx _ (by rw[X1];simp),nx _ (by rw[M1];simp),nx _ (by rw[show b' gC'=_ from hS.cst];simp),q0,fun e=> ?_,nx _ (by rw[b'T];simp),nx _ (by rw[b'B];simp),nx _ (by rw[b'i];simp),q1⟩
     obtain⟨q,hq⟩:=List.mem_iff_getElem?.1 e
     rw[hS.row q x hq] at q1;cases q1
    refine dK aL (rem (rem bx gw) gR') (fun x y hx=>eH bx gw x y (eH _ gR' x y hx)) [0,1,2,3,4,5,6,7,8,9,10,11,12] 7 19 (by kernel_rfl) ?_
    have l3: ∀q:Rat,(rq q).c.length=3:=fun _=>rfl
    have t3: ∀q:Rat,(rq q).c.take 3=(rq q).c:=fun _=>rfl
    have hN1:(N:Int)<(N:Int)+1:=by omega
    simp[nTR,wT,oTR,wT0,iR,wi,xT,xT',xi,l3,t3,hN1]
    refine Dq 13 false ?_
    simp[RT.c]
    intro g4 hg4 hb4
    obtain⟨n4T,n4R,n4B,n4C,n4w,n4i,aYF,aYR,aY3,n4b⟩:=aMB g4 hb4
    refine⟨(by intro z y hz;simp only[aA,aF] at hz ⊢;grind),Dq 14 false ?_⟩
    have tkC:(rqs j fun c=>U.X r c).take j=rqs j fun c=>U.X r c:=List.take_of_length_le (by simp)
    simp[n4w,Ne.symm n4w,appV,elsV,Int.not_lt.2 hg4,xw,tkC]
    have hsn:(rqs j fun c=>U.X r c)++ [[V.bool (rq (U.X r N)).neg,.sl (iv (rq (U.X r N)).m),.sl (iv (rq (U.X r N)).d)]]=rqs j1 fun c=>U.X r (ph c):=by
     rw[←hj1,kU,bV (f:=fun c=>U.X r (ph c)) (g:=fun c=>U.X r c) fun c hc=>by rw[hpl c hc],hpn,hN];rfl
    rw[hsn,hj1]
    refine⟨by omega,fun gN hgN hbN=> ?_⟩
    have nN:gN≠gT'∧gN≠gR'∧gN≠gB'∧gN≠gC'∧gN∉ids∧gN≠g4∧b' gN=none:=by
     by_cases e:gN=gw
     ·subst e
      exact⟨Ne.symm wT,Ne.symm wR,Ne.symm wB,Ne.symm wC,wI,Ne.symm n4w,bw⟩
     ·obtain⟨q1,q2⟩:=hbN e
      obtain⟨m1,m2,m3,m4,_,m6,_,_,_,m9⟩:=aMB gN q2
      exact⟨m1,m2,m3,m4,m6,q1,m9⟩
    obtain⟨nNT,nNR,nNB,nNC,nNi,nN4,nNb⟩:=nN
    obtain⟨y,hy⟩: ∃y,y=upd (rem (upd bx g4 (some { sz:=3,els:= [[V.bool (rq (U.X r N)).neg,V.sl (iv (rq (U.X r N)).m),V.sl (iv (rq (U.X r N)).d)]] })) gw) gN (some { sz:=3,els:=rqs j1 fun c=>U.X r (ph c) }):=⟨_,rfl⟩
    have yN:y gN=some ⟨3,rqs j1 fun c=>U.X r (ph c)⟩:=by rw[hy];simp
    have yx: ∀x,b' x≠none→x≠gN→y x=b' x:=fun x hx hn=>by
     have q1:x≠gw:=fun e=>hx (e▸bw)
     have q2:x≠g4:=fun e=>hx (e▸n4b)
     rw[hy,aG _ _ _ _ hn,aF,if_neg q1,aG _ _ _ _ q2,xx x q1]
    have yT':y gT'=_:=(yx _ (by rw[H8];simp) (Ne.symm nNT)).trans H8
    have yR':y gR'=_:=(yx _ (by rw[X1];simp) (Ne.symm nNR)).trans X1
    have yB':y gB'=_:=(yx _ (by rw[M1];simp) (Ne.symm nNB)).trans M1
    have Qp:Sub (rem (rem bx gw) gR') y:=by
     intro z v hz
     rw[hy]
     simp only[aA,aF] at hz ⊢
     by_cases e:gN=gw
     ·grind
     ·have:=hbN e
      grind
    rw[←hy]
    refine⟨Qp,Dq 15 false ?_⟩
    simp
    intro g6 hg6 hb6
    have n6:g6≠gT'∧g6≠gR'∧g6≠gB'∧g6≠gN:=⟨fun e=>(by rw[e,yT'] at hb6;cases hb6),fun e=>(by rw[e,yR'] at hb6;cases hb6),fun e=>(by rw[e,yB'] at hb6;cases hb6),fun e=>(by rw[e,yN] at hb6;cases hb6)⟩
    obtain⟨n6T,n6R,n6B,n6N⟩:=n6
    refine⟨fun z v hz=>(by rw[aG _ _ _ _ (fun e=>by rw[e] at hz;have:=Qp _ _ hz;rw[hb6] at this;cases this)];exact Qp z v hz),Dq 16 false ?_⟩
    have tk:(ids.map fun x=> [V.lsl x 3 0 j1]).take l=ids.map fun x=> [V.lsl x 3 0 j1]:=List.take_of_length_le (by simp[My])
    simp[n6R,Ne.symm n6R,appV,elsV,Int.not_lt.2 hg6,yR',tk,My]
    have hlr:l≤r:=by rw[←hl,←hL];exact Nat.le_trans (List.length_filter_le _ _) (by simp)
    have Kv: ∀x,y x=none→b' x=none:=fun x hx=>by
     cases hv:b' x with
     | none => rfl
     | some v =>
       by_cases e:x=gN
       ·rw[e,yN] at hx;cases hx
       ·rw[yx x (by rw[hv];simp) e,hv] at hx;cases hx
    refine⟨by omega,fun gQ hgQ hbQ=> ?_⟩
    have nQ:gQ≠gT'∧gQ≠gB'∧gQ≠gC'∧gQ≠gN∧gQ∉ids∧gQ≠g6∧(gQ=gR'∨b' gQ=none):=by
     by_cases e:gQ=gR'
     ·subst e
      exact⟨Ne.symm nTR,nRB,nRC,Ne.symm nNR,nRi,Ne.symm n6R,.inl rfl⟩
     ·obtain⟨q1,q2⟩:=hbQ e
      have q3:=Kv gQ q2
      have nx: ∀y,b' y≠none→gQ≠y:=fun y hy e=>hy (e▸q3)
      refine⟨nx _ (by rw[H8];simp),nx _ (by rw[M1];simp),nx _ (by rw[show b' gC'=_ from hS.cst];simp),fun e2=>(by rw[e2,yN] at q2;cases q2),fun e2=> ?_,q1,.inr q3⟩
      obtain⟨q,hq⟩:=List.mem_iff_getElem?.1 e2
      rw[hS.row q gQ hq] at q3;cases q3
    obtain⟨nQT,nQB,nQC,nQN,nQi,nQ6,nQb⟩:=nQ
    have Jq: ∀X Y,Sub (rem (rem bx gw) gR') (upd (rem (upd y g6 X) gR') gQ Y):=fun X Y z v hz=>by
     have h1:z≠gR':=fun e=>by rw[e,aF,if_pos rfl] at hz;cases hz
     have h2:=Qp z v hz
     have h3:z≠g6:=fun e=>by rw[e,hb6] at h2;cases h2
     have h4:z≠gQ:=fun e=>by
      rw[e] at h1 h2
      rw[(hbQ h1).2] at h2;cases h2
     rw[aG _ _ _ _ h4,aF,if_neg h1,aG _ _ _ _ h3];exact h2
    have Zu: ∀X Y Z,Sub (upd (upd (rem y gR') gQ Y) gT' Z) (upd (upd (rem (upd y g6 X) gR') gQ Y) gT' Z):=fun X Y Z z v hz=>by
     simp only[aA,aF] at hz ⊢
     grind
    refine⟨Jq _ _,Dq 17 false ?_⟩
    simp
    refine⟨Jq _ _,Dq 18 false ?_⟩
    simp
    refine⟨Jq _ _,Dq 19 true ?_⟩
    simp[Ne.symm nQT,nQT,Ne.symm n6T,nTR,yT']
    refine Dd ?_
    simp
    obtain⟨b3,hb3⟩: ∃b3,b3=upd (upd (rem y gR') gQ (some ⟨1,(ids++ [gN]).map fun x=> [.lsl x 3 0 j1]⟩)) gT' (some ⟨4,[[.int .i64 j,.lsl gQ 1 0 (l+1),.lsl gB' 1 0 l,.lsl gC' 3 0 j1]]⟩):=⟨_,rfl⟩
    refine dJ [(1,.loc g.T 4 0 0),(2,.ptr p.v),(7,.loc gT' 4 0 0),(95,.lsl g.R 1 0 i),(96,.int .i64 i),(97,.int .i64 r),(9,.int .i64 r)] 179 b3 ⟨rfl,by simp[Pg.v,h.aP],by rw[hb3,List.map_append];exact Zu _ _ _⟩ ?_
    have b3Q:b3 gQ=some ⟨1,(ids++ [gN]).map fun x=> [.lsl x 3 0 j1]⟩:=by rw[hb3];simp[nQT]
    have b3T:b3 gT'=some ⟨4,[[.int .i64 j,.lsl gQ 1 0 (l+1),.lsl gB' 1 0 l,.lsl gC' 3 0 j1]]⟩:=by rw[hb3];simp
    have b3x: ∀x,x≠gT'→x≠gQ→x≠gR'→b3 x=y x:=fun x x1 x2 x3=>by rw[hb3,aG _ _ _ _ x1,aG _ _ _ _ x2,aF,if_neg x3]
    clear hb3 Zu Jq hbQ hsn tkC tk hbN hy Qp
    have nQo: ∀x v,b x=some v→x≠gQ:=fun x v hx e=>by
     rcases nQb with e2 | e2
     ·exact(old x v hx).2.1 (e.trans e2)
     ·have:=hsb x v hx;rw[e,e2] at this;cases this
    have nNo: ∀x v,b x=some v→x≠gN:=fun x v hx e=>by
     have:=hsb x v hx;rw[e,nNb] at this;cases this
    have b3o: ∀x v,b x=some v→b3 x=some v:=fun x v hx=>by
     rw[b3x x (old x v hx).1 (nQo x v hx) (old x v hx).2.1,yx x (by rw[hsb x v hx];simp) (nNo x v hx)];exact hsb x v hx
    have aV0:b3 g.T=_:=b3o _ _ bT0
    have aUA:b3 g.B=_:=b3o _ _ bB0
    have b3B:b3 gB'=_:=(b3x gB' (Ne.symm nTB) (Ne.symm nQB) (Ne.symm nRB)).trans yB'
    refine dK aL (rem b3 gB') (eH b3 gB') [0,1,2,3,4,5,6,7,8,9,10,11] 5 16 (by kernel_rfl) ?_
    simp[nTB,b3T,oTB,oBB,aV0,aUA,him,Ck,dU him]
    refine Dq 12 false ?_
    simp
    intro g5 hg5 hb5
    have n5:g5≠gT'∧g5≠gQ∧g5≠gB':=⟨fun e=>(by rw[e,b3T] at hb5;cases hb5),fun e=>(by rw[e,b3Q] at hb5;cases hb5),fun e=>(by rw[e,b3B] at hb5;cases hb5)⟩
    obtain⟨n5T,n5Q,n5B⟩:=n5
    have Ea: ∀X,Sub (rem b3 gB') (upd b3 g5 X):=fun X z y hz=>by
     rw[aF] at hz
     rw[aA]
     grind
    refine⟨Ea _,Dq 13 false ?_⟩
    have tkB:(iv (lb l fun z=>U.bs (atR L z))).take l=iv (lb l fun z=>U.bs (atR L z)):=List.take_of_length_le (by simp)
    simp[n5B,Ne.symm n5B,appV,elsV,Int.not_lt.2 hg5,b3B,tkB]
    have hlb:iv (lb l fun z=>U.bs (atR L z))++ [[.int .i64 (U.bs r)]]=iv (lb (l+1) fun z=>U.bs (atR (L++ [r]) z)):=by
     rw[V7,aZ,xW r hl,Sd (f:=fun z=>U.bs (atR (L++ [r]) z)) (g:=fun z=>U.bs (atR L z)) fun z hz=>by rw[rN r (by rw[hl];exact hz)]];rfl
    rw[hlb]
    refine⟨by omega,fun gM hgM hbM=> ?_⟩
    have nM:gM≠gT'∧gM≠gQ∧gM≠gC'∧gM≠gN∧gM∉ids∧gM≠g5∧(gM=gB'∨gM=gR'∨b' gM=none):=by
     by_cases e:gM=gB'
     ·subst e
      exact⟨Ne.symm nTB,Ne.symm nQB,nBC,Ne.symm nNB,nBi,Ne.symm n5B,.inl rfl⟩
     ·obtain⟨q1,q2⟩:=hbM e
      have q3:gM≠gT':=fun e2=>by rw[e2,b3T] at q2;cases q2
      have q4:gM≠gQ:=fun e2=>by rw[e2,b3Q] at q2;cases q2
      by_cases e3:gM=gR'
      ·subst e3
       exact⟨q3,q4,nRC,Ne.symm nNR,nRi,q1,.inr (.inl rfl)⟩
      ·rw[b3x gM q3 q4 e3] at q2
       have q5:=Kv gM q2
       have nx: ∀y,b' y≠none→gM≠y:=fun y hy e=>hy (e▸q5)
       refine⟨q3,q4,nx _ (by rw[show b' gC'=_ from hS.cst];simp),fun e2=>(by rw[e2,yN] at q2;cases q2),fun e2=> ?_,q1,.inr (.inr q5)⟩
       obtain⟨q,hq⟩:=List.mem_iff_getElem?.1 e2
       rw[hS.row q gM hq] at q5;cases q5
    obtain⟨nMT,nMQ,nMC,nMN,nMi,nM5,nMb⟩:=nM
    have mL: ∀X Y,Sub (rem b3 gB') (upd (rem (upd b3 g5 X) gB') gM Y):=fun X Y z y hz=>by
     rw[aF] at hz
     rw[aA,aF,aA]
     grind
    have lJ: ∀X Y Z,Sub (upd (upd (rem b3 gB') gM Y) gT' Z) (upd (upd (rem (upd b3 g5 X) gB') gM Y) gT' Z):=fun X Y Z z y hz=>by
     simp only[aA,aF] at hz ⊢
     grind
    refine⟨mL _ _,Dq 14 false ?_⟩
    simp
    refine⟨mL _ _,Dq 15 false ?_⟩
    simp
    refine⟨mL _ _,Dq 16 true ?_⟩
    simp[Ne.symm nMT,nTB,n5T,Ne.symm n5T,b3T]
    refine Dd ?_
    simp
    refine aC ?_
    simp[wr,aB]
    obtain⟨b4,jH⟩: ∃b4,b4=upd (upd (rem b3 gB') gM (some ⟨1,iv (lb (l+1) fun z=>U.bs (atR (L++ [r]) z))⟩)) gT' (some ⟨4,[[.int .i64 j,.lsl gQ 1 0 (l+1),.lsl gM 1 0 (l+1),.lsl gC' 3 0 j1]]⟩):=⟨_,rfl⟩
    have b4T:b4 gT'=some ⟨4,[[.int .i64 j,.lsl gQ 1 0 (l+1),.lsl gM 1 0 (l+1),.lsl gC' 3 0 j1]]⟩:=by rw[jH];simp
    have b4M:b4 gM=some ⟨1,iv (lb (l+1) fun z=>U.bs (atR (L++ [r]) z))⟩:=by rw[jH];simp[nMT]
    have b4x: ∀x,x≠gT'→x≠gM→x≠gB'→b4 x=b3 x:=fun x x1 x2 x3=>by rw[jH,aG _ _ _ _ x1,aG _ _ _ _ x2,aF,if_neg x3]
    have b4o: ∀x,x≠gT'→x≠gM→x≠gB'→x≠gQ→x≠gR'→b4 x=y x:=fun x x1 x2 x3 x4 x5=>by rw[b4x x x1 x2 x3,b3x x x1 x4 x5]
    have fr: ∀x,b' x=none→b x=none:=fun x hx=>by
     cases hv:b x with
     | none => rfl
     | some v => have := hsb x v hv; rw [hx] at this; cases this
    have blT:b gT'=none:=hal gT' (by simp[SG.all])
    have blR:b gR'=none:=hal gR' (by simp[SG.all])
    have blB:b gB'=none:=hal gB' (by simp[SG.all])
    have blC:b gC'=none:=hal gC' (by simp[SG.all])
    have blN:b gN=none:=fr gN nNb
    have blQ:b gQ=none:=by
     rcases nQb with e | e
     ·rw[e];exact blR
     ·exact fr gQ e
    have blM:b gM=none:=by
     rcases nMb with e | e | e
     ·rw[e];exact blB
     ·rw[e];exact blR
     ·exact fr gM e
    have hyi: ∀x,x∈ids→y x=b' x:=fun x hx=>by
     obtain⟨q,hq⟩:=List.mem_iff_getElem?.1 hx
     exact yx x (by rw[hS.row q x hq];simp) (fun e=>nNi (e▸hx))
    have hS':SS b' ⟨gT',gR',gB',gC',ids⟩ ⟨l,j1,j,fun z c=>U.X (atR (L++ [r]) z) (ph c),fun c=>w (ph c),fun z=>U.bs (atR (L++ [r]) z)⟩:=
     hS.congr (fun z c hz _=>by rw[rN r (by rw[hl];exact hz)]) (fun _ _=>rfl) (fun z hz=>by rw[rN r (by rw[hl];exact hz)])
    have Oq:=hS'.snoc (b':=b4) gQ gM gN (by rw[b4x gQ nQT (Ne.symm nMQ) nQB,b3Q]) b4M b4T
     (by simp only;rw[b4o gC' (Ne.symm nTC) (Ne.symm nMC) (Ne.symm nBC) (Ne.symm nQC) (Ne.symm nRC),yx gC' (by rw[show b' gC'=_ from hS.cst];simp) (Ne.symm nNC)])
     (fun x hx=>by simp only at hx;rw[b4o x (fun e=>nTi (e▸hx)) (fun e=>nMi (e▸hx)) (fun e=>nBi (e▸hx)) (fun e=>nQi (e▸hx)) (fun e=>nRi (e▸hx)),hyi x hx])
     (by rw[b4o gN nNT (Ne.symm nMN) nNB (Ne.symm nQN) nNR,yN];show _=some (Blk.mk 3 (rqs j1 fun c=>U.X (atR (L++ [r]) l) (ph c)));rw[xW r hl]) hgN hgQ hgM (by
       simp only[SG.all,List.nodup_cons,List.mem_cons,not_or,List.mem_append,List.mem_singleton,List.nodup_append,List.not_mem_nil,or_false]
       refine⟨⟨Ne.symm nQT,Ne.symm nMT,nTC,nTi,Ne.symm nNT⟩,⟨Ne.symm nMQ,nQC,nQi,nQN⟩,⟨nMC,nMi,nMN⟩,⟨nCi,Ne.symm nNC⟩,nds,by simp,fun a ha c hc=> ?_⟩
       rw[hc];exact fun e=>nNi (e▸ha))
    have hLl:(L++ [r]).length=l+1:=by simp[hl]
    refine⟨⟨r+1,⟨gT',gQ,gM,gC',ids++ [gN]⟩,b4⟩,⟨by simp only;omega,by rw[hls,hLl];exact Oq,rfl,fun x hx=> ?_,fun x v hx=> ?_⟩,by simp only;omega,rfl,by simp[Pg.v,h.aP],by rw[jH];exact lJ _ _ _⟩
    ·simp only[SG.all,List.mem_cons,List.mem_append,List.not_mem_nil,or_false] at hx
     rcases hx with rfl | rfl | rfl | rfl | hx | rfl
     ·exact blT
     ·exact blQ
     ·exact blM
     ·exact blC
     ·exact hal x (by simp[SG.all,hx])
     ·exact blN
    ·have nx: ∀z,b z=none→x≠z:=fun z hz e=>by rw[e,hz] at hx;cases hx
     simp only
     rw[b4o x (nx _ blT) (nx _ blM) (nx _ blB) (nx _ blQ) (nx _ blR),yx x (by rw[hsb x v hx];simp) (nx _ blN)]
     exact hsb x v hx
   ·rw[if_neg (by omega)] at hls
    refine aC ?_
    simp[wr,aB]
    exact⟨⟨r+1,⟨gT',gR',gB',gC',ids⟩,b'⟩,⟨by show r+1≤i;omega,by rw[hls];exact hS,rfl,hal,hsb⟩,by simp only;omega,rfl,by simp[Pg.v,h.aP],Sub.refl _⟩
  have aT9:r=i:=by omega
  subst aT9
  rw[lK] at hS
  rw[lK] at nE
  clear wr him
  obtain⟨l,hl⟩: ∃l,rows.length=l:=⟨_,rfl⟩
  rw[hl] at hS
  have My:=hS.len
  have H8:b' gT'=_:=hS.hd
  have X1:b' gR'=_:=hS.top
  have M1:b' gB'=_:=hS.ba
  have aPK:b' gC'=_:=hS.cst
  simp only at My H8 X1 M1 aPK
  have hlr:l≤r:=by rw[←hl];exact nE.len
  have nd:=hS.nd
  simp only[SG.all,List.nodup_cons,List.mem_cons,not_or] at nd
  obtain⟨⟨nTR,nTB,nTC,nTi⟩,⟨nRB,nRC,nRi⟩,⟨nBC,nBi⟩,nCi,nds⟩:=nd
  have hwW: ∀c,c<j+r+1→Lp.isInt (w c)∧ -((1000:Nat):Rat)≤w c∧w c≤((1000:Nat):Rat):=fun c _=>by
   have:=hpc c
   rw[hwi]
   refine⟨⟨_,rfl⟩,?_,?_⟩
   ·rw[show -((1000:Nat):Rat)=((-1000:Int):Rat) by decide+kernel];exact Rat.intCast_le_intCast.2 (by omega)
   ·rw[show((1000:Nat):Rat)=((1000:Int):Rat) by decide+kernel];exact Rat.intCast_le_intCast.2 (by omega)
  have Vv: ∀q,q<l→atR rows q<r:=fun q hq=>nE.lt (cU (by rw[hl];exact hq))
  have aM7: ∀c,ph c<j+r+1:=fun c=>by rw[hph];simp only;split<;>omega
  have htp: ∀q c,q≤l→qB (Lp.part w U (atR rows) q (ph c)):=fun q c hq=>Lp.fP (hKi.z.part hwW (aM7 c) (by decide) (by omega) fun z hz=>Vv z (by omega)) (vG hml)
  have htX: ∀q c,q<l→qB (U.X (atR rows q) (ph c)):=fun q c hq=>Lp.fP (hKi.z.sm (Vv q hq) (aM7 c)) (nZ hml)
  refine aO ?_
  refine aC ?_
  simp[H8]
  refine aI (fun q:Nat=> [(7,.loc gT' 4 0 0),(157,.lsl gR' 1 0 l),(158,.int .i64 l),(159,.int .i64 q)]) (fun q=>upd b' gC' (some ⟨3,rqs j1 fun c=>Lp.part w U (atR rows) q (ph c)⟩)) (fun q=>q≤l) (fun q=>l - q) _ 0 (Nat.zero_le _) ⟨rfl,by simp,sub_eq (by
   funext x;simp only[aA];split
   ·rename_i e
    rw[e,aPK,bV (g:=fun c=>Lp.part w U (atR rows) 0 (ph c)) fun c _=>by unfold Lp.part;rw[Lp.S];grind]
   ·rfl)⟩ ?_
  intro q hq
  have wq:IntKind.i64.wrap ((q:Int)+1)=(q:Int)+1:=i64_in (by omega) (by omega)
  refine aE ?_
  simp
  refine aE ?_
  simp
  refine⟨fun hql=> ?_,fun hql=> ?_⟩
  ·have Un:(q:Int)<l:=by omega
   obtain⟨gi,hgi⟩: ∃gi,ids[q]? =some gi:=⟨_,List.getElem?_eq_getElem (show q<ids.length by omega)⟩
   have hgj: ∀h,ids[q]'h=gi:=fun h=>by rw[List.getElem?_eq_getElem h] at hgi;exact Option.some.inj hgi
   have hgm:=List.mem_of_getElem? hgi
   have yZ:0≤gi:=hS.pos gi hgm
   have b'i:b' gi=_:=hS.row q gi hgi
   simp only at b'i
   have iC:gi≠gC':=fun e=>nCi (e▸hgm)
   obtain⟨bc,hbc⟩: ∃bc,bc=upd b' gC' (some ⟨3,rqs j1 fun c=>Lp.part w U (atR rows) q (ph c)⟩):=⟨_,rfl⟩
   have bcC:bc gC'=some ⟨3,rqs j1 fun c=>Lp.part w U (atR rows) q (ph c)⟩:=by rw[hbc];simp
   have bcx: ∀x,x≠gC'→bc x=b' x:=fun x hx=>by rw[hbc,aG _ _ _ _ hx]
   have bcT:=(bcx gT' nTC).trans H8
   have bcR:=(bcx gR' nRC).trans X1
   have bcB:=(bcx gB' nBC).trans M1
   have bci:=(bcx gi iC).trans b'i
   rw[←hbc]
   refine aO (aT ?_)
   refine aE ?_
   simp[bcR,hql,Un,My,hgj]
   have hqm:=cU (rows:=rows) (show q<rows.length by rw[hl];exact hql)
   obtain⟨ri,hri⟩: ∃ri,atR rows q=ri:=⟨_,rfl⟩
   have hbl:U.bs ri<j:=by
    rw[hri,←lK] at hqm
    exact(Lp.mE.1 hqm).2
   have aT2:ri<r:=by rw[←hri];exact Vv q hql
   have hkf:Lp.part w U (atR rows) q (ph (U.bs ri))=w (U.bs ri):=by
    rw[hpl _ hbl,←hri]
    exact Lp.Ek hKi.z.ti (by rw[hri];exact aT2) (fun z hz=>Vv z (by omega)) fun z hz e=>by
     have:=nE.inj (by omega) (by omega) e
     omega
   have Bo: ∀c,Lp.part w U (atR rows) q (ph c) - Lp.part w U (atR rows) q (ph (U.bs ri))*U.X (atR rows q) (ph c)=Lp.part w U (atR rows) (q+1) (ph c):=fun c=>by
    rw[hkf,Lp.Lt,hri]
   have hbi:(U.bs ri:Int)<j:=by omega
   refine aY aL (rem bc gC') (eH bc gC') [0,1,2,3,4,5,6,7,8,9,10,11] 1 (by kernel_rfl) ?_
   simp[nTC,nBC,bcT,bcB,hql,Un,hri]
   refine Dz 12 ?_
   simp
   refine qQ gC' gi j1 (U.bs ri) (fun c=>Lp.part w U (atR rows) q (ph c)) (fun c=>U.X (atR rows q) (ph c)) (by omega) (by omega) bcC bci (Ne.symm iC) hS.pC yZ (fun c _=>cN (htp q c hq)) (fun c _=>cN (htX q c hql)) (fun c _=>B9 (htp q _ hq) (htX q c hql)) (fun c _=>by simp only[Bo];exact cN (htp (q+1) c hql)) fun b2' hx hb'=> ?_
   simp
   refine⟨fun z y hz=> ?_,Dy ?_⟩
   ·rw[aF] at hz
    split at hz
    ·cases hz
    ·exact hx z y hz (by assumption)
   simp
   refine aC ?_
   simp[wq,aB]
   refine⟨q+1,by omega,by omega,rfl,by simp,fun z y hz=> ?_⟩
   show b2' z=some y
   by_cases e:z=gC'
   ·rw[e,aV] at hz
    rw[e,hb',←hz,bV fun c _=>Bo c]
   ·rw[aG _ _ _ _ e] at hz
    exact hx z y (by rw[bcx z e];exact hz) e
  ·have hqe:q=l:=by omega
   subst hqe
   refine aC ?_
   simp
   rw[cE]
   have hS9:=hS.aDG fun c=>Lp.part w U (atR rows) q (ph c)
   refine⟨[.loc gT' 4 0 0],by simp,hK _ ⟨gT',gR',gB',gC',ids⟩ ?_ (fun x hx=>frB x (hal x hx)) fun x y hx hng=> ?_⟩
   ·unfold snV
    simp only[hl]
    subst hj1
    have hz0: ∀c,c<r→c∉rows→w (U.bs c)=0:=fun c hc hn=>by
     rw[←lK] at hn
     have hge: ¬ U.bs c<j:=fun e=>hn (Lp.mE.2 ⟨hc,e⟩)
     rw[hwi,show pC p (U.bs c)=0 by unfold pC;rw[List.getD_eq_getElem?_getD,List.getElem?_eq_none (by have:=h.cl;omega)];rfl];rfl
    refine hS9.congr (fun z c _ _=>by rw[hph]) (fun c _=> ?_) fun z _=>rfl
    rw[hph]
    unfold Lp.part Lp.rc
    simp only
    have:=nE.sum (fun z=>U.X z (if c<j then c else j+r)*w (U.bs z)) fun z hz hn=>by rw[hz0 z hz hn];grind
    rw[hl] at this
    rw[this]
   ·have h1:=hfb x y hx hng
    have h2:=hsb x y h1
    show upd b' gC' _ x=some y
    rw[aG _ _ _ _ (fun e=>by have:=hal gC' (by simp[SG.all]);rw[←e,h1] at this;cases this)]
    exact h2

def okA (n:Nat):Nat→Bool:=fun c=>decide (c<n)
def oA (n m:Nat):Nat→Int:=fun c=>if n≤c∧c<n+m then -1 else 0
theorem Sr (n m:Nat):wO (oA n m)=Lp.bK n m:=by
 funext c
 unfold wO oA Lp.bK
 split<;>rfl
def tbA (p:Pg) (n m i:Nat) (fr:Nat→Bool):TN:=⟨i,n+m,eZ p n m,1,fun q=>n+q,fr⟩
theorem Ui (N:Nat):List.replicate N [V.bool false]=lv N fun _=>false:=by
 unfold lv
 rw[List.map_const',List.length_range]
theorem Dp (N:Nat):List.replicate N [V.int .i64 0]=iv (lz N fun _=>0):=by
 simp[iv,lz,List.map_const']
theorem Qx {N k:Nat} (f:Nat→Int) (v:Int) (h:k<N):(iv (lz N f)).set k [.int .i64 v]=iv (lz N fun c=>if c=k then v else f c):=by
 apply List.ext_getElem
 ·simp
 ·intro j h1 h2
  rw[List.getElem_set,pV,pV,zS,zS]
  by_cases e:k=j
  ·rw[if_pos e,if_pos e.symm]
  ·rw[if_neg e,if_neg (Ne.symm e)]
theorem I2 {N:Nat} {f g:Nat→Int} (h: ∀c,c<N→f c=g c):lz N f=lz N g:=List.map_congr_left fun c hc=>by rw[h c (by simpa using hc)]
theorem rH {N:Nat} {f g:Nat→Bool} (h: ∀c,c<N→f c=g c):lv N f=lv N g:=List.map_congr_left fun c hc=>by rw[h c (by simpa using hc)]
theorem TT.first {b:Int→Option Blk} {g:TG} {p:Pg} {n m:Nat} {fr:Nat→Bool} (h:PgN p n m) (ht:TT b g (tbA p n m m fr)):TT b g (cD n m (eQ p n m) (List.range m) (Lp.lH n (eQ p n m)) fr):=by
 have hr:(List.range m).length=m:=by simp
 have hd:=dz0 h
 have hb:lb m (fun q=>(Lp.lH n (eQ p n m)).bs (atR (List.range m) q))=lb m fun q=>n+q:=List.map_congr_left fun q hq=>by
  have hq':q<m:=by simpa using hq
  simp only[dU hq'];rfl
 refine⟨?_,?_,?_,ht.fre,ht.pT,?_,?_,ht.pF,ht.nd⟩
 ·have:=ht.fM.congr (Z':=fun q c=>Lp.zt m (eQ p n m) (Lp.lH n (eQ p n m)) (atR (List.range m) q) c) fun q c hq _=>by
   simp only[tbA] at hq ⊢
   rw[dU hq,zt0 h]
  simp only[cD]
  rw[hr];exact this
 ·have e:=ht.hd
  simp only[tbA] at e
  simp only[cD,hd,hr]
  exact e
 ·simp only[cD];rw[hr,hb];exact ht.ba
 ·simp only[cD];rw[hr];exact ht.pR
 ·simp only[cD];rw[hr];exact ht.pB
structure aLJ where
 i:Nat
 g:TG
 b:Int→Option Blk
theorem Nw {bl:Int→Option Blk} {K:V→(Int→Option Blk)→Prop} (p:Pg) (n m:Nat) (h:PgN p n m)
  (hN: ∀b' t,Lp.rD n m (n+m+1) 1000 (eQ p n m) t→Lp.rc m (Lp.bK n m) t (n+m)≠0→Sub bl b'→K (.tup [.nilp,.bool false]) b')
  (hS: ∀b' g t,Lp.rD n m (n+m+1) 1000 (eQ p n m) t→Lp.rc m (Lp.bK n m) t (n+m)=0→TT b' g (cD n m (eQ p n m) (Lp.bO n (Lp.kicks n t m) m) (Lp.kicks n t m) (okA n))→(∀x,x∈g.all→bl x=none)→Sub bl b'→K (.tup [.loc g.T 6 0 0,.bool true]) b'):
  cH Tryz.prog 126 [.ptr p.v] bl K:=by
 have hml:=h.ml
 have hnl:=h.nl
 have wnm:IntKind.i64.wrap ((n:Int)+(m:Int))=((n+m:Nat):Int):=by rw[i64_in (by omega) (by omega)];simp
 have hint: ∀z:Int,z.natAbs≤1000→RO Tryz.prog 160 [.int .i64 z] (.agg (biC z)):=fun z hz=>tD z (by omega)
 refine cP Tryz.func126 rfl rfl (by rw[Tryz.ntmps126];simp) ?_
 rw[Tryz.ntmps126,Tryz.results126]
 refine aC ?_
 simp
 refine cI aL (by kernel_rfl) ?_
 simp[Pg.v,h.rows,h.aP]
 rw[wnm]
 obtain⟨N,hN0⟩: ∃N,n+m=N:=⟨_,rfl⟩
 rw[hN0]
 refine aC ?_
 simp
 refine aY aL bl (Sub.refl _) [0,1,2] 4 (by kernel_rfl) ?_
 simp
 refine aN (hint 1 (by decide)) ?_
 simp
 refine Dz 3 ?_
 simp
 refine⟨by omega,by unfold maxLen;omega,fun gF hgF hbF=> ?_⟩
 have sF:Sub bl (upd bl gF (some ⟨1,List.replicate N [.bool false]⟩)):=by simp[hbF]
 refine⟨sF,Dz 4 ?_⟩
 simp
 refine⟨sF,Dz 5 ?_⟩
 simp
 intro gT hgT hTF hbT
 refine⟨by simp[hbF,hbT,hTF],Dz 6 ?_⟩
 simp
 refine⟨by simp[hbF,hbT,hTF],Dy ?_⟩
 simp
 obtain⟨b0,hb0⟩: ∃b0,b0=upd (upd bl gF (some ⟨1,List.replicate N [.bool false]⟩)) gT (some ⟨6,[[.nils,.bool false,.sl (iv (lim 1)),.nils,.int .i64 N,.lsl gF 1 0 N]]⟩):=⟨_,rfl⟩
 have b0T:b0 gT=some ⟨6,[[.nils,.bool false,.sl (iv (lim 1)),.nils,.int .i64 N,.lsl gF 1 0 N]]⟩:=by rw[hb0];simp[bW]
 have b0F:b0 gF=some ⟨1,lv N fun _=>false⟩:=by rw[hb0];simp[Ne.symm hTF,Ui]
 have s0:Sub bl b0:=by rw[hb0];simp[hbF,hbT,hTF]
 refine dJ [(0,.ptr p.v),(4,.int .i64 N),(5,.loc gT 6 0 0),(34,.int .i64 m),(35,.int .i64 0)] 205 b0 ⟨rfl,by simp[Pg.v,h.rows,h.aP],by rw[hb0];exact sub_eq (by simp[bW])⟩ ?_
 clear hb0
 refine dD (g:=gT) (s:=6) 0 0 1 b0T rfl rfl fun gR hgR hRT=> ?_
 have hgR:b0 gR=none:=hgR
 have hRF:gR≠gF:=fun e=>by rw[e,b0F] at hgR;cases hgR
 have b0R:bl gR=none:=by
  cases hv:bl gR with
  | none => rfl
  | some y => have := s0 gR y hv; rw [hgR] at this; cases this
 refine dD (g:=gT) (s:=6) (els:= [[.lsl gR 1 0 0,.bool false,.sl (iv (lim 1)),.nils,.int .i64 N,.lsl gF 1 0 N]]) 0 3 1 (by simp[Ne.symm hRT]) rfl rfl fun gB hgB hBT=> ?_
 simp[hBT] at hgB
 obtain⟨hBR,hgB⟩:=hgB
 have hBF:gB≠gF:=fun e=>by rw[e,b0F] at hgB;cases hgB
 have b0B:bl gB=none:=by
  cases hv:bl gB with
  | none => rfl
  | some y => have := s0 gB y hv; rw [hgB] at this; cases this
 obtain⟨b1,hb1⟩: ∃b1,b1=upd (upd (upd (upd b0 gT (some ⟨6,[[.lsl gR 1 0 0,.bool false,.sl (iv (lim 1)),.nils,.int .i64 N,.lsl gF 1 0 N]]⟩)) gR (some ⟨1,[]⟩)) gT (some ⟨6,[[.lsl gR 1 0 0,.bool false,.sl (iv (lim 1)),.lsl gB 1 0 0,.int .i64 N,.lsl gF 1 0 N]]⟩)) gB (some ⟨1,[]⟩):=⟨_,rfl⟩
 have t1:TT b1 ⟨gT,gR,gB,gF,[]⟩ (tbA p n m 0 (fun _=>false)):=by
  refine TT.start rfl ?_ ?_ ?_ ?_ hgT hgF ?_
  ·rw[hb1];simp[hRT,Ne.symm hBR]
  ·rw[hb1];simp
  ·rw[hb1];simp[Ne.symm hBT,Ne.symm hRT,tbA,hN0]
  ·rw[hb1];simp[Ne.symm hBF,Ne.symm hRF,Ne.symm hTF,tbA,hN0,b0F]
  ·simp;grind
 refine dJ [(0,.ptr p.v),(4,.int .i64 N),(5,.loc gT 6 0 0),(34,.int .i64 m),(35,.int .i64 0)] 205 b1 ⟨rfl,by simp,by rw[hb1];exact sub_eq (by simp)⟩ ?_
 have s1:Sub bl b1:=by
  intro x y hx
  have:=s0 x y hx
  have x1:x≠gT:=fun e=>by rw[e,hbT] at hx;cases hx
  have x2:x≠gR:=fun e=>by rw[e,b0R] at hx;cases hx
  have x3:x≠gB:=fun e=>by rw[e,b0B] at hx;cases hx
  rw[hb1]
  simp[x1,x2,x3,this]
 clear hb1
 refine aI (fun q:aLJ=> [(0,.ptr p.v),(4,.int .i64 N),(5,.loc gT 6 0 0),(34,.int .i64 m),(35,.int .i64 q.i)]) (fun q=>q.b) (fun q=>q.i≤m∧TT q.b q.g (tbA p n m q.i (fun _=>false))∧q.g.T=gT∧q.g.F=gF∧(∀x,x∈q.g.all→bl x=none)∧Sub bl q.b) (fun q=>m - q.i) _ ⟨0,⟨gT,gR,gB,gF,[]⟩,b1⟩ ⟨Nat.zero_le _,t1,rfl,rfl,by simp[TG.all,hbT,b0R,b0B,hbF],s1⟩ ⟨rfl,by simp,Sub.refl _⟩ ?_
 clear s1 t1 hgB hgR s0 b0T b0F
 clear b0R b0B hBT hBF hBR hRT hRF
 rintro⟨i,⟨gT',gR,gB,gF',ids⟩,b⟩ ⟨him,hTb,e1,e2,hal,hsb⟩
 simp only at e1 e2 him hTb hsb
 subst e1 e2
 have bT:b gT'=_:=hTb.hd
 have bB:b gB=_:=hTb.ba
 have bG:b gR=_:=hTb.fM.top
 have bF:b gF'=_:=hTb.fre
 have hil:=hTb.fM.len
 simp only[tbA] at bT bB bG bF hil
 rw[hN0] at bT bF bG
 have wi:IntKind.i64.wrap ((i:Int)+1)=(i:Int)+1:=i64_in (by omega) (by omega)
 obtain⟨N1,hN1⟩: ∃x,N+1=x:=⟨_,rfl⟩
 rw[hN1] at bG
 have wN:IntKind.i64.wrap ((N:Int)+1)=(N1:Int):=by rw[i64_in (by omega) (by omega)];omega
 refine aE ?_
 simp
 refine aE ?_
 simp
 refine⟨fun hi=> ?_,fun hi=> ?_⟩
 ·refine aO (aT ?_)
  refine aE ?_
  simp
  refine aE ?_
  simp[wN]
  refine⟨by omega,by unfold maxLen;omega,fun gr hgr hbr=> ?_⟩
  refine aJT (g:=gr) (s:=2) (els:=List.replicate N1 [.bool false,.nils]) ?_ ?_
  ·simp
  rw[Wn]
  refine aE ?_
  simp
  have rT: ¬ gr=gT':=fun e=>by rw[e,bT] at hbr;cases hbr
  have rR: ¬ gr=gR:=fun e=>by rw[e,bG] at hbr;cases hbr
  have rB: ¬ gr=gB:=fun e=>by rw[e,bB] at hbr;cases hbr
  have rF: ¬ gr=gF':=fun e=>by rw[e,bF] at hbr;cases hbr
  have ri:gr∉ids:=fun hm2=>by
   obtain⟨q,hq⟩:=List.mem_iff_getElem?.1 hm2
   rw[hTb.fM.row q gr hq] at hbr;cases hbr
  have rbl:bl gr=none:=by
   cases hv:bl gr with
   | none => rfl
   | some y => have := hsb gr y hv; rw [hbr] at this; cases this
  refine gV (fun _:Unit=> [(0,.ptr p.v),(4,.int .i64 N),(5,.loc gT' 6 0 0),(34,.int .i64 m),(35,.int .i64 i),(6,.int .i64 i),(7,.lsl gr 2 0 N1),(8,.int .i64 (sgB p i))]) (fun _=>upd b gr (some ⟨2,zv N1 fun _=>0⟩)) (fun _=>True) 205 ?_ ?_
  ·refine aC ?_
   simp[Pg.v,h.b,hi]
   refine⟨fun cO=> ?_,fun cO=> ?_⟩
   ·simp[aH]
    exact⟨rfl,by simp[Pg.v,h.b,sgB,cO],sub_eq (by simp)⟩
   ·simp[aH]
    exact⟨rfl,by simp[Pg.v,h.b,sgB,cO],sub_eq (by simp)⟩
  rintro⟨⟩ -
  obtain⟨sg,hsg⟩: ∃x,sgB p i=x:=⟨_,rfl⟩
  have sg1:sg.natAbs=1:=by rw[←hsg];unfold sgB;split<;>rfl
  rw[hsg]
  have hpA: ∀c,(sg*pA p n i c).natAbs≤1000:=fun c=>by rw[Int.natAbs_mul,sg1,Nat.one_mul];exact jR h.am _
  have hpB:(sg*pB p i).natAbs≤1000:=by rw[Int.natAbs_mul,sg1,Nat.one_mul];exact jR h.bm _
  refine gV (fun _:Unit=> [(0,.ptr p.v),(4,.int .i64 N),(5,.loc gT' 6 0 0),(34,.int .i64 m),(35,.int .i64 i),(6,.int .i64 i),(7,.lsl gr 2 0 N1),(8,.int .i64 sg)]) (fun _=>upd b gr (some ⟨2,zv N1 fun c=>if c<n then sg*pA p n i c else 0⟩)) (fun _=>True) 205 ?_ ?_
  ·refine aC ?_
   simp
   refine aD (aCI p n m i h hi) ?_
   simp
   refine aI (fun j:Nat=> [(0,.ptr p.v),(4,.int .i64 N),(5,.loc gT' 6 0 0),(34,.int .i64 m),(35,.int .i64 i),(6,.int .i64 i),(7,.lsl gr 2 0 N1),(8,.int .i64 sg),(51,.sl (iv (lz n (pA p n i)))),(52,.int .i64 n),(53,.int .i64 j)]) (fun j=>upd b gr (some ⟨2,zv N1 fun c=>if c<j then sg*pA p n i c else 0⟩)) (fun j=>j≤n) (fun j=>n - j) _ 0 (Nat.zero_le _) ⟨rfl,by simp,sub_eq (by simp)⟩ ?_
   intro j hj
   have wj:IntKind.i64.wrap ((j:Int)+1)=(j:Int)+1:=i64_in (by omega) (by omega)
   have wa: ∀c,IntKind.i64.wrap (sg*pA p n i c)=sg*pA p n i c:=fun c=>i64_in (by have:=hpA c;omega) (by have:=hpA c;omega)
   refine aC ?_
   simp
   refine⟨fun hjn=> ?_,fun hjn=> ?_⟩
   ·simp[hjn,wa]
    refine aD (hint _ (hpA j)) ?_
    simp[wj,aB,show j<N1 by omega,Ns]
    refine⟨j+1,by omega,by omega,rfl,by simp,?_⟩
    refine sub_eq ?_
    funext x
    simp only[aA]
    split
    ·congr 2
     exact uL fun c hc=>by
      by_cases e:c=j
      ·rw[if_pos e,if_pos (by omega),e]
      ·rw[if_neg e];grind
    ·rfl
   ·rw[show j=n by omega]
    simp[aH]
    exact⟨rfl,by simp,Sub.refl _⟩
  rintro⟨⟩ -
  refine aE ?_
  have wni:IntKind.i64.wrap ((n:Int)+(i:Int))=((n+i:Nat):Int):=by rw[i64_in (by omega) (by omega)];simp
  obtain⟨ni,hni⟩: ∃x,n+i=x:=⟨_,rfl⟩
  rw[hni] at wni
  refine bY aL [0,1,2,3,4,5,6,7,8] 1 9 (by kernel_rfl) ?_
  simp[Pg.v,h.aP,wni]
  refine aN (hint 1 (by decide)) ?_
  simp[show ni<N1 by omega,show(ni:Int)<N1 by omega]
  refine bZ (i:=9) (by kernel_rfl) rfl rfl rfl ?_
  simp[show ni<N1 by omega,Ns]
  refine Dy ?_
  simp
  refine aE ?_
  have wB:IntKind.i64.wrap (sg*pB p i)=sg*pB p i:=i64_in (by omega) (by omega)
  have hNN:N<N1:=by omega
  have aDD:(N:Int)<N1:=by omega
  simp[Pg.v,h.b,hi,wB]
  refine aD (hint _ hpB) ?_
  simp[hNN,aDD,Ns]
  obtain⟨b2,hb2⟩: ∃b2,b2=upd b gr (some ⟨2,zv N1 (eZ p n m i)⟩):=⟨_,rfl⟩
  refine dJ [(0,.ptr p.v),(4,.int .i64 N),(5,.loc gT' 6 0 0),(34,.int .i64 m),(35,.int .i64 i),(6,.int .i64 i),(7,.lsl gr 2 0 N1)] 205 b2 ⟨rfl,by simp[Pg.v,h.b,h.aP],?_⟩ ?_
  ·rw[hb2]
   refine sub_eq ?_
   funext x
   simp only[aA]
   split
   ·congr 2
    exact uL fun c hc=>by
     unfold eZ
     rw[hN0,hni,hsg]
     grind
   ·rfl
  have b2r:b2 gr=some ⟨2,zv N1 (eZ p n m i)⟩:=by rw[hb2];simp
  have b2x: ∀x,x≠gr→b2 x=b x:=fun x hx=>by rw[hb2,aG _ _ _ _ hx]
  have b2T:=b2x gT' (Ne.symm rT)
  have b2R:=b2x gR (Ne.symm rR)
  have b2B:=b2x gB (Ne.symm rB)
  have b2F:=b2x gF' (Ne.symm rF)
  have b2i: ∀x,x∈ids→b2 x=b x:=fun x hx=>b2x x fun e=>ri (e▸hx)
  rw[bT] at b2T
  rw[bG] at b2R
  rw[bB] at b2B
  rw[bF] at b2F
  clear hb2
  have nds:=hTb.nd
  simp only[List.nodup_cons,List.mem_cons,not_or] at nds
  obtain⟨⟨nTR,nTB,nTF,nTi⟩,⟨nRB,nRF,nRi⟩,⟨nBF,nBi⟩,nFi,Vw⟩:=nds
  have Rw: ∀x,b2 x=none→x≠gT'∧x≠gR∧x≠gB∧x≠gF'∧x≠gr∧x∉ids:=fun x hx=>by
   refine⟨fun e=> ?_,fun e=> ?_,fun e=> ?_,fun e=> ?_,fun e=> ?_,fun e=> ?_⟩
   ·rw[e,b2T] at hx;cases hx
   ·rw[e,b2R] at hx;cases hx
   ·rw[e,b2B] at hx;cases hx
   ·rw[e,b2F] at hx;cases hx
   ·rw[e,b2r] at hx;cases hx
   ·rw[b2i x e] at hx
    obtain⟨q,hq⟩:=List.mem_iff_getElem?.1 e
    rw[hTb.fM.row q x hq] at hx;cases hx
  refine aE ?_
  simp[b2T,b2R,appV,elsV,hil]
  intro g4 hg4 hb4
  obtain⟨n4T,n4R,n4B,n4F,n4r,n4i⟩:=Rw g4 hb4
  have tk:(ids.map fun g=> [V.lsl g 2 0 N1]).take i=ids.map fun g=> [V.lsl g 2 0 N1]:=List.take_of_length_le (by simp[hil])
  simp[Ne.symm n4T,Ne.symm n4R,n4T,n4R,Int.not_lt.2 hg4,b2R,hil,tk]
  refine⟨by omega,fun gN hgN hbN=> ?_⟩
  have nN:gN≠gT'∧gN≠gB∧gN≠gF'∧gN≠gr∧gN∉ids∧gN≠g4:=by
   by_cases e:gN=gR
   ·subst e
    exact⟨Ne.symm nTR,nRB,nRF,Ne.symm rR,nRi,Ne.symm n4R⟩
   ·obtain⟨q1,q2⟩:=hbN e
    obtain⟨w1,w2,w3,w4,w5,w6⟩:=Rw gN q2
    exact⟨w1,w3,w4,w5,w6,q1⟩
  obtain⟨nNT,nNB,nNF,nNr,nNi,nN4⟩:=nN
  simp[Ne.symm nNT,nNT,Ne.symm n4T,nTR,b2T]
  obtain⟨b3,hb3⟩: ∃b3,b3=upd (upd (rem b2 gR) gN (some ⟨1,(ids++ [gr]).map fun g=> [.lsl g 2 0 N1]⟩)) gT' (some ⟨6,[[.lsl gN 1 0 (i+1),.bool false,.sl (iv (lim 1)),.lsl gB 1 0 i,.int .i64 N,.lsl gF' 1 0 N]]⟩):=⟨_,rfl⟩
  refine dJ [(0,.ptr p.v),(4,.int .i64 N),(5,.loc gT' 6 0 0),(34,.int .i64 m),(35,.int .i64 i),(6,.int .i64 i)] 205 b3 ⟨rfl,by simp[Pg.v,h.b,h.aP],?_⟩ ?_
  ·rw[hb3]
   intro z y hz
   simp only[aA,aF] at hz ⊢
   grind
  have b3N:b3 gN=some ⟨1,(ids++ [gr]).map fun g=> [.lsl g 2 0 N1]⟩:=by rw[hb3];simp[nNT]
  have b3T:b3 gT'=some ⟨6,[[.lsl gN 1 0 (i+1),.bool false,.sl (iv (lim 1)),.lsl gB 1 0 i,.int .i64 N,.lsl gF' 1 0 N]]⟩:=by rw[hb3];simp
  have b3x: ∀x,x≠gT'→x≠gN→x≠gR→b3 x=b2 x:=fun x x1 x2 x3=>by rw[hb3,aG _ _ _ _ x1,aG _ _ _ _ x2,aF,if_neg x3]
  have b3B:=b3x gB (Ne.symm nTB) (Ne.symm nNB) (Ne.symm nRB)
  rw[b2B] at b3B
  clear hb3
  refine dK aL (rem b3 gB) (eH b3 gB) [0,1,2,3,4,5,6,7,8,9,10] 5 15 (by kernel_rfl) ?_
  simp[nTB,b3T,Pg.v,h.aP,wni]
  refine Dq 11 false ?_
  simp
  intro g5 hg5 hb5
  have n5:g5≠gT'∧g5≠gN∧g5≠gB:=⟨fun e=>(by rw[e,b3T] at hb5;cases hb5),fun e=>(by rw[e,b3N] at hb5;cases hb5),fun e=>(by rw[e,b3B] at hb5;cases hb5)⟩
  obtain⟨n5T,n5N,n5B⟩:=n5
  have r5:rem b3 gB g5=none:=by rw[aF,if_neg n5B];exact hb5
  have Ea: ∀X,Sub (rem b3 gB) (upd b3 g5 X):=fun X z y hz=>by
   rw[aF] at hz
   rw[aA]
   grind
  refine⟨Ea _,Dq 12 false ?_⟩
  have tkB:(iv (lb i fun q=>n+q)).take i=iv (lb i fun q=>n+q):=List.take_of_length_le (by simp)
  simp[n5B,Ne.symm n5B,appV,elsV,Int.not_lt.2 hg5,b3B,tkB]
  have hlb:iv (lb i fun q=>n+q)++ [[.int .i64 ni]]=iv (lb (i+1) fun q=>n+q):=by rw[V7,aZ,hni];rfl
  rw[hlb]
  refine⟨by omega,fun gM hgM hbM=> ?_⟩
  have nM:gM≠gT'∧gM≠gN∧gM≠gF'∧gM≠gr∧gM∉ids∧gM≠g5:=by
   by_cases e:gM=gB
   ·subst e
    exact⟨Ne.symm nTB,Ne.symm nNB,nBF,Ne.symm rB,nBi,Ne.symm n5B⟩
   ·obtain⟨q1,q2⟩:=hbM e
    have q3:gM≠gT':=fun e2=>by rw[e2,b3T] at q2;cases q2
    have q4:gM≠gN:=fun e2=>by rw[e2,b3N] at q2;cases q2
    by_cases e3:gM=gR
    ·subst e3
     exact⟨q3,q4,nRF,Ne.symm rR,nRi,q1⟩
    ·rw[b3x gM q3 q4 e3] at q2
     obtain⟨w1,w2,w3,w4,w5,w6⟩:=Rw gM q2
     exact⟨q3,q4,w4,w5,w6,q1⟩
  obtain⟨nMT,nMN,nMF,nMr,nMi,nM5⟩:=nM
  have mL: ∀X Y,Sub (rem b3 gB) (upd (rem (upd b3 g5 X) gB) gM Y):=fun X Y z y hz=>by
   rw[aF] at hz
   rw[aA,aF,aA]
   grind
  have lJ: ∀X Y Z,Sub (upd (upd (rem b3 gB) gM Y) gT' Z) (upd (upd (rem (upd b3 g5 X) gB) gM Y) gT' Z):=fun X Y Z z y hz=>by
   simp only[aA,aF] at hz ⊢
   grind
  refine⟨mL _ _,Dq 13 false ?_⟩
  simp
  refine⟨mL _ _,Dq 14 false ?_⟩
  simp
  refine⟨mL _ _,Dq 15 true ?_⟩
  simp[Ne.symm nMT,nTB,n5T,Ne.symm n5T,b3T]
  refine Dd ?_
  simp
  refine aC ?_
  simp[wi,aB]
  obtain⟨b4,jH⟩: ∃b4,b4=upd (upd (rem b3 gB) gM (some ⟨1,iv (lb (i+1) fun q=>n+q)⟩)) gT' (some ⟨6,[[.lsl gN 1 0 (i+1),.bool false,.sl (iv (lim 1)),.lsl gM 1 0 (i+1),.int .i64 N,.lsl gF' 1 0 N]]⟩):=⟨_,rfl⟩
  have b4T:b4 gT'=some ⟨6,[[.lsl gN 1 0 (i+1),.bool false,.sl (iv (lim 1)),.lsl gM 1 0 (i+1),.int .i64 N,.lsl gF' 1 0 N]]⟩:=by rw[jH];simp
  have b4M:b4 gM=some ⟨1,iv (lb (i+1) fun q=>n+q)⟩:=by rw[jH];simp[nMT]
  have b4x: ∀x,x≠gT'→x≠gM→x≠gB→b4 x=b3 x:=fun x x1 x2 x3=>by rw[jH,aG _ _ _ _ x1,aG _ _ _ _ x2,aF,if_neg x3]
  have b4o: ∀x,x≠gT'→x≠gM→x≠gB→x≠gN→x≠gR→x≠gr→b4 x=b x:=fun x x1 x2 x3 x4 x5 x6=>by rw[b4x x x1 x2 x3,b3x x x1 x4 x5,b2x x x6]
  have fr: ∀x,b x=none→bl x=none:=fun x hx=>by
   cases hv:bl x with
   | none => rfl
   | some y => have := hsb x y hv; rw [hx] at this; cases this
  have blR:bl gR=none:=hal gR (by simp[TG.all])
  have blB:bl gB=none:=hal gB (by simp[TG.all])
  have blN:bl gN=none:=by
   by_cases e:gN=gR
   ·rw[e];exact blR
   ·have:=(hbN e).2
    rw[b2x gN nNr] at this;exact fr gN this
  have blM:bl gM=none:=by
   by_cases e:gM=gB
   ·rw[e];exact blB
   ·by_cases e3:gM=gR
    ·rw[e3];exact blR
    ·have:=(hbM e).2
     rw[b3x gM nMT nMN e3,b2x gM nMr] at this;exact fr gM this
  have A8:=hTb.snoc (b':=b4) gN gM gr (by simp only[tbA];rw[hN0,hN1,b4x gN nNT (Ne.symm nMN) nNB,b3N]) (by simp only[tbA];exact b4M) (by simp only[tbA];rw[hN0,b4T];rfl)
   (by simp only;exact b4o gF' (Ne.symm nTF) (Ne.symm nMF) (Ne.symm nBF) (Ne.symm nNF) (Ne.symm nRF) (Ne.symm rF))
   (fun x hx=>by simp only at hx;exact b4o x (fun e=>nTi (e▸hx)) (fun e=>nMi (e▸hx)) (fun e=>nBi (e▸hx)) (fun e=>nNi (e▸hx)) (fun e=>nRi (e▸hx)) (fun e=>ri (e▸hx)))
   (by simp only[tbA];rw[hN0,hN1,b4x gr rT (Ne.symm nMr) rB,b3x gr rT (Ne.symm nNr) rR,b2r]) hgr hgN hgM (by
     simp only[List.nodup_cons,List.mem_cons,not_or,List.mem_append,List.mem_singleton,List.nodup_append,List.not_mem_nil,or_false]
     refine⟨⟨Ne.symm nNT,Ne.symm nMT,nTF,nTi,Ne.symm rT⟩,⟨Ne.symm nMN,nNF,nNi,nNr⟩,⟨nMF,nMi,nMr⟩,⟨nFi,Ne.symm rF⟩,Vw,by simp,fun a ha c hc=> ?_⟩
     rw[hc];exact fun e=>ri (e▸ha))
  refine⟨⟨i+1,⟨gT',gN,gM,gF',ids++ [gr]⟩,b4⟩,⟨by simp only;omega,A8,rfl,rfl,fun x hx=> ?_,fun x y hx=> ?_⟩,by simp only;omega,rfl,by simp[h.aP,h.b],by rw[jH];exact lJ _ _ _⟩
  ·simp only[TG.all,List.mem_cons,List.mem_append,List.not_mem_nil,or_false] at hx
   rcases hx with rfl | rfl | rfl | rfl | hx | rfl
   ·exact hbT
   ·exact blN
   ·exact blM
   ·exact hbF
   ·exact hal x (by simp[TG.all,hx])
   ·exact rbl
  ·have nx: ∀z,bl z=none→x≠z:=fun z hz e=>by rw[e,hz] at hx;cases hx
   simp only
   rw[b4o x (nx _ hbT) (nx _ blM) (nx _ blB) (nx _ blN) (nx _ blR) (nx _ rbl)]
   exact hsb x y hx
 ·have hie:i=m:=by omega
  subst hie
  clear hi him
  refine⟨by omega,by unfold maxLen;omega,fun gO hgO hbO=> ?_⟩
  have oT: ¬ gO=gT':=fun e=>by rw[e,bT] at hbO;cases hbO
  have oR: ¬ gO=gR:=fun e=>by rw[e,bG] at hbO;cases hbO
  have oB: ¬ gO=gB:=fun e=>by rw[e,bB] at hbO;cases hbO
  have oF: ¬ gO=gF':=fun e=>by rw[e,bF] at hbO;cases hbO
  have oi:gO∉ids:=fun hm2=>by
   obtain⟨q,hq⟩:=List.mem_iff_getElem?.1 hm2
   rw[hTb.fM.row q gO hq] at hbO;cases hbO
  have nds:=hTb.nd
  simp only[List.nodup_cons,List.mem_cons,not_or] at nds
  obtain⟨⟨nTR,nTB,nTF,nTi⟩,⟨nRB,nRF,nRi⟩,⟨nBF,nBi⟩,nFi,Vw⟩:=nds
  refine aI (fun k:Nat=> [(0,.ptr p.v),(4,.int .i64 N),(5,.loc gT' 6 0 0),(11,.lsl gO 1 0 N),(117,.int .i64 N),(118,.int .i64 k)]) (fun k=>upd (upd b gF' (some ⟨1,lv N fun c=>decide (c<k∧c<n)⟩)) gO (some ⟨1,iv (lz N fun c=>if c<k then oA n i c else 0)⟩)) (fun k=>k≤N) (fun k=>N - k) _ 0 (Nat.zero_le _) ⟨rfl,by simp[Pg.v,h.b,h.aP],?_⟩ ?_
  ·refine sub_eq ?_
   funext x
   simp only[aA]
   rw[Dp]
   split
   ·simp
   ·split
    ·rename_i e;rw[e,bF];simp
    ·rfl
  intro k hk
  have wk:IntKind.i64.wrap ((k:Int)+1)=(k:Int)+1:=i64_in (by omega) (by omega)
  refine aE ?_
  simp
  refine aE ?_
  simp
  refine⟨fun hkn=> ?_,fun hkn=> ?_⟩
  ·refine aO (aT ?_)
   refine aE ?_
   simp
   refine aO ?_
   refine bY aL [0,1,2,3,4,5,6,7,8,9,10,11] 1 12 (by kernel_rfl) ?_
   have nOT:=Ne.symm oT
   simp[Pg.v,h.aP,bT,nOT,nTF,hkn]
   refine bZ (i:=12) (by kernel_rfl) rfl rfl rfl ?_
   simp[Ne.symm oF,hkn,He, -Bool.decide_and]
   refine Dy ?_
   simp
   refine aC ?_
   simp[Pg.v,h.aP,oF,hkn,wk,aB,Qx]
   refine⟨fun hnk=> ?_,fun hnk=> ?_⟩
   ·refine aC ?_
    simp[wk,aB]
    refine⟨k+1,by omega,by omega,rfl,by simp[h.aP],sub_eq ?_⟩
    have e1:(lv N fun c=>decide (c<k+1)&& decide (c<n))=lv N fun c=>if c=k then decide (k<n) else decide (c<k)&& decide (c<n):=rH fun c _=>by
     by_cases e:c=k
     ·subst e;simp
     ·rw[if_neg e,show decide (c<k+1)=decide (c<k) from by simp;omega]
    have e2:(lz N fun c=>if c<k+1 then oA n i c else 0)=lz N fun c=>if c=k then -1 else if c<k then oA n i c else 0:=I2 fun c hc=>by
     by_cases e:c=k
     ·subst e;rw[if_pos (by omega),if_pos rfl];unfold oA;rw[if_pos ⟨hnk,by omega⟩]
     ·rw[if_neg e];grind
    funext x
    simp only[aA]
    rw[e1,e2]
    grind
   ·refine aC ?_
    simp[wk,aB]
    refine⟨k+1,by omega,by omega,rfl,by simp[h.aP],sub_eq ?_⟩
    have e1:(lv N fun c=>decide (c<k+1)&& decide (c<n))=lv N fun c=>if c=k then decide (k<n) else decide (c<k)&& decide (c<n):=rH fun c _=>by
     by_cases e:c=k
     ·subst e;simp
     ·rw[if_neg e,show decide (c<k+1)=decide (c<k) from by simp;omega]
    have e2:(lz N fun c=>if c<k+1 then oA n i c else 0)=lz N fun c=>if c<k then oA n i c else 0:=I2 fun c hc=>by
     by_cases e:c=k
     ·subst e;rw[if_pos (by omega),if_neg (by omega)];unfold oA;rw[if_neg (by omega)]
     ·grind
    funext x
    simp only[aA]
    rw[e1,e2]
    grind
  ·have hke:k=N:=by omega
   subst hke
   clear hkn hk
   obtain⟨bM,hbM⟩: ∃bM,bM=upd (upd b gF' (some ⟨1,lv k fun c=>decide (c<k)&& decide (c<n)⟩)) gO (some ⟨1,iv (lz k fun c=>if c<k then oA n i c else 0)⟩):=⟨_,rfl⟩
   rw[←hbM]
   have bMF:bM gF'=some ⟨1,lv k (okA n)⟩:=by
    rw[hbM]
    simp[Ne.symm oF]
    exact rH fun c hc=>by unfold okA;simp[hc]
   have bMO:bM gO=some ⟨1,iv (lz k (oA n i))⟩:=by
    rw[hbM]
    simp
    rw[I2 fun c hc=>by rw[if_pos hc]]
   have bMx: ∀x,x≠gF'→x≠gO→bM x=b x:=fun x x1 x2=>by rw[hbM,aG _ _ _ _ x2,aG _ _ _ _ x1]
   clear hbM
   have hTM:=(hTb.aMJ (b':=bM) (okA n) (by simp only[tbA];rw[hN0];exact bMF) (fun x y hx hx2 hy=>by
    rw[bMx x hx2 fun e=> ?_];exact hy
    have:=hal x hx
    rw[e] at hy;rw[hbO] at hy;cases hy)).first h
   obtain⟨e,h1,h2,h3,h4⟩:=Lp.tK (F:=fO (n+i) (okA n)) (N':=n+i) h.init (fun c hc=>hc.1) (Nat.le_refl _) (fun c hc=>⟨by omega,by omega,by unfold okA;simpa using hc⟩)
   rw[←Sr] at h1 h2 h3
   have hnx:Lp.nx (n+i) (n+i) (List.range i) (Lp.okW i (wO (oA n i)) (fO (n+i) (okA n))) (Lp.orb (Lp.nx (n+i) (n+i) (List.range i) (Lp.okW i (wO (oA n i)) (fO (n+i) (okA n)))) (Lp.lH n (eQ p n i)) e)=none:=by
    unfold Lp.nx at h1 ⊢
    rw[h1]
   have hoA: ∀c,(oA n i c).natAbs≤1000:=fun c=>by unfold oA;split<;>decide
   have Be:=fun K'=>yF (bl:=bM) (K:=K') n i (eQ p n i) (List.range i) ⟨gT',gR,gB,gF',ids⟩ (Lp.lH n (eQ p n i)) (okA n) (oA n i) gO e hml hnl (mN i) hoA (.inl fun q hq=>by simpa using hq) hnx h2 h3 hTM (by rw[hN0];exact bMO) hgO (by simp[TG.all,oT,oR,oB,oF,oi])
   rw[Sr] at h1
   simp only[Sr] at Be
   obtain⟨t,ht⟩: ∃t,Lp.orb (Lp.nx (n+i) (n+i) (List.range i) (Lp.okW i (Lp.bK n i) (fO (n+i) (okA n)))) (Lp.lH n (eQ p n i)) e=t:=⟨_,rfl⟩
   rw[ht] at h1 h4
   simp only[ht] at Be
   simp only[hN0] at Be
   rw[hN0] at h1
   refine Be _ (fun b' _ hT2 hx2=> ?_) (fun b' k' hk'=>absurd hk' (by rw[h1];simp))
   clear Be
   generalize frK i (oA n i) t (okA n) k=fr at hT2
   simp
   have aDD:k<N1:=by omega
   have aOT:(k:Int)<N1:=by omega
   have cT:b' gT'=_:=hT2.hd
   have cB:b' gB=_:=hT2.ba
   have cG:b' gR=_:=hT2.fM.top
   have cF:b' gF'=_:=hT2.fre
   have hrl:(List.range i).length=i:=by simp
   simp only[cD,hrl,hN0,hN1] at cT cB cG cF
   have cB2:lb i (fun q=>t.bs (atR (List.range i) q))=lb i t.bs:=List.map_congr_left fun q hq=>by
    have hq':q<i:=by simpa using hq
    simp only[dU hq']
   rw[cB2] at cB
   simp[cT]
   have cS:Sub bl b':=fun x y hx=>by
    have h9:=hsb x y hx
    have x1:x∉TG.all ⟨gT',gR,gB,gF',ids⟩:=fun hm2=>by have:=hal x hm2;rw[this] at hx;cases hx
    have x2:x≠gF':=fun e=>x1 (by rw[e];simp[TG.all])
    have x3:x≠gO:=fun e=>by rw[e,hbO] at h9;cases h9
    exact hx2 x y (by rw[bMx x x2 x3];exact h9) x1
   refine aI (fun j:Nat=> [(0,.ptr p.v),(4,.int .i64 k),(5,.loc gT' 6 0 0),(149,.lsl gB 1 0 i),(150,.int .i64 i),(151,.int .i64 j)]) (fun _=>b') (fun j=>j≤i∧ ∀q,q<j→ ¬ (n≤t.bs q∧0<t.X q (n+i))) (fun j=>i - j) _ 0 ⟨Nat.zero_le _,fun q hq=>by omega⟩ ⟨rfl,by simp[Pg.v,h.b,h.aP],Sub.refl _⟩ ?_
   rintro j ⟨hj,bH⟩
   have wj:IntKind.i64.wrap ((j:Int)+1)=(j:Int)+1:=i64_in (by omega) (by omega)
   refine aE ?_
   simp
   refine aE ?_
   simp
   refine⟨fun hji=> ?_,fun hji=> ?_⟩
   ·refine aO (aT ?_)
    refine aE ?_
    simp[cB,hji]
    obtain⟨gi,hgi,zJ,yZ,nT⟩:=hT2.fM.at j (by simp only[cD,hrl];exact hji)
    simp only[cD] at nT
    rw[hN0,hN1,dU hji] at nT
    obtain⟨zx,hzx⟩: ∃zx,Lp.zt i (eQ p n i) t j k=zx:=⟨_,rfl⟩
    refine aE ?_
    simp
    refine bN [(0,.ptr p.v),(4,.int .i64 k),(5,.loc gT' 6 0 0),(149,.lsl gB 1 0 i),(150,.int .i64 i),(151,.int .i64 j),(13,.int .i64 j),(14,.int .i64 (t.bs j))] _ b' 175 (.bool (decide (n≤t.bs j∧0<zx))) ⟨rfl,by simp[Pg.v,h.b,h.aP],Sub.refl _⟩ rfl ?_ ?_
    ·simp[Pg.v,h.aP]
     by_cases hnb:n≤t.bs j
     ·have hgj: ∀h,ids[j]'h=gi:=fun h=>by rw[List.getElem?_eq_getElem h] at hgi;exact Option.some.inj hgi
      simp[hnb,Nat.not_lt.2 hnb,cT,cG,hji,hgj,nT,aDD,aOT,hil]
      refine aD (mV _) ?_
      rw[hzx]
      have hsp:0<zx.sign ↔ 0<zx:=by
       rcases Int.lt_trichotomy zx 0 with q | q | q
       ·rw[Int.sign_eq_neg_one_of_neg q];omega
       ·rw[q];decide
       ·rw[Int.sign_eq_one_of_pos q];omega
      simp[hsp]
     ·simp[hnb]
    have hzs:=Lp.sG h4.inv.z hji (show n+i<n+i+1 by omega)
    rw[hN0,hzx] at hzs
    have hzero:Lp.rc i (Lp.bK n i) t (n+i)=0→t.bs j<n∨t.X j (n+i)=0:=fun h0=>by
     rcases Nat.lt_or_ge (t.bs j) n with g | g
     ·exact .inl g
     ·exact .inr (h4.zero h0 j hji (by omega))
    refine aC ?_
    simp
    refine⟨fun c1 c2=> ?_,fun hno=> ?_⟩
    ·rw[cE]
     refine⟨[.nilp,.bool false],by simp,hN b' t h4 (fun h0=> ?_) cS⟩
     have:=hzs.1.1 c2
     rw[←hN0] at this
     rcases hzero h0 with g | g
     ·omega
     ·rw[g] at this;exact absurd this (by decide)
    ·refine aC ?_
     simp[wj,aB]
     refine⟨j+1,⟨by omega,fun q hq c1 c2=> ?_⟩,by omega,rfl,by simp[h.aP,h.b],Sub.refl _⟩
     by_cases e:q=j
     ·subst e
      rw[hN0] at c2
      have g1:=hno c1
      have g2:=hzs.1.2 c2
      omega
     ·exact bH q (by omega) ⟨c1,c2⟩
   ·have hje:j=i:=by omega
    subst hje
    have hp0:Lp.rc j (Lp.bK n j) t (n+j)=0:=by
     rw[Lp.vY rfl]
     refine Lp.jU fun q hq=> ?_
     split
     ·rename_i hb
      have h8:=h4.inv.nn q hq
      have h9: ¬ 0<t.X q (n+j):=fun g=>bH q hq ⟨hb.1,g⟩
      grind
     ·rfl
    simp[cT]
    refine aI (fun c:Nat=> [(0,.ptr p.v),(4,.int .i64 k),(5,.loc gT' 6 0 0),(181,.int .i64 k),(182,.int .i64 c)]) (fun c=>upd b' gF' (some ⟨1,lv k fun x=>if x<c then okA n x else fr x⟩)) (fun c=>c≤k) (fun c=>k - c) _ 0 (Nat.zero_le _) ⟨rfl,by simp[Pg.v,h.b,h.aP],?_⟩ ?_
    ·refine sub_eq ?_
     funext x
     simp only[aA]
     split
     ·rename_i e;rw[e,cF];simp
     ·rfl
    intro c hc
    have wc:IntKind.i64.wrap ((c:Int)+1)=(c:Int)+1:=i64_in (by omega) (by omega)
    refine aE ?_
    simp
    refine aE ?_
    simp
    refine⟨fun hck=> ?_,fun hck=> ?_⟩
    ·refine aO (aT ?_)
     refine aE ?_
     simp
     refine bY aL [0,1,2,3,4,5,6,7,8,9,10,11] 1 12 (by kernel_rfl) ?_
     simp[Pg.v,h.aP,cT,nTF,hck]
     refine bZ (i:=12) (by kernel_rfl) rfl rfl rfl ?_
     simp[hck,He]
     refine Dy ?_
     simp
     refine aC ?_
     simp[wc,aB]
     refine⟨c+1,by omega,by omega,rfl,by simp[h.aP],sub_eq ?_⟩
     funext x
     simp only[aA]
     split
     ·congr 2
      exact rH fun y hy=>by
       by_cases e:y=c
       ·subst e;simp[okA]
       ·rw[if_neg e];grind
     ·rfl
    ·have hce:c=k:=by omega
     subst hce
     obtain⟨bL,hbL⟩: ∃bL,bL=upd b' gF' (some ⟨1,lv c fun x=>if x<c then okA n x else fr x⟩):=⟨_,rfl⟩
     rw[←hbL]
     have bLF:bL gF'=some ⟨1,lv c (okA n)⟩:=by rw[hbL,aV,rH fun x hx=>by rw[if_pos hx]]
     have bLx: ∀x,x≠gF'→bL x=b' x:=fun x x1=>by rw[hbL,aG _ _ _ _ x1]
     clear hbL
     have hTL:=hT2.aMJ (b':=bL) (okA n) (by simp only[cD];rw[hN0];exact bLF) (fun x y hx hx2 hy=>by rw[bLx x hx2];exact hy)
     simp[Pg.v,h.aP]
     refine Pu n j (eQ p n j) ⟨gT',gR,gB,gF',ids⟩ t (okA n) hml hnl (h4.lT hp0) hTL fun b5 g5 e1 e2 hT5 aUW hb5=> ?_
     simp
     rw[cE]
     have n5: ∀x y,bl x=some y→x∉TG.all ⟨gT',gR,gB,gF',ids⟩:=fun x y hx hm2=>by have:=hal x hm2;rw[this] at hx;cases hx
     refine⟨[.loc g5.T 6 0 0,.bool true],by simp[e1],hS b5 g5 t h4 hp0 hT5 (fun x hx=> ?_) fun x y hx=> ?_⟩
     ·rcases aUW x hx with g1 | g1
      ·exact hal x g1
      ·cases hv:bl x with
       | none => rfl
       | some y =>
         have g2:=n5 x y hv
         rw[bLx x fun e=>g2 (by rw[e];simp[TG.all]),cS x y hv] at g1
         cases g1
     ·have g2:=n5 x y hx
      exact hb5 x y (by rw[bLx x fun e=>g2 (by rw[e];simp[TG.all])];exact cS x y hx) g2
end Go.Proofs.YticmgmemnpcbbaaGreat.Vm
