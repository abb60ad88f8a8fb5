import Derived.Test.YticmgmemnpcbbaaGreatQCFnExactCanPretension5

namespace Go.Proofs.YticmgmemnpcbbaaGreat.Vm
open Go Go.Proofs
set_option linter.unusedSimpArgs false
set_option linter.unusedVariables false
structure SP where
 lo:RT
 hi:RT
 nl:Bool
 nh:Bool
def SP.c (s:SP):List V:= [.bool s.lo.neg,.sl (iv s.lo.m),.sl (iv s.lo.d),.bool s.hi.neg,.sl (iv s.hi.m),.sl (iv s.hi.d),.bool s.nl,.bool s.nh]
def RT.le (r:RT) (k:Nat):Prop:=r.m.length≤k∧r.d.length≤k
def SP.le (s:SP) (k:Nat):Prop:=s.lo.le k∧s.hi.le k
def aA9 (s:SP):Bool:=match rd s.lo,rd s.hi with
 | some a, some b => (s.nl && decide (a.num.sign ≠ 0)) || (s.nh && decide (b.num.sign ≠ 0))
 | _, _ => true
def Ry (s:SP):Bool:=match rd s.lo,rd s.hi with
 | some a, some b => (s.nl || s.nh) || decide (zQ a b ≤ 0)
 | _, _ => false
def aL1 (s:SP):Bool:= !aA9 s && Ry s

theorem B6 (x y:Int) (hx:(lim x.natAbs).length≤59) (hy:(lim y.natAbs).length≤59):RO Tryz.prog 264 [.agg (biC x),.agg (biC y)] (.agg (biC (x+y))):=by
 have hb:=vB hx hy
 refine aJ Tryz.func264 rfl rfl (by rw[Tryz.ntmps264];simp) fun bl=> ?_
 rw[Tryz.ntmps264,Tryz.results264]
 refine aD ?_
 rw[bS x,bS y]
 simp
 intro g hg0 hg g2 hg2 h2g hb2 g3 hg3 h32 h3g hb3
 refine aC ?_
 simp[h2g,Ne.symm h2g,h32,Ne.symm h32,h3g,Ne.symm h3g]
 refine⟨fun hs=> ?_,fun hs=> ?_⟩
 ·refine bA aN (upd (upd bl g (some ⟨2,[[.bool (decide (x<0)),.sl (iv (lim x.natAbs))]]⟩)) g2 (some ⟨2,[[.bool (decide (y<0)),.sl (iv (lim y.natAbs))]]⟩)) (by simp[h32,h3g,hb3]) [0,1,2,3,4,5,6,7] 1 (by kernel_rfl) ?_
  simp[h2g,Ne.symm h2g,h32,Ne.symm h32,h3g,Ne.symm h3g]
  refine aP (Dv _ _ (by omega) (by omega)) ?_
  simp[h2g,Ne.symm h2g,h32,Ne.symm h32,h3g,Ne.symm h3g]
  refine aP (dO _ _ (by omega)) ?_
  simp[h2g,Ne.symm h2g,h32,Ne.symm h32,h3g,Ne.symm h3g]
  refine Dz 8 ?_
  simp[h2g,Ne.symm h2g,h32,Ne.symm h32,h3g,Ne.symm h3g]
  refine⟨by simp[h32,h3g,hb3],Dy ?_⟩
  rw[tP hs]
  simp[h2g,Ne.symm h2g,h32,Ne.symm h32,h3g,Ne.symm h3g]
  exact aK [.agg (biC (x+y))] 1 (by simp[biC,h2g,Ne.symm h2g,h32,Ne.symm h32,h3g,Ne.symm h3g]) kO (by simp[hg,hb2,hb3])
 refine aE (jV _ _ (by omega) (by omega)) ?_
 simp[h2g,Ne.symm h2g,h32,Ne.symm h32,h3g,Ne.symm h3g,Cb]
 refine⟨fun hle=> ?_,fun hle=> ?_⟩
 ·refine bA aN (upd (upd bl g (some ⟨2,[[.bool (decide (x<0)),.sl (iv (lim x.natAbs))]]⟩)) g2 (some ⟨2,[[.bool (decide (y<0)),.sl (iv (lim y.natAbs))]]⟩)) (by simp[h32,h3g,hb3]) [0,1,2,3,4,5,6,7] 1 (by kernel_rfl) ?_
  simp[h2g,Ne.symm h2g,h32,Ne.symm h32,h3g,Ne.symm h3g]
  refine aP (sP _ _ hle (by omega)) ?_
  simp[h2g,Ne.symm h2g,h32,Ne.symm h32,h3g,Ne.symm h3g]
  refine aP (dO _ _ (jY (Nat.sub_le _ _) (by omega))) ?_
  simp[h2g,Ne.symm h2g,h32,Ne.symm h32,h3g,Ne.symm h3g]
  refine Dz 8 ?_
  simp[h2g,Ne.symm h2g,h32,Ne.symm h32,h3g,Ne.symm h3g]
  refine⟨by simp[h32,h3g,hb3],Dy ?_⟩
  rw[lH hs hle]
  simp[h2g,Ne.symm h2g,h32,Ne.symm h32,h3g,Ne.symm h3g]
  exact aK [.agg (biC (x+y))] 1 (by simp[biC,h2g,Ne.symm h2g,h32,Ne.symm h32,h3g,Ne.symm h3g]) kO (by simp[hg,hb2,hb3])
 ·refine bA aN (upd (upd bl g (some ⟨2,[[.bool (decide (x<0)),.sl (iv (lim x.natAbs))]]⟩)) g2 (some ⟨2,[[.bool (decide (y<0)),.sl (iv (lim y.natAbs))]]⟩)) (by simp[h32,h3g,hb3]) [0,1,2,3,4,5,6,7] 1 (by kernel_rfl) ?_
  simp[h2g,Ne.symm h2g,h32,Ne.symm h32,h3g,Ne.symm h3g]
  refine aP (sP _ _ (by omega) (by omega)) ?_
  simp[h2g,Ne.symm h2g,h32,Ne.symm h32,h3g,Ne.symm h3g]
  refine aP (dO _ _ (jY (Nat.sub_le _ _) (by omega))) ?_
  simp[h2g,Ne.symm h2g,h32,Ne.symm h32,h3g,Ne.symm h3g]
  refine Dz 8 ?_
  simp[h2g,Ne.symm h2g,h32,Ne.symm h32,h3g,Ne.symm h3g]
  refine⟨by simp[h32,h3g,hb3],Dy ?_⟩
  rw[lH (x:=y) (y:=x) (fun hh=>hs ⟨hh.2,hh.1⟩) (by omega),Int.add_comm y x]
  simp[h2g,Ne.symm h2g,h32,Ne.symm h32,h3g,Ne.symm h3g]
  exact aK [.agg (biC (x+y))] 1 (by simp[biC,h2g,Ne.symm h2g,h32,Ne.symm h32,h3g,Ne.symm h3g]) kO (by simp[hg,hb2,hb3])
def vJ (neg:Bool) (a b:Nat):Option Rat:=if b=0 then none else fit (mkRat (sg neg a) b)
theorem H6 {bl bl0:Int→Option Blk} {g:Int} {ns ms:List Int} {b:Bool} (h0:0≤g∨ns= []) (hg:bl0 g=none) (hb:bl g=some ⟨1,iv ns⟩):frz (dropB bl bl0) 2 (.agg [.bool b,.sl (iv ms),.lsl g 1 0 ns.length])=some (.agg [.bool b,.sl (iv ms),.sl (iv ns)]):=by
 have h1:=oS h0 hg hb
 have h2:frz (dropB bl bl0) 1 (.bool b)=some (.bool b):=by simp[frz]
 have h3:frz (dropB bl bl0) 1 (.sl (iv ms))=some (.sl (iv ms)):=by simp[frz]
 rw[vD]
 simp only[List.mapM_cons,List.mapM_nil,h1,h2,h3]
 rfl
theorem Ud (neg:Bool) (a b:Nat) (hb:b≠0):(rq (mkRat (sg neg a) b)).c=biC (sg neg (a / Nat.gcd a b))++ [.sl (iv (lim (b / Nat.gcd a b)))]:=by
 have hg:0<Nat.gcd a b:=Nat.gcd_pos_of_pos_right _ (by omega)
 rw[Qq _ hb,RT.c,nO,bS,nO]
 simp only[List.cons_append,List.nil_append]
 rw[W6,W6]
 have:(0<a / Nat.gcd a b) ↔ 0<a:=by
  constructor
  ·intro h;rcases Nat.eq_zero_or_pos a with h0 | h0
   ·rw[h0] at h;simp at h
   ·exact h0
  ·intro h;exact Nat.div_pos (Nat.gcd_le_left _ h) hg
 rw[decide_eq_decide.2 this]
theorem oL (neg:Bool) (a b:Nat) (ha:(lim a).length≤60) (hb:(lim b).length≤60):RO Tryz.prog 265 [.bool neg,.sl (iv (lim a)),.sl (iv (lim b))] (.agg (ro (vJ neg a b)).c):=by
 have bO: ∀m,((iv (lim m)).all fun c=>c.length==1 && c.all V.one)=true:=fun m=>by simp[iv]
 refine aJ Tryz.func265 rfl rfl (by rw[Tryz.ntmps265];simp) fun bl=> ?_
 rw[Tryz.ntmps265,Tryz.results265]
 refine aD ?_
 simp
 intro g hg0 hg
 refine aD ?_
 simp
 refine aE (fS (lim a) (fI a) (by omega)) ?_
 rw[eE]
 simp
 refine aD ?_
 simp
 refine aE (fS (lim b) (fI b) (by omega)) ?_
 rw[eE]
 simp
 refine aD ?_
 simp
 refine⟨fun h=> ?_,fun h=> ?_⟩
 ·have hb0:b=0:=by simpa [eN] using h
  exact aK [.agg [.bool false,.nils,.nils]] 1 (by simp) (by simp[frz,vJ,hb0,ro,rz,RT.c,V.cl,iv]) (by simp[hg])
 have hb0:b≠0:=fun e=>h (by rw[e,aW])
 have hg1:=Nat.gcd_pos_of_pos_right a (show 0<b by omega)
 refine fH (fun _:Unit=> [(0,.bool neg),(6,.loc g 3 0 0),(7,.sl (iv (lim (a / Nat.gcd a b)))),(8,.sl (iv (lim (b / Nat.gcd a b))))]) (fun _=>upd bl g (some ⟨3,[[.bool false,.nils,.nils]]⟩)) (fun _=>True) 55 ?_ ?_
 ·refine aC ?_
  simp
  refine aE (lS _) ?_
  simp
  refine⟨fun h1=> ?_,fun h1=> ?_⟩
  ·refine aE (D3 _ _ (by omega) (by omega)) ?_
   simp
   refine aE (lS _) ?_
   simp
   refine⟨fun h2=> ?_,fun h2=> ?_⟩
   ·have hgl:=Oj ha hb
    refine aE (tK a (Nat.gcd a b) hg1 (by omega) (by omega)) ?_
    simp
    refine aE (tK b (Nat.gcd a b) hg1 (by omega) (by omega)) ?_
    simp[aH]
    exact⟨rfl,by simp,Sub.refl _⟩
   ·simp[aH]
    exact⟨rfl,by simp[h2],Sub.refl _⟩
  ·have h2:Nat.gcd a b=1:=by rw[h1];exact Nat.gcd_one_right a
   simp[aH]
   exact⟨rfl,by simp[h2],Sub.refl _⟩
 intro _ _
 have e2:=Ud neg a b hb0
 have hx:(lim (a / Nat.gcd a b)).length≤60:=jY (Nat.div_le_self _ _) ha
 have hy:(lim (b / Nat.gcd a b)).length≤60:=jY (Nat.div_le_self _ _) hb
 have hr:ro (vJ neg a b)=if(lim (a / Nat.gcd a b)).length≤24∧(lim (b / Nat.gcd a b)).length≤24 then rq (mkRat (sg neg a) b) else rz:=by
  have e3:=Qq (sg neg a) hb0
  have e4:fits (mkRat (sg neg a) b) ↔ (lim (a / Nat.gcd a b)).length≤24∧(lim (b / Nat.gcd a b)).length≤24:=by
   have e5:=congrArg RT.m e3
   have e6:=congrArg RT.d e3
   simp only[rq,nO] at e5 e6
   unfold fits
   rw[e5,e6]
  unfold vJ fit
  rw[if_neg hb0]
  by_cases hf:fits (mkRat (sg neg a) b)
  ·rw[if_pos hf,if_pos (e4.1 hf)];rfl
  ·rw[if_neg hf,if_neg (fun h=>hf (e4.2 h))];rfl
 obtain⟨x,ex⟩: ∃x,a / Nat.gcd a b=x:=⟨_,rfl⟩
 obtain⟨y,ey⟩: ∃y,b / Nat.gcd a b=y:=⟨_,rfl⟩
 rw[ex,ey] at hr e2
 rw[ex] at hx
 rw[ey] at hy
 rw[ex,ey,hr]
 refine aC ?_
 simp
 refine bW [(0,.bool neg),(6,.loc g 3 0 0),(7,.sl (iv (lim x))),(8,.sl (iv (lim y)))] _ _ 46 (.bool (!decide ((lim x).length≤24∧(lim y).length≤24))) (upd bl g (some ⟨3,[[.bool false,.nils,.nils]]⟩)) ⟨rfl,by simp,Sub.refl _⟩ rfl ?_ ?_
 ·simp
  refine⟨fun h=> ?_,fun h=> ?_⟩
  ·omega
  ·rw[Bool.eq_iff_iff]
   simp
   omega
 by_cases hc:(lim x).length≤24∧(lim y).length≤24
 ·simp only[hc,and_self,decide_true,Bool.not_true,if_true]
  simp
  refine aE (dO neg x (by omega)) ?_
  simp
  intro g1 hg1 h1g hb1
  simp[h1g,Ne.symm h1g,appV,elsV,Int.not_lt.2 hg1,bO]
  refine⟨by omega,fun g2 hg2 hb2=> ?_⟩
  have h2g:g2≠g:=by grind
  have U1:bl g2=none:=by grind
  have hnn:0≤g2∨lim y= []:=hg2.imp id (fun h=>by simpa [iv] using h)
  simp[h1g,Ne.symm h1g,h2g,Ne.symm h2g,bS,nO]
  refine aK [.agg [.bool (decide (sg neg x<0)),.sl (iv (lim x)),.lsl g2 1 0 (lim y).length]] 2 (by simp[h1g,Ne.symm h1g,h2g,Ne.symm h2g]) ?_ (by simp[hg,hb1,U1,h1g,h2g])
  rw[e2,bS,nO]
  exact H6 hnn U1 (by simp[h2g])
 ·simp only[hc,decide_false,Bool.not_false,if_false]
  simp
  exact aK [.agg [.bool false,.nils,.nils]] 1 (by simp) (by simp[frz,rz,RT.c,V.cl,iv]) (by simp[hg])
def nm (x:Option Rat):Int:=match x with | some q=>q.num | none=>0
def dn (x:Option Rat):Nat:=match x with | some q=>q.den | none=>0
theorem nV (x:Option Rat):(ro x).c= [.bool (decide (nm x<0)),.sl (iv (lim (nm x).natAbs)),.sl (iv (lim (dn x)))]:=by
 cases x
 ·show rz.c=_
  rw[show nm none=0 from rfl,show dn none=0 from rfl,Int.natAbs_zero,aW];rfl
 ·rfl
theorem sG {x:Option Rat} (h:okQ x):(lim (nm x).natAbs).length≤24∧(lim (dn x)).length≤24:=by
 cases x with
 | none => rw [show nm none = 0 from rfl, show dn none = 0 from rfl, Int.natAbs_zero, aW]; simp
 | some q => exact h q rfl
theorem G9 {x:Option Rat} (h:okQ x):okQ (x.map (- ·)):=by
 intro q hq
 cases x with
 | none => cases hq
 | some a =>
   cases hq
   have:=h a rfl
   unfold fits at this ⊢
   rw[show(-a).num= -a.num from rfl,show(-a).den=a.den from rfl,Int.natAbs_neg];exact this
theorem Rx (x:Option Rat):nm (x.map (- ·))= - nm x:=by cases x with | none=>rfl | some q=>rfl
theorem Ue (x:Option Rat):dn (x.map (- ·))=dn x:=by cases x with | none=>rfl | some q=>rfl
theorem A7 (x:Option Rat) (hx:okQ x):RO Tryz.prog 202 [.agg (ro x).c] (.agg (ro (x.map (- ·))).c):=by
 obtain⟨hm,hd⟩:=sG hx
 have bO: ∀m,((iv (lim m)).all fun c=>c.length==1 && c.all V.one)=true:=fun m=>by simp[iv]
 refine aJ Tryz.func202 rfl rfl (by rw[Tryz.ntmps202];simp) fun bl=> ?_
 rw[Tryz.ntmps202,Tryz.results202]
 refine aD ?_
 rw[nV x]
 simp
 intro g hg0 hg g2 hg2 h2g hb2
 refine aC ?_
 simp
 refine bA aN (upd bl g (some ⟨3,[[.bool (decide (nm x<0)),.sl (iv (lim (nm x).natAbs)),.sl (iv (lim (dn x)))]]⟩)) (by simp[h2g,hb2]) [0,1,2,3,4,5,6,7,9,10] 4 (by kernel_rfl) ?_
 simp[h2g,Ne.symm h2g]
 refine aP (dO _ _ (by omega)) ?_
 rw[Jn]
 simp[h2g,Ne.symm h2g]
 refine Dz 8 ?_
 simp[h2g,Ne.symm h2g]
 intro g3 hg3 h32 h3g hb3
 refine⟨by simp[h2g,Ne.symm h2g,hb2,h3g,h32,hb3],Dz 11 ?_⟩
 simp[h2g,Ne.symm h2g,h3g,Ne.symm h3g,h32,Ne.symm h32,appV,elsV,Int.not_lt.2 hg3,bO]
 refine⟨by omega,fun g4 hg4 hb4=> ?_⟩
 have h4g:g4≠g:=by grind
 have h42:g4≠g2:=by grind
 have gV:bl g4=none:=by grind
 have hnn:0≤g4∨lim (dn x)= []:=hg4.imp id (fun h=>by simpa [iv] using h)
 refine⟨by simp[h2g,Ne.symm h2g,hb2,h3g,h32,hb3,h4g,h42,gV],Dz 12 ?_⟩
 simp[h2g,Ne.symm h2g,h3g,Ne.symm h3g,h32,Ne.symm h32,h4g,Ne.symm h4g,h42,Ne.symm h42,bS]
 refine⟨by simp[h2g,Ne.symm h2g,hb2,h3g,h32,hb3,h4g,h42,gV],Dz 13 ?_⟩
 simp[h2g,Ne.symm h2g,h3g,Ne.symm h3g,h32,Ne.symm h32,h4g,Ne.symm h4g,h42,Ne.symm h42]
 refine⟨by simp[h2g,Ne.symm h2g,hb2,h3g,h32,hb3,h4g,h42,gV],Dy ?_⟩
 simp
 refine aK [.agg [.bool (decide (-nm x<0)),.sl (iv (lim (nm x).natAbs)),.lsl g4 1 0 (lim (dn x)).length]] 2 (by simp[h2g,Ne.symm h2g,h4g,Ne.symm h4g,h42,Ne.symm h42]) ?_ (by simp[hg,hb2,hb3,gV,h2g,h4g,h42])
 rw[nV,Rx,Ue,Int.natAbs_neg]
 exact H6 hnn gV (by simp[h4g,h42])
theorem Dr (x y:Option Rat) (hx:okQ x) (hy:okQ y):RO Tryz.prog 279 [.agg (ro x).c,.agg (ro y).c] (.agg (ro (op2 (· * ·) x y)).c):=by
 obtain⟨hm,hd⟩:=sG hx
 obtain⟨hm2,hd2⟩:=sG hy
 have n1:=jE hm hm2
 have n2:=jE hd hd2
 have e:vJ (decide (nm x<0) !=decide (nm y<0)) ((nm x).natAbs*(nm y).natAbs) (dn x*dn y)=op2 (· * ·) x y:=by
  unfold vJ op2
  rw[tG]
  cases x with
  | none => simp [dn]
  | some a =>
    cases y with
    | none=>simp[dn]
    | some b=>
      rw[if_neg (show ¬ dn (some a)*dn (some b)=0 from Nat.mul_ne_zero a.den_nz b.den_nz)]
      simp only[nm,dn]
      rw[←Rat.mul_def']
 refine aJ Tryz.func279 rfl rfl (by rw[Tryz.ntmps279];simp) fun bl=> ?_
 rw[Tryz.ntmps279,Tryz.results279]
 refine aD ?_
 rw[nV x,nV y]
 simp
 intro g hg0 hg g2 hg2 h2g hb2 g3 hg3 h32 h3g hb3
 refine aC ?_
 simp
 refine bA aN (upd (upd bl g (some ⟨3,[[.bool (decide (nm x<0)),.sl (iv (lim (nm x).natAbs)),.sl (iv (lim (dn x)))]]⟩)) g2 (some ⟨3,[[.bool (decide (nm y<0)),.sl (iv (lim (nm y).natAbs)),.sl (iv (lim (dn y)))]]⟩)) (by simp[h32,h3g,hb3]) [0,1,2,3,4,5,6,7,8,9,10,11,12,13,14,15,16,17,18,19] 1 (by kernel_rfl) ?_
 simp[h2g,Ne.symm h2g,h32,Ne.symm h32,h3g,Ne.symm h3g]
 refine aP (eR _ _ (by omega) (by omega)) ?_
 simp[h2g,Ne.symm h2g,h32,Ne.symm h32,h3g,Ne.symm h3g]
 refine aP (eR _ _ (by omega) (by omega)) ?_
 simp[h2g,Ne.symm h2g,h32,Ne.symm h32,h3g,Ne.symm h3g]
 refine aP (oL _ _ _ (by omega) (by omega)) ?_
 rw[e]
 simp[h2g,Ne.symm h2g,h32,Ne.symm h32,h3g,Ne.symm h3g]
 refine Dz 20 ?_
 rw[nV (op2 _ x y)]
 simp[h2g,Ne.symm h2g,h32,Ne.symm h32,h3g,Ne.symm h3g]
 refine⟨by simp[h32,h3g,hb3],Dy ?_⟩
 simp[h2g,Ne.symm h2g,h32,Ne.symm h32,h3g,Ne.symm h3g]
 exact aK [.agg (ro (op2 (· * ·) x y)).c] 1 (by rw[nV (op2 _ x y)];simp[h2g,Ne.symm h2g,h32,Ne.symm h32,h3g,Ne.symm h3g]) (by rw[nV (op2 _ x y)];simp[frz,V.cl]) (by simp[hg,hb2,hb3])
theorem A0 (x y:Option Rat) (hx:okQ x) (hy:okQ y):RO Tryz.prog 214 [.agg (ro x).c,.agg (ro y).c] (.agg (ro (op2 (· + ·) x y)).c):=by
 obtain⟨hm,hd⟩:=sG hx
 obtain⟨hm2,hd2⟩:=sG hy
 have n1:=jE hm hd2
 have n2:=jE hm2 hd
 have n3:=jE hd hd2
 have e0: ∀(a:Int) (b:Nat),sg (decide (a<0)) (a.natAbs*b)=a*b:=fun a b=>by
  have:=tG a b
  have h0:decide (((b:Nat):Int)<0)=false:=decide_eq_false (by omega)
  rw[h0,Bool.bne_false,Int.natAbs_natCast] at this
  exact this
 have e: ∀n:Int,n=nm x*dn y+nm y*dn x→vJ (decide (n<0)) n.natAbs (dn x*dn y)=op2 (· + ·) x y:=fun n hn=>by
  unfold vJ op2
  rw[Bf,hn]
  cases x with
  | none => simp [dn]
  | some a =>
    cases y with
    | none=>simp[dn]
    | some b=>
      rw[if_neg (show ¬ dn (some a)*dn (some b)=0 from Nat.mul_ne_zero a.den_nz b.den_nz)]
      simp only[nm,dn]
      rw[←Rat.add_def']
 have o1:=lS (dn x)
 have o2:=lS (dn y)
 refine aJ Tryz.func214 rfl rfl (by rw[Tryz.ntmps214];simp) fun bl=> ?_
 rw[Tryz.ntmps214,Tryz.results214]
 refine aD ?_
 rw[nV x,nV y]
 simp
 intro g hg0 hg g2 hg2 h2g hb2 g3 hg3 h32 h3g hb3
 refine aC ?_
 simp
 refine bW [(2,.loc g 3 0 0),(3,.loc g2 3 0 0),(4,.loc g3 3 0 0)] _ _ 16 (.bool (decide (dn x=1)&& decide (dn y=1))) (upd (upd (upd bl g (some ⟨3,[[.bool (decide (nm x<0)),.sl (iv (lim (nm x).natAbs)),.sl (iv (lim (dn x)))]]⟩)) g2 (some ⟨3,[[.bool (decide (nm y<0)),.sl (iv (lim (nm y).natAbs)),.sl (iv (lim (dn y)))]]⟩)) g3 (some ⟨3,[[.bool false,.nils,.nils]]⟩)) ⟨rfl,by simp,Sub.refl _⟩ rfl ?_ ?_
 ·simp[h2g,Ne.symm h2g,h32,Ne.symm h32,h3g,Ne.symm h3g]
  refine aE o1 ?_
  simp[h2g,Ne.symm h2g,h32,Ne.symm h32,h3g,Ne.symm h3g]
  refine⟨fun h=> ?_,fun h=> ?_⟩
  ·refine aE o2 ?_
   simp[h]
  ·simp[h]
 have w:ro (op2 (· + ·) x y)=ro (op2 (· + ·) x y):=rfl
 by_cases fR:dn x=1∧dn y=1
 ·have e1:=e (nm x+nm y) (by rw[fR.1,fR.2];simp)
  rw[fR.1,fR.2] at e1
  have l1:(lim (nm x+nm y).natAbs).length≤25:=jY (Int.natAbs_add_le _ _) (vB hm hm2)
  simp[fR.1,fR.2,h2g,Ne.symm h2g,h32,Ne.symm h32,h3g,Ne.symm h3g]
  refine aE (B6 (nm x) (nm y) (by omega) (by omega)) ?_
  simp[h2g,Ne.symm h2g,h32,Ne.symm h32,h3g,Ne.symm h3g]
  intro g4 hg4
  intros
  have h4g: ¬ g4=g:=by assumption
  have h42: ¬ g4=g2:=by assumption
  have h43: ¬ g4=g3:=by assumption
  have hb4:bl g4=none:=by assumption
  simp[h2g,Ne.symm h2g,h32,Ne.symm h32,h3g,Ne.symm h3g,h4g,Ne.symm h4g,h42,Ne.symm h42,h43,Ne.symm h43,bS]
  intro g5 hg5
  intros
  have h5g: ¬ g5=g:=by assumption
  have h52: ¬ g5=g2:=by assumption
  have h53: ¬ g5=g3:=by assumption
  have h54: ¬ g5=g4:=by assumption
  have hb5:bl g5=none:=by assumption
  refine fV 1 (upd (upd (upd (upd bl g (some ⟨3,[[.bool (decide (nm x<0)),.sl (iv (lim (nm x).natAbs)),.sl (iv (lim 1))]]⟩)) g2 (some ⟨3,[[.bool (decide (nm y<0)),.sl (iv (lim (nm y).natAbs)),.sl (iv (lim 1))]]⟩)) g3 (some ⟨3,[[.bool false,.nils,.nils]]⟩)) g4 (some ⟨2,[[.bool (decide (nm x+nm y<0)),.sl (iv (lim (nm x+nm y).natAbs))]]⟩)) [.bool (decide (nm x+nm y<0)),.sl (iv (lim (nm x+nm y).natAbs)),.sl (iv (lim 1))] (by simp[h2g,Ne.symm h2g,h32,Ne.symm h32,h3g,Ne.symm h3g,h4g,Ne.symm h4g,h42,Ne.symm h42,h43,Ne.symm h43,h5g,Ne.symm h5g,h52,Ne.symm h52,h53,Ne.symm h53,h54,Ne.symm h54,hb5]) (by simp[frz,dropB,V.cl,Pe,iv,Int.not_lt.2 hg5,h2g,Ne.symm h2g,h32,Ne.symm h32,h3g,Ne.symm h3g,h4g,Ne.symm h4g,h42,Ne.symm h42,h43,Ne.symm h43,h5g,Ne.symm h5g,h52,Ne.symm h52,h53,Ne.symm h53,h54,Ne.symm h54,hb5]) (oL _ _ 1 (by omega) (by rw[Pe];simp)) ?_
  rw[show vJ (decide (nm x+nm y<0)) (nm x+nm y).natAbs 1=op2 (· + ·) x y from e1,nV (op2 _ x y)]
  simp[h2g,Ne.symm h2g,h32,Ne.symm h32,h3g,Ne.symm h3g,h4g,Ne.symm h4g,h42,Ne.symm h42,h43,Ne.symm h43,h5g,Ne.symm h5g,h52,Ne.symm h52,h53,Ne.symm h53,h54,Ne.symm h54]
  exact aK [.agg (ro (op2 (· + ·) x y)).c] 1 (by rw[nV (op2 _ x y)];simp[h2g,Ne.symm h2g,h32,Ne.symm h32,h3g,Ne.symm h3g,h4g,Ne.symm h4g,h42,Ne.symm h42,h43,Ne.symm h43,h5g,Ne.symm h5g,h52,Ne.symm h52,h53,Ne.symm h53,h54,Ne.symm h54]) (by rw[nV (op2 _ x y)];simp[frz,V.cl]) (by simp[hg,hb2,hb3,hb4,hb5])
 ·have aC1:(decide (dn x=1)&& decide (dn y=1))=false:=by
   rw[Bool.eq_false_iff];simpa using fR
  rw[aC1]
  simp
  refine bA aN (upd (upd (upd bl g (some ⟨3,[[.bool (decide (nm x<0)),.sl (iv (lim (nm x).natAbs)),.sl (iv (lim (dn x)))]]⟩)) g2 (some ⟨3,[[.bool (decide (nm y<0)),.sl (iv (lim (nm y).natAbs)),.sl (iv (lim (dn y)))]]⟩)) g3 (some ⟨3,[[.bool false,.nils,.nils]]⟩)) (Sub.refl _) [0,1,2,3,4,5,6,7,8,9] 2 (by kernel_rfl) ?_
  simp[h2g,Ne.symm h2g,h32,Ne.symm h32,h3g,Ne.symm h3g]
  refine aP (eR _ _ (by omega) (by omega)) ?_
  simp[h2g,Ne.symm h2g,h32,Ne.symm h32,h3g,Ne.symm h3g]
  refine aP (dO _ _ (by omega)) ?_
  rw[e0]
  simp[h2g,Ne.symm h2g,h32,Ne.symm h32,h3g,Ne.symm h3g]
  refine Dz 10 ?_
  simp[h2g,Ne.symm h2g,h32,Ne.symm h32,h3g,Ne.symm h3g]
  intro g4 hg4
  intros
  have h4g: ¬ g4=g:=by assumption
  have h42: ¬ g4=g2:=by assumption
  have h43: ¬ g4=g3:=by assumption
  have hb4:bl g4=none:=by assumption
  refine⟨by simp[h2g,Ne.symm h2g,h32,Ne.symm h32,h3g,Ne.symm h3g,h4g,Ne.symm h4g,h42,Ne.symm h42,h43,Ne.symm h43,hb2,hb3,hb4],Dz 11 ?_⟩
  simp[h2g,Ne.symm h2g,h32,Ne.symm h32,h3g,Ne.symm h3g,h4g,Ne.symm h4g,h42,Ne.symm h42,h43,Ne.symm h43,bS]
  refine⟨by simp[h2g,Ne.symm h2g,h32,Ne.symm h32,h3g,Ne.symm h3g,h4g,Ne.symm h4g,h42,Ne.symm h42,h43,Ne.symm h43,hb2,hb3,hb4],Dy ?_⟩
  simp[h2g,Ne.symm h2g,h32,Ne.symm h32,h3g,Ne.symm h3g,h4g,Ne.symm h4g,h42,Ne.symm h42,h43,Ne.symm h43]
  refine aC ?_
  refine bA aN (upd (upd (upd (upd bl g (some ⟨3,[[.bool (decide (nm x<0)),.sl (iv (lim (nm x).natAbs)),.sl (iv (lim (dn x)))]]⟩)) g2 (some ⟨3,[[.bool (decide (nm y<0)),.sl (iv (lim (nm y).natAbs)),.sl (iv (lim (dn y)))]]⟩)) g3 (some ⟨3,[[.bool false,.nils,.nils]]⟩)) g4 (some ⟨2,[[.bool (decide (nm x*dn y<0)),.sl (iv (lim (nm x*dn y).natAbs))]]⟩)) (Sub.refl _) [0,1,2,3,4,5,6,7,8,9] 2 (by kernel_rfl) ?_
  simp[h2g,Ne.symm h2g,h32,Ne.symm h32,h3g,Ne.symm h3g,h4g,Ne.symm h4g,h42,Ne.symm h42,h43,Ne.symm h43]
  refine aP (eR _ _ (by omega) (by omega)) ?_
  simp[h2g,Ne.symm h2g,h32,Ne.symm h32,h3g,Ne.symm h3g,h4g,Ne.symm h4g,h42,Ne.symm h42,h43,Ne.symm h43]
  refine aP (dO _ _ (by omega)) ?_
  rw[e0]
  simp[h2g,Ne.symm h2g,h32,Ne.symm h32,h3g,Ne.symm h3g,h4g,Ne.symm h4g,h42,Ne.symm h42,h43,Ne.symm h43]
  refine Dz 10 ?_
  simp[h2g,Ne.symm h2g,h32,Ne.symm h32,h3g,Ne.symm h3g,h4g,Ne.symm h4g,h42,Ne.symm h42,h43,Ne.symm h43]
  intro g5 hg5
  intros
  have h5g: ¬ g5=g:=by assumption
  have h52: ¬ g5=g2:=by assumption
  have h53: ¬ g5=g3:=by assumption
  have h54: ¬ g5=g4:=by assumption
  have hb5:bl g5=none:=by assumption
  refine⟨by simp[h2g,Ne.symm h2g,h32,Ne.symm h32,h3g,Ne.symm h3g,h4g,Ne.symm h4g,h42,Ne.symm h42,h43,Ne.symm h43,h5g,Ne.symm h5g,h52,Ne.symm h52,h53,Ne.symm h53,h54,Ne.symm h54,hb2,hb3,hb4,hb5],Dz 11 ?_⟩
  simp[h2g,Ne.symm h2g,h32,Ne.symm h32,h3g,Ne.symm h3g,h4g,Ne.symm h4g,h42,Ne.symm h42,h43,Ne.symm h43,h5g,Ne.symm h5g,h52,Ne.symm h52,h53,Ne.symm h53,h54,Ne.symm h54,bS]
  refine⟨by simp[h2g,Ne.symm h2g,h32,Ne.symm h32,h3g,Ne.symm h3g,h4g,Ne.symm h4g,h42,Ne.symm h42,h43,Ne.symm h43,h5g,Ne.symm h5g,h52,Ne.symm h52,h53,Ne.symm h53,h54,Ne.symm h54,hb2,hb3,hb4,hb5],Dy ?_⟩
  simp[h2g,Ne.symm h2g,h32,Ne.symm h32,h3g,Ne.symm h3g,h4g,Ne.symm h4g,h42,Ne.symm h42,h43,Ne.symm h43,h5g,Ne.symm h5g,h52,Ne.symm h52,h53,Ne.symm h53,h54,Ne.symm h54]
  refine aE (B6 (nm x*dn y) (nm y*dn x) (by rw[Int.natAbs_mul,Int.natAbs_natCast];omega) (by rw[Int.natAbs_mul,Int.natAbs_natCast];omega)) ?_
  simp[h2g,Ne.symm h2g,h32,Ne.symm h32,h3g,Ne.symm h3g,h4g,Ne.symm h4g,h42,Ne.symm h42,h43,Ne.symm h43,h5g,Ne.symm h5g,h52,Ne.symm h52,h53,Ne.symm h53,h54,Ne.symm h54,bS]
  intro g6 hg6
  intros
  have h6g: ¬ g6=g:=by assumption
  have h62: ¬ g6=g2:=by assumption
  have h63: ¬ g6=g3:=by assumption
  have h64: ¬ g6=g4:=by assumption
  have h65: ¬ g6=g5:=by assumption
  have hb6:bl g6=none:=by assumption
  try simp[h2g,Ne.symm h2g,h32,Ne.symm h32,h3g,Ne.symm h3g,h4g,Ne.symm h4g,h42,Ne.symm h42,h43,Ne.symm h43,h5g,Ne.symm h5g,h52,Ne.symm h52,h53,Ne.symm h53,h54,Ne.symm h54,h6g,Ne.symm h6g,h62,Ne.symm h62,h63,Ne.symm h63,h64,Ne.symm h64,h65,Ne.symm h65]
  refine aC ?_
  refine bA aN (upd (upd (upd (upd (upd bl g (some ⟨3,[[.bool (decide (nm x<0)),.sl (iv (lim (nm x).natAbs)),.sl (iv (lim (dn x)))]]⟩)) g2 (some ⟨3,[[.bool (decide (nm y<0)),.sl (iv (lim (nm y).natAbs)),.sl (iv (lim (dn y)))]]⟩)) g4 (some ⟨2,[[.bool (decide (nm x*dn y<0)),.sl (iv (lim (nm x*dn y).natAbs))]]⟩)) g5 (some ⟨2,[[.bool (decide (nm y*dn x<0)),.sl (iv (lim (nm y*dn x).natAbs))]]⟩)) g6 (some ⟨2,[[.bool (decide (nm x*dn y+nm y*dn x<0)),.sl (iv (lim (nm x*dn y+nm y*dn x).natAbs))]]⟩)) (by intro z b hz;simp only[aA] at hz ⊢;grind) [0,1,2,3,4,5,6,7,8,9] 1 (by kernel_rfl) ?_
  simp[h2g,Ne.symm h2g,h32,Ne.symm h32,h3g,Ne.symm h3g,h4g,Ne.symm h4g,h42,Ne.symm h42,h43,Ne.symm h43,h5g,Ne.symm h5g,h52,Ne.symm h52,h53,Ne.symm h53,h54,Ne.symm h54,h6g,Ne.symm h6g,h62,Ne.symm h62,h63,Ne.symm h63,h64,Ne.symm h64,h65,Ne.symm h65]
  refine aP (eR _ _ (by omega) (by omega)) ?_
  simp[h2g,Ne.symm h2g,h32,Ne.symm h32,h3g,Ne.symm h3g,h4g,Ne.symm h4g,h42,Ne.symm h42,h43,Ne.symm h43,h5g,Ne.symm h5g,h52,Ne.symm h52,h53,Ne.symm h53,h54,Ne.symm h54,h6g,Ne.symm h6g,h62,Ne.symm h62,h63,Ne.symm h63,h64,Ne.symm h64,h65,Ne.symm h65]
  refine aP (oL _ _ _ ?_ (by omega)) ?_
  ·exact jY (Int.natAbs_add_le _ _) (by rw[Int.natAbs_mul,Int.natAbs_mul,Int.natAbs_natCast,Int.natAbs_natCast];have:=vB n1 n2;omega)
  rw[e _ rfl,nV (op2 _ x y)]
  simp[h2g,Ne.symm h2g,h32,Ne.symm h32,h3g,Ne.symm h3g,h4g,Ne.symm h4g,h42,Ne.symm h42,h43,Ne.symm h43,h5g,Ne.symm h5g,h52,Ne.symm h52,h53,Ne.symm h53,h54,Ne.symm h54,h6g,Ne.symm h6g,h62,Ne.symm h62,h63,Ne.symm h63,h64,Ne.symm h64,h65,Ne.symm h65]
  refine Dz 10 ?_
  simp[h2g,Ne.symm h2g,h32,Ne.symm h32,h3g,Ne.symm h3g,h4g,Ne.symm h4g,h42,Ne.symm h42,h43,Ne.symm h43,h5g,Ne.symm h5g,h52,Ne.symm h52,h53,Ne.symm h53,h54,Ne.symm h54,h6g,Ne.symm h6g,h62,Ne.symm h62,h63,Ne.symm h63,h64,Ne.symm h64,h65,Ne.symm h65]
  refine⟨by intro z b hz;simp only[aA] at hz ⊢;grind,Dy ?_⟩
  simp[h2g,Ne.symm h2g,h32,Ne.symm h32,h3g,Ne.symm h3g,h4g,Ne.symm h4g,h42,Ne.symm h42,h43,Ne.symm h43,h5g,Ne.symm h5g,h52,Ne.symm h52,h53,Ne.symm h53,h54,Ne.symm h54,h6g,Ne.symm h6g,h62,Ne.symm h62,h63,Ne.symm h63,h64,Ne.symm h64,h65,Ne.symm h65]
  exact aK [.agg (ro (op2 (· + ·) x y)).c] 1 (by rw[nV (op2 _ x y)];simp[h2g,Ne.symm h2g,h32,Ne.symm h32,h3g,Ne.symm h3g,h4g,Ne.symm h4g,h42,Ne.symm h42,h43,Ne.symm h43,h5g,Ne.symm h5g,h52,Ne.symm h52,h53,Ne.symm h53,h54,Ne.symm h54,h6g,Ne.symm h6g,h62,Ne.symm h62,h63,Ne.symm h63,h64,Ne.symm h64,h65,Ne.symm h65]) (by rw[nV (op2 _ x y)];simp[frz,V.cl]) (by simp[hg,hb2,hb3,hb4,hb5,hb6])

theorem E5 {n:Int} (h0:0≤n) (h1:n≤18446744073709551615):IntKind.u64.wrap n=n:=IntWalk.u64_in _ ⟨by omega,by omega⟩
theorem yJ (n:Int) (hn: -9223372036854775808≤n∧n≤9223372036854775807):RO Tryz.prog 160 [.int .i64 n] (.agg (biC n)):=by
 refine aJ Tryz.func160 rfl rfl (by rw[Tryz.ntmps160];simp) fun bl=> ?_
 rw[Tryz.ntmps160,Tryz.results160]
 refine aC ?_
 simp
 intro g hg0 hg
 refine⟨fun h=> ?_,fun h=> ?_⟩
 ·have e:IntKind.u64.wrap (IntKind.u64.wrap (IntKind.i64.wrap (-IntKind.i64.wrap (n+1)))+1)=(n.natAbs:Int):=by
   have w1:IntKind.i64.wrap (n+1)=n+1:=i64_in (by omega) (by omega)
   have w2:IntKind.i64.wrap (-(n+1))= -(n+1):=i64_in (by omega) (by omega)
   have w3:IntKind.u64.wrap (-(n+1))= -(n+1):=E5 (by omega) (by omega)
   have w4:IntKind.u64.wrap (-(n+1)+1)= -(n+1)+1:=E5 (by omega) (by omega)
   rw[w1,w2,w3,w4]
   omega
  rw[e]
  refine aE (qF n.natAbs (by omega)) ?_
  simp
  refine aE (iE true n.natAbs) ?_
  have e2:sg true n.natAbs=n:=by unfold sg;simp;omega
  rw[e2,bS]
  simp
  exact aK [.agg (biC n)] 1 (by simp[bS]) (by simp[frz,bS,V.cl]) (by simp[hg])
 ·have e:IntKind.u64.wrap n=(n.natAbs:Int):=by rw[E5 (by omega) (by omega)];omega
  rw[e]
  refine aE (qF n.natAbs (by omega)) ?_
  simp
  refine aE (iE false n.natAbs) ?_
  have e2:sg false n.natAbs=n:=by unfold sg;simp;omega
  rw[e2,bS]
  simp
  exact aK [.agg (biC n)] 1 (by simp[bS]) (by simp[frz,bS,V.cl]) (by simp[hg])
theorem L2 (n:Int) (hn: -9223372036854775808<n∧n≤9223372036854775807):RO Tryz.prog 215 [.int .i64 n] (.agg (biC n)):=by
 have hl:(lim n.natAbs).length≤60:=aL.2 (Nat.lt_of_le_of_lt (show n.natAbs≤9223372036854775808 by omega) (by decide+kernel))
 refine aJ Tryz.func215 rfl rfl (by rw[Tryz.ntmps215];simp) fun bl=> ?_
 rw[Tryz.ntmps215,Tryz.results215]
 refine aC ?_
 simp
 intro g hg0 hg
 have h0: ¬ n= -9223372036854775808:=by omega
 simp[h0]
 refine⟨fun h=> ?_,fun h=> ?_⟩
 ·have e:IntKind.i64.wrap (-n)=(n.natAbs:Int):=by rw[i64_in (by omega) (by omega)];omega
  try rw[e]
  refine aE (fE n.natAbs (by omega)) ?_
  simp
  refine aE (dO true n.natAbs hl) ?_
  have e2:sg true n.natAbs=n:=by unfold sg;simp;omega
  rw[e2,bS]
  simp
  exact aK [.agg (biC n)] 1 (by simp[bS]) (by simp[frz,bS,V.cl]) (by simp[hg])
 ·have e:n=(n.natAbs:Int):=by omega
  have hN:=fE n.natAbs (by omega)
  rw[←e] at hN
  refine aE hN ?_
  simp
  refine aE (dO false n.natAbs hl) ?_
  have e2:sg false n.natAbs=n:=by unfold sg;simp;omega
  rw[e2,bS]
  simp
  exact aK [.agg (biC n)] 1 (by simp[bS]) (by simp[frz,bS,V.cl]) (by simp[hg])
theorem To (n:Int):(rq (n:Rat)).c= [.bool (decide (n<0)),.sl (iv (lim n.natAbs)),.sl [[.int .i64 1]]]:=by
 rw[E2]
 show [V.bool (decide (n<0)),V.sl (iv (lim n.natAbs)),V.sl (iv (lim 1))]=_
 rw[Pe];rfl
theorem eG (n:Int) (hn: -9223372036854775808<n∧n≤9223372036854775807):RO Tryz.prog 138 [.int .i64 n] (.agg (ro (some (n:Rat))).c):=by
 refine aJ Tryz.func138 rfl rfl (by rw[Tryz.ntmps138];simp) fun bl=> ?_
 rw[Tryz.ntmps138,Tryz.results138]
 refine aC ?_
 rw[show(ro (some (n:Rat))).c=_ from To n]
 simp
 intro g hg0 hg
 refine aE (L2 n hn) ?_
 simp[bS]
 intro g1 hg1 h1g hb1
 simp[h1g,Ne.symm h1g]
 refine aK [.agg [.bool (decide (n<0)),.sl (iv (lim n.natAbs)),.lsl g1 1 0 1]] 2 (by simp[h1g,Ne.symm h1g]) ?_ (by simp[hg,hb1])
 exact H6 (ns:= [1]) (.inl hg1) hb1 (by simp[h1g,iv])

theorem R3 :Tryz.prog.cellsOf 3=1:=by kernel_rfl
theorem A3 :Tryz.prog.cellsOf 4=1:=by kernel_rfl
theorem tM :Tryz.prog.cellsOf 9=1:=by kernel_rfl
theorem Ah :Tryz.prog.cellsOf 207=4:=by kernel_rfl
theorem aMT {cs:List V} (h:cs.length=2): ∃a b,cs= [a,b]:=by
 match cs,h with
 | [a, b], _ => exact ⟨a, b, rfl⟩
theorem aMR {cs:List V} (h:cs.length=3): ∃a b c,cs= [a,b,c]:=by
 match cs,h with
 | [a, b, c], _ => exact ⟨a, b, c, rfl⟩
theorem aNO {cs:List V} (h:cs.length=4): ∃a b c d,cs= [a,b,c,d]:=by
 match cs,h with
 | [a, b, c, d], _ => exact ⟨a, b, c, d, rfl⟩
theorem Ow {cs:List V} (h:CO Tryz.prog 207 cs): ∃j:J,cs=j.c∧j.fit:=by
 obtain⟨hl,hf⟩:=tI Tryz.underlying207 h
 rw[Ah] at hl
 obtain⟨a,b,c,d,rfl⟩:=aNO hl
 simp[R3,A3,tM] at hf
 obtain⟨h0,h1,h2,h3⟩:=hf
 obtain⟨s,h0,hs⟩:=Uf Tryz.underlying9 h0
 obtain⟨x,h1,hx⟩:=vY Tryz.underlying3 h1
 obtain⟨y,h2,hy⟩:=vY Tryz.underlying3 h2
 obtain⟨f,h3⟩:=Nj Tryz.underlying4 h3
 cases h0;cases h1;cases h2;cases h3
 exact⟨⟨s,x,y,f⟩,rfl,hs,wf_i64 hx,wf_i64 hy⟩

theorem K6 :Tryz.prog.cellsOf 217=3:=by kernel_rfl
theorem vZ :Tryz.prog.cellsOf 71=2:=by kernel_rfl
theorem O7 :Tryz.prog.cellsOf 68=1:=by kernel_rfl
theorem F8 :Tryz.prog.cellsOf 69=1:=by kernel_rfl
theorem T8 :1≤Tryz.prog.bytesOf 207:=by
 have:Tryz.prog.bytesOf 207=40:=by kernel_rfl
 omega
theorem F5 :1≤Tryz.prog.bytesOf 217:=by
 have:Tryz.prog.bytesOf 217=24:=by kernel_rfl
 omega
def Wo (n:Int):Prop:= -9223372036854775808≤n∧n≤9223372036854775807
structure Mb.fit (m : Mb) : Prop where
 a:Wo m.a
 b:Wo m.b
 kind:Wo m.kind
structure Str.fit (s : Str) : Prop where
 js:s.js.length≤140737488351232
 ms:s.ms.length≤140737488351232
 names: ∀j,j∈s.js→j.name.size≤140737488351232
 aNB: ∀j,j∈s.js→j.fit
 members: ∀m,m∈s.ms→m.fit
theorem Mg {cs:List V} (h:CO Tryz.prog 217 cs): ∃m:Mb,cs=m.c∧m.fit:=by
 obtain⟨hl,hf⟩:=tI Tryz.underlying217 h
 rw[K6] at hl
 obtain⟨a,b,c,rfl⟩:=aMR hl
 simp[R3,A3,tM] at hf
 obtain⟨h0,h1,h2⟩:=hf
 obtain⟨x,h0,hx⟩:=vY Tryz.underlying3 h0
 obtain⟨y,h1,hy⟩:=vY Tryz.underlying3 h1
 obtain⟨z,h2,hz⟩:=vY Tryz.underlying3 h2
 cases h0;cases h1;cases h2
 exact⟨⟨x,y,z⟩,rfl,wf_i64 hx,wf_i64 hy,wf_i64 hz⟩
theorem aD2 {xs:List (List V)} (hx: ∀x,x∈xs→CO Tryz.prog 207 x): ∃js:List J,xs=jv js∧ ∀j,j∈js→j.fit:=by
 induction xs with
 | nil => exact ⟨[], rfl, fun n hn => by cases hn⟩
 | cons x xs ih =>
   obtain⟨ns,rfl,hns⟩:=ih fun y hy=>hx y (List.mem_cons_of_mem _ hy)
   obtain⟨n,rfl,hn⟩:=Ow (hx x List.mem_cons_self)
   refine⟨n::ns,rfl,fun m hm=> ?_⟩
   rcases List.mem_cons.1 hm with rfl | hm
   ·exact hn
   ·exact hns m hm
theorem aGL {xs:List (List V)} (hx: ∀x,x∈xs→CO Tryz.prog 217 x): ∃js:List Mb,xs=mv js∧ ∀j,j∈js→j.fit:=by
 induction xs with
 | nil => exact ⟨[], rfl, fun n hn => by cases hn⟩
 | cons x xs ih =>
   obtain⟨ns,rfl,hns⟩:=ih fun y hy=>hx y (List.mem_cons_of_mem _ hy)
   obtain⟨n,rfl,hn⟩:=Mg (hx x List.mem_cons_self)
   refine⟨n::ns,rfl,fun m hm=> ?_⟩
   rcases List.mem_cons.1 hm with rfl | hm
   ·exact hn
   ·exact hns m hm
theorem Kp {xs:List (List V)} {b n:Nat} (hl:xs.length*b≤n) (hb:1≤b):xs.length≤n:=Nat.le_trans (Nat.le_mul_of_pos_right _ hb) hl
theorem Er {cs:List V} (h:CO Tryz.prog 71 cs): ∃s:Str,cs=s.c∧s.fit:=by
 obtain⟨hl,hf⟩:=tI Tryz.underlying71 h
 rw[vZ] at hl
 obtain⟨a,b,rfl⟩:=aMT hl
 simp[O7,F8] at hf
 obtain⟨h0,h1⟩:=hf
 obtain⟨x,h0,hx,hlx⟩:=K0 Tryz.underlying68 h0
 obtain⟨y,h1,hy,hly⟩:=K0 Tryz.underlying69 h1
 cases h0;cases h1
 obtain⟨js,rfl,hjs⟩:=aD2 hx
 obtain⟨ms,rfl,hms⟩:=aGL hy
 exact⟨⟨js,ms⟩,rfl,by simpa using Kp hlx T8,by simpa using Kp hly F5,fun j hj=>(hjs j hj).1,hjs,hms⟩

def szR (r:RT) (left:Int):Int:=if less left r.m.length<0 then -1 else less (less left r.m.length) r.d.length
def aPV (s:SP) (left:Int):Int:=if szR s.lo left<0 then -1 else szR s.hi (szR s.lo left)

def dB (neg:Bool) (m:List Int):List D:= [.c (.bool neg),fl 1 (iv m)]
def dR (r:RT):List D:= [.c (.bool r.neg),fl 1 (iv r.m),fl 1 (iv r.d)]
theorem Qv {bl:Int→Option Blk} {g:Int} (hg:bl g=none) (b:Option Blk): ∀x y,bl x=some y→upd bl g b x=some y:=fun x y hx=>by rw[aA,if_neg (fun e=>by rw[e,hg] at hx;cases hx)];exact hx
def mkR (k:Nat) (r:RT):RT:=⟨r.neg,marks k r.m.length,marks (k+r.m.length:Nat) r.d.length⟩
def aBP (k:Nat) (r:RT):Nat:=k+r.m.length+r.d.length
def dS (s:SP):List D:=dR s.lo++(dR s.hi++ [.c (.bool s.nl),.c (.bool s.nh)])
def aQA (k:Nat) (s:SP):Nat:=aBP (aBP k s.lo) s.hi

end Go.Proofs.YticmgmemnpcbbaaGreat.Vm

namespace Go.Proofs.YticmgmemnpcbbaaGreat.Vm
open Go Go.Proofs
set_option linter.unusedSimpArgs false
set_option linter.unusedVariables false
def rv (rs:List RT):List (List V):=rs.map RT.c
def dRs (rs:List RT):D:= .s 3 (rs.map dR)
def szTo :List RT→Int→Int
 | [], left => left
 | r :: rs, left => if szR r left < 0 then -1 else szTo rs (szR r left)
def aP8 (rs:List RT) (left:Int):Int:=if less left rs.length<0 then -1 else szTo rs (less left rs.length)
def aH6 (rs:List RT) (k:Nat):Prop:=rs.length≤k∧ ∀r,r∈rs→r.le k
def aOC (rs:List RT):Nat:=(rs.map fun r=>r.m.length+r.d.length).sum
def mkQ (k:Nat) (r:RT):RT:=⟨(k:Int).tmod 3==0,marks (k+1:Nat) r.m.length,marks (k+1+r.m.length:Nat) r.d.length⟩
def aD8 (k:Nat) (r:RT):Nat:=k+1+r.m.length+r.d.length
def mkQs :Nat→List RT→List RT
 | _, [] => []
 | k, r :: rs => mkQ k r :: mkQs (aD8 k r) rs
def aOR (k:Nat) (rs:List RT):Nat:=rs.foldl aD8 k
structure Mk where
 i:Nat
 els:List (List V)
 b:Int→Option Blk

def dT (r:RT) (b:Bool):D:= .t [.a (dR r),.c (.bool b)]
def aQM (s:SP):Option Rat:=if aL1 s && !s.nl && !s.nh then op2 (· - ·) (rd s.hi) (rd s.lo) else none

def fvs (xs:List (Option Rat)):List (List V):=xs.map fun x=> [fv x]
def okL (xs:List (Option Rat)):Prop:= ∀x,x∈xs→okQ x
def dL (xs:List (Option Rat)) (b:Bool):D:= .t [fl 1 (fvs xs),.c (.bool b)]
def N7 (rs:List RT):Bool:=rs.all fun r=>(rd r).isSome
def iQ (rs:List RT):List (Option Rat):=rs.map rd
def Lj (rs:List RT):Bool:=decide (rs.length≤24)&& N7 rs
def uY (xs:List (Option Rat)):Bool:=xs.all Option.isSome
def Cf (xs:List (Option Rat)):List RT:=xs.map ro
def stQ (xs:List (Option Rat)):List RT:=if uY xs=true then Cf xs else []
def dV (rs:List RT) (b:Bool):D:= .t [dRs rs,.c (.bool b)]

def Bl (s:Str) (q:List RT):Bool:=(sOk s && decide (q.length=s.ms.length))&& N7 q
def Kc (m:Mb) (x:Option Rat):Bool:=(decide (m.kind=1)&& decide (sgq x<0))|| (decide (m.kind=2)&& decide (0<sgq x))
def aLR (ms:List Mb) (q:List RT) (n:Nat):Prop:= ∀k (h1:k<ms.length) (h2:k<q.length),k<n→Kc ms[k] (rd q[k])=false
def aPP (s:Str) (q:List RT):Bool:=Bl s q && (List.zip s.ms q).all fun p=> !Kc p.1 (rd p.2)

def pTo (e:Mb→Int) (s:Str) (q:List (Option Rat)) (j:Int):Nat→Option Rat
 | 0 => some 0
 | n + 1 => if j = (mat s n).a ∨ j = (mat s n).b then op2 (· + ·) (pTo e s q j n) (op2 (· * ·) (q.getD n none) (some (e (mat s n) : Rat))) else pTo e s q j n
def pX (s:Str) (q:List (Option Rat)) (j:Int):Option Rat:=pTo (eqX s j) s q j s.ms.length
def pY (s:Str) (q:List (Option Rat)) (j:Int):Option Rat:=pTo (eqY s j) s q j s.ms.length

def Wn (s:Str) (q:List RT) (j:Int):Bool:=Bl s q && (decide (0≤j)&& decide (j<s.js.length))
def pqs (s:Str) (q:List RT) (j:Int):List (Option Rat):=if Wn s q j=true then [pX s (iQ q) j,pY s (iQ q) j] else [none]

def lN (l:List Int) (k:Nat):Int:=l.getD k 0
def fX (s:Str) (l:List Int) (q:List (Option Rat)) (i:Nat):Option Rat:=op2 (· + ·) (pX s q i) (some (lN l (2*i):Rat))
def fY (s:Str) (l:List Int) (q:List (Option Rat)) (i:Nat):Option Rat:=op2 (· + ·) (pY s q i) (some (lN l (2*i+1):Rat))
def isZ (x:Option Rat):Bool:=x.isSome && decide (sgq x=0)
def aME (s:Str) (l:List Int) (q:List (Option Rat)) (i:Nat):Bool:=isZ (fX s l q i)&& isZ (fY s l q i)
def aO6 (s:Str) (l:List Int) (q:List RT):Bool:=(Bl s q && A6 s.js l)&& (aO s.js).all fun j=>aME s l (iQ q) j.toNat
def aPR (s:Str) (l:List Int) (q:List RT) (i:Nat):List RT:=if uY [pX s (iQ q) i,pY s (iQ q) i]=true then [ro (fX s l (iQ q) i),ro (fY s l (iQ q) i)] else []
def aP5 (s:Str) (l:List Int) (q:List RT) (i:Nat):Bool:=uY [fX s l (iQ q) i,fY s l (iQ q) i]

def aL7 (s:Str) (l:List Int) (q:List RT) (j:Int):Bool:=(Bl s q && A6 s.js l)&& ((decide (0≤j)&& decide (j<s.js.length))&& (s.js.getD j.toNat default).fixed)
def aP4 (s:Str) (l:List Int) (q:List RT) (j:Int):List (Option Rat):=if aL7 s l q j=true then [(fX s l (iQ q) j.toNat).map (- ·),(fY s l (iQ q) j.toNat).map (- ·)] else [none]

def idx (js:List J) (i:Nat):Nat:=(bN js i).length
def fxd (js:List J) (i:Nat):Bool:=(js.getD i default).fixed
def dAt (js:List J) (d:List (Option Rat)) (t p:Nat):Option Rat:=if fxd js (p / 2)=true then some 0 else if idx js (p / 2)<t then d.getD (2*idx js (p / 2)+p % 2) none else some 0
def dsp (js:List J) (d:List (Option Rat)) (t:Nat):List (Option Rat):=(List.range (2*js.length)).map (dAt js d t)
def aPK (js:List J) (d:List (Option Rat)):List (Option Rat):=dsp js d (aO js).length
def dX (js:List J) (d:List (Option Rat)) (i:Nat):Option Rat:=if fxd js i=true then some 0 else d.getD (2*idx js i) none
def dY (js:List J) (d:List (Option Rat)) (i:Nat):Option Rat:=if fxd js i=true then some 0 else d.getD (2*idx js i+1) none
def Rg (s:Str) (d:List RT):Bool:=(sOk s && decide (d.length=2*(aO s.js).length))&& N7 d

def vsg (p:Int) (x:Option Rat):Option Rat:=if p<0 then x.map (- ·) else x
def stI (acc:List (Option Rat)) (p:Int×Int) (x:Option Rat):List (Option Rat):=
 acc.set p.1.toNat (if(acc.getD p.1.toNat none).isSome=true then op2 (· + ·) (acc.getD p.1.toNat none) (vsg p.2 x) else vsg p.2 x)
def stS (acc:List (Option Rat)) (p:Int×Int) (x:Option Rat):List (Option Rat):=
 acc.set p.1.toNat (if 0<p.2 then op2 (· + ·) (acc.getD p.1.toNat none) x else op2 (· - ·) (acc.getD p.1.toNat none) x)
def Td (ms:List Mb) (d:List (Option Rat)) (t:Nat):List (Option Rat):=(List.range t).foldl (fun acc j=>stI acc ((aY ms).getD j (0,0)) (d.getD j none)) (List.replicate ms.length none)
def aQW (ms:List Mb) (d:List (Option Rat)) (t:Nat):List (Option Rat):=(List.range t).foldl (fun acc j=>stS acc ((aY ms).getD j (0,0)) (d.getD j none)) (List.replicate ms.length (some 0))
theorem getD_set_ne {xs:List (Option Rat)} {i k:Nat} (h:i≠k) (x:Option Rat):(xs.set i x).getD k none=xs.getD k none:=by
 rw[List.getD_eq_getElem?_getD,List.getElem?_set_ne h,List.getD_eq_getElem?_getD]
def aLE (ms:List Mb) (A B:List (Option Rat)) (n:Nat):Prop:= ∀k,k<ms.length→(k<n→A.getD k none=B.getD k none)∧(n≤k→A.getD k none=none∧B.getD k none=some 0)

end Go.Proofs.YticmgmemnpcbbaaGreat.Vm

namespace Go.Proofs.YticmgmemnpcbbaaGreat.Vm
open Go Go.Proofs
set_option linter.unusedSimpArgs false
set_option linter.unusedVariables false
def apX (s:Str) (d:List (Option Rat)) (m:Mb):Option Rat:=op2 (· - ·) (dX s.js d m.b.toNat) (dX s.js d m.a.toNat)
def apY (s:Str) (d:List (Option Rat)) (m:Mb):Option Rat:=op2 (· - ·) (dY s.js d m.b.toNat) (dY s.js d m.a.toNat)
def Tx (s:Str) (d:List (Option Rat)) (k:Nat):Option Rat:=op2 (· + ·) (op2 (· * ·) (some (vx s (mat s k):Rat)) (apX s d (mat s k))) (op2 (· * ·) (some (vy s (mat s k):Rat)) (apY s d (mat s k)))
def aGP (s:Str) (k:Int) (d:List RT):Bool:=Rg s d && (decide (0≤k)&& decide (k<s.ms.length))
def aPU (s:Str) (k:Int) (d:List RT):Option Rat:=if aGP s k d=true then Tx s (iQ d) k.toNat else none

def aOT (rs:List RT):Bool:=rs.all fun r=> !decide (r.d= [])
def Ts (a b:List RT):Bool:=(Lj a && Lj b)&& decide (a.length=b.length)
def aO9 (a b:List RT):List (Option Rat):=if Ts a b=true then List.zipWith (op2 (· + ·)) (iQ a) (iQ b) else [none]
def aOQ (r:RT) (q:List RT):List (Option Rat):=if(r.ok∧Lj q=true) then(iQ q).map (op2 (· * ·) (rd r)) else [none]

def atW (s:Str) (i:Nat):Int:=if fxd s.js i=true then -1 else(idx s.js i:Int)

def aN3 (bl:Int→Option Blk) (g6:Int) (p:Int×Int):Prop:=0≤p.1∧0≤p.2∧ ¬ p.1=p.2∧ ¬ p.1=g6∧ ¬ p.2=g6∧bl p.1=none∧bl p.2=none

def Iu (m:Mb) (x:Option Rat):Bool:=(!x.isSome || (decide (m.kind≠2)&& decide (0<sgq x)))|| (decide (m.kind≠1)&& decide (sgq x<0))
def Ul (s:Str) (d:List (Option Rat)):Bool:=(List.range s.ms.length).all fun k=> !Iu (mat s k) (Tx s d k)
def aNC (s:Str) (d:List (Option Rat)) (n:Nat):Prop:= ∀k:Nat,k<n→Iu (mat s k) (Tx s d k)=false
def wkTo (s:Str) (l:List Int) (d:List (Option Rat)):Nat→Option Rat
 | 0 => some 0
 | t + 1 => op2 (· + ·) (op2 (· + ·) (wkTo s l d t) (op2 (· * ·) (some (lN l (2 * ((aO s.js).getD t 0).toNat) : Rat)) (d.getD (2 * t) none))) (op2 (· * ·) (some (lN l (2 * ((aO s.js).getD t 0).toNat + 1) : Rat)) (d.getD (2 * t + 1) none))
def wkW (s:Str) (l:List Int) (d:List (Option Rat)):Option Rat:=wkTo s l d (aO s.js).length
def aQZ (s:Str) (l:List Int) (d:List RT):Bool:=(Rg s d && A6 s.js l)&& (Ul s (iQ d)&& decide (0<sgq (wkW s l (iQ d))))

def aF8 (s:Str) (d:List RT):Bool:=sOk s && (decide (d.length=(aY s.ms).length)&& N7 d)
def aP1 (s:Str) (d:List RT):List (Option Rat):=if aF8 s d=true then Td s.ms (iQ d) (aY s.ms).length else [none]
def aOZ (n:Nat):List RT:=List.replicate n (ro (some 0))

end Go.Proofs.YticmgmemnpcbbaaGreat.Vm

namespace Go.Proofs.YticmgmemnpcbbaaGreat.Vm
open Go Go.Proofs
set_option linter.unusedSimpArgs false
set_option linter.unusedVariables false
def gv (cells:List (List (Option Rat))):List (List V):=cells.map fun r=> [.sl (fvs r)]
def dGr (cells:List (List (Option Rat))):D:= .s 1 (cells.map fun r=> [fl 1 (fvs r)])
def dG (r c:Nat) (cells:List (List (Option Rat))):D:= .a [.c (.int .i64 r),.c (.int .i64 c),dGr cells]
def rowOf (c:Nat) (m:Nat→Nat→Option Rat) (i:Nat):List (Option Rat):=(List.range c).map (m i)
def aNK (r c:Nat) (m:Nat→Nat→Option Rat):List (List (Option Rat)):=(List.range r).map (rowOf c m)
theorem dF (b:Int→Option Blk) (g:Int):Sub (rem b g) b:=fun z y hz=>by
 rw[aF] at hz
 split at hz
 ·cases hz
 ·exact hz

theorem OwnR.append {bl:Int→Option Blk} {sz:Nat} {rs2:List (List D)} {e2:List (List V)} {g2:List Int} (h2:OwnR bl sz rs2 e2 g2): ∀ {rs:List (List D)} {els:List (List V)} {g1:List Int},OwnR bl sz rs els g1→(∀x,x∈g1→x∉g2)→OwnR bl sz (rs++rs2) (els++e2) (g1++g2)
 | [], els, g1, h, hd => by
   rw[OwnR] at h
   obtain⟨rfl,rfl⟩:=h
   exact h2
 | r :: rs, els, g1, h, hd => by
   rw[OwnR] at h
   obtain⟨e,jZ,ga,gb,rfl,rfl,h3,h4,h5,h6,h7⟩:=h
   have ih:=OwnR.append h2 h7 fun x hx=>hd x (List.mem_append_right _ hx)
   show OwnR bl sz (r::(rs++rs2)) (e::(jZ++e2)) (ga++gb++g2)
   rw[OwnR]
   refine⟨e,jZ++e2,ga,gb++g2,rfl,by simp,fun x hx hx2=> ?_,h4,h5,h6,ih⟩
   rcases List.mem_append.1 hx2 with hx2 | hx2
   ·exact h3 x hx hx2
   ·exact hd x (List.mem_append_left _ hx) hx2
structure MX where
 r:Int
 c:Int
 cells:List RT
def MX.c3 (m:MX):List V:= [.int .i64 m.r,.int .i64 m.c,.sl (rv m.cells)]
def dMx (m:MX):List D:= [.c (.int .i64 m.r),.c (.int .i64 m.c),dRs m.cells]
def aCO (cells:List (List (Option Rat))):Bool:=cells.all uY
def aQR (r c:Int) (cells:List (List (Option Rat))):MX:=if aCO cells=true then⟨r,c,(cells.map Cf).flatten⟩ else⟨0,0,[]⟩
def dMB (m:MX) (b:Bool):D:= .t [.a (dMx m),.c (.bool b)]
def aNL (cells:List (List (Option Rat))) (i:Nat):List RT:=((cells.take i).map Cf).flatten

theorem Ii (a b:Rat) (hb:b.num≠0):sg (decide (a.num<0) !=decide (b.num<0)) (a.num.natAbs*b.den)=a.num*(b.num.sign*b.den):=by
 have h1:b.num.sign.natAbs=1:=by rw[Int.natAbs_sign];simp[hb]
 have h2:(b.num.sign*(b.den:Int)).natAbs=b.den:=by rw[Int.natAbs_mul,h1,Nat.one_mul,Int.natAbs_natCast]
 have hd:=b.den_pos
 have h3:decide (b.num.sign*(b.den:Int)<0)=decide (b.num<0):=by
  rw[decide_eq_decide]
  constructor
  ·intro h
   by_cases h4:b.num<0
   ·exact h4
   ·have:b.num.sign=1:=Int.sign_eq_one_of_pos (by omega)
    rw[this] at h;omega
  ·intro h
   rw[Int.sign_eq_neg_one_of_neg h];omega
 have:=tG a.num (b.num.sign*b.den)
 rw[h2,h3] at this
 exact this

theorem kC {bl bl0:Int→Option Blk} {g h:Int} {ns ms:List Int} {b:Bool} (h0:0≤g∨ms= []) (h1:0≤h∨ns= []) (hg:bl0 g=none) (hh:bl0 h=none) (hb:bl g=some ⟨1,iv ms⟩) (hc:bl h=some ⟨1,iv ns⟩):frz (dropB bl bl0) 2 (.agg [.bool b,.lsl g 1 0 ms.length,.lsl h 1 0 ns.length])=some (.agg [.bool b,.sl (iv ms),.sl (iv ns)]):=by
 have e1:=oS h0 hg hb
 have e2:=oS h1 hh hc
 have e3:frz (dropB bl bl0) 1 (.bool b)=some (.bool b):=by simp[frz]
 rw[vD]
 simp only[List.mapM_cons,List.mapM_nil,e1,e2,e3]
 rfl
theorem W1 (r:RT) (hm:r.m.length≤1048576) (hd:r.d.length≤1048576):RO Tryz.prog 203 [.agg r.c] (.agg r.c):=by
 have bO: ∀m:List Int,((iv m).all fun c=>c.length==1 && c.all V.one)=true:=fun m=>by simp[iv]
 refine aJ Tryz.func203 rfl rfl (by rw[Tryz.ntmps203];simp) fun bl=> ?_
 rw[Tryz.ntmps203,Tryz.results203]
 refine aD ?_
 simp[RT.c]
 intro g1 hg1 hb1 g2 hg2 h21 hb2
 refine cE 1 1 (.ptr r.c) (upd bl g2 (some ⟨3,[[.bool false,.nils,.nils]]⟩)) (by intro z b hz;simp only[aA,RT.c] at hz ⊢;grind) (by simp[frz,dropB,hb1,h21,Ne.symm h21,RT.c,V.cl]) ?_
 refine aC ?_
 simp
 have F:=trivial
 refine bA aN bl (by simp[hb2]) [0,1,2,4,5,6,10,11] 7 (by kernel_rfl) ?_
 simp[RT.c]
 refine iH (i:=3) (j:=9) (by kernel_rfl) rfl rfl rfl rfl ?_ ?_
 ·simp[]
  intro g3 hg3
  intros
  have Sq: ¬ g3=g2:=by first | assumption | grind
  have F:=ad F Sq
  have b3:bl g3=none:=by first | assumption | grind
  refine⟨by intro z b hz;simp only[aA,aF] at hz ⊢;grind,?_⟩
  refine iH (i:=7) (j:=9) (by kernel_rfl) rfl rfl rfl rfl ?_ ?_
  ·simp[F,appV,elsV,Int.not_lt.2 hg3,bO]
   refine⟨by omega,fun g7 hg7 hb7=> ?_⟩
   have Lf: ¬ g7=g2:=by grind
   have F:=ad F Lf
   have b7:bl g7=none:=by grind
   have z7:0≤g7∨r.m= []:=hg7.imp id (fun h=>by simpa [iv] using h)
   refine⟨by intro z b hz;simp only[aA,aF] at hz ⊢;grind,?_⟩
   refine iH (i:=8) (j:=9) (by kernel_rfl) rfl rfl rfl rfl ?_ ?_
   ·simp[F]
    refine⟨by intro z b hz;simp only[aA,aF] at hz ⊢;grind,?_⟩
    refine Dz 9 ?_
    simp[F]
    intro g9 hg9
    intros
    have Ai: ¬ g9=g2:=by first | assumption | grind
    have Tc: ¬ g9=g7:=by first | assumption | grind
    have F:=ad (ad F Ai) Tc
    have b9:bl g9=none:=by first | assumption | grind
    refine⟨by intro z b hz;simp only[aA,aF] at hz ⊢;grind,?_⟩
    refine Dz 12 ?_
    simp[F,appV,elsV,Int.not_lt.2 hg9,bO]
    refine⟨by omega,fun g12 rM mD=> ?_⟩
    have lZ: ¬ g12=g2:=by grind
    have lU: ¬ g12=g7:=by grind
    have F:=ad (ad F lZ) lU
    have b12:bl g12=none:=by grind
    have z12:0≤g12∨r.d= []:=rM.imp id (fun h=>by simpa [iv] using h)
    refine⟨by intro z b hz;simp only[aA,aF] at hz ⊢;grind,?_⟩
    refine Dz 13 ?_
    simp[F]
    refine⟨by intro z b hz;simp only[aA,aF] at hz ⊢;grind,?_⟩
    refine Dz 14 ?_
    simp[F]
    refine⟨by intro z b hz;simp only[aA,aF] at hz ⊢;grind,?_⟩
    refine Dy ?_
    simp[F]
    refine aK [.agg [.bool r.neg,.lsl g7 1 0 r.m.length,.lsl g12 1 0 r.d.length]] 2 (by simp[F]) (kC z7 z12 b7 b12 ?_ ?_) ?_
    ·simp[F]
    ·simp[F]
    ·intro z b hz;simp only[aA,aF] at hz ⊢;grind
   ·simp[F]
    intro g9 hg9
    intros
    have Ai: ¬ g9=g2:=by first | assumption | grind
    have Tc: ¬ g9=g7:=by first | assumption | grind
    have F:=ad (ad F Ai) Tc
    have b9:bl g9=none:=by first | assumption | grind
    refine⟨by intro z b hz;simp only[aA,aF] at hz ⊢;grind,?_⟩
    refine iH (i:=8) (j:=12) (by kernel_rfl) rfl rfl rfl rfl ?_ ?_
    ·simp[F]
     refine⟨by intro z b hz;simp only[aA,aF] at hz ⊢;grind,?_⟩
     refine Dz 12 ?_
     simp[F,appV,elsV,Int.not_lt.2 hg9,bO]
     refine⟨by omega,fun g12 rM mD=> ?_⟩
     have lZ: ¬ g12=g2:=by grind
     have lU: ¬ g12=g7:=by grind
     have F:=ad (ad F lZ) lU
     have b12:bl g12=none:=by grind
     have z12:0≤g12∨r.d= []:=rM.imp id (fun h=>by simpa [iv] using h)
     refine⟨by intro z b hz;simp only[aA,aF] at hz ⊢;grind,?_⟩
     refine Dz 13 ?_
     simp[F]
     refine⟨by intro z b hz;simp only[aA,aF] at hz ⊢;grind,?_⟩
     refine Dz 14 ?_
     simp[F]
     refine⟨by intro z b hz;simp only[aA,aF] at hz ⊢;grind,?_⟩
     refine Dy ?_
     simp[F]
     refine aK [.agg [.bool r.neg,.lsl g7 1 0 r.m.length,.lsl g12 1 0 r.d.length]] 2 (by simp[F]) (kC z7 z12 b7 b12 ?_ ?_) ?_
     ·simp[F]
     ·simp[F]
     ·intro z b hz;simp only[aA,aF] at hz ⊢;grind
    ·simp[F,appV,elsV,Int.not_lt.2 hg9,bO]
     refine⟨by omega,fun g12 rM mD=> ?_⟩
     have lZ: ¬ g12=g2:=by grind
     have lU: ¬ g12=g7:=by grind
     have F:=ad (ad F lZ) lU
     have b12:bl g12=none:=by grind
     have z12:0≤g12∨r.d= []:=rM.imp id (fun h=>by simpa [iv] using h)
     refine⟨by intro z b hz;simp only[aA,aF] at hz ⊢;grind,?_⟩
     refine Dz 8 ?_
     simp[F]
     refine⟨by intro z b hz;simp only[aA,aF] at hz ⊢;grind,?_⟩
     refine Dz 13 ?_
     simp[F]
     refine⟨by intro z b hz;simp only[aA,aF] at hz ⊢;grind,?_⟩
     refine Dz 14 ?_
     simp[F]
     refine⟨by intro z b hz;simp only[aA,aF] at hz ⊢;grind,?_⟩
     refine Dy ?_
     simp[F]
     refine aK [.agg [.bool r.neg,.lsl g7 1 0 r.m.length,.lsl g12 1 0 r.d.length]] 2 (by simp[F]) (kC z7 z12 b7 b12 ?_ ?_) ?_
     ·simp[F]
     ·simp[F]
     ·intro z b hz;simp only[aA,aF] at hz ⊢;grind
  ·simp[F]
   intro g9 hg9
   intros
   have Ai: ¬ g9=g2:=by first | assumption | grind
   have aOD: ¬ g9=g3:=by first | assumption | grind
   have F:=ad (ad F Ai) aOD
   have b9:bl g9=none:=by first | assumption | grind
   refine⟨by intro z b hz;simp only[aA,aF] at hz ⊢;grind,?_⟩
   refine Dz 7 ?_
   simp[F,appV,elsV,Int.not_lt.2 hg3,bO]
   refine⟨by omega,fun g7 hg7 hb7=> ?_⟩
   have Lf: ¬ g7=g2:=by grind
   have Tb: ¬ g7=g9:=by grind
   have F:=ad (ad F Lf) Tb
   have b7:bl g7=none:=by grind
   have z7:0≤g7∨r.m= []:=hg7.imp id (fun h=>by simpa [iv] using h)
   refine⟨by intro z b hz;simp only[aA,aF] at hz ⊢;grind,?_⟩
   refine iH (i:=8) (j:=12) (by kernel_rfl) rfl rfl rfl rfl ?_ ?_
   ·simp[F]
    refine⟨by intro z b hz;simp only[aA,aF] at hz ⊢;grind,?_⟩
    refine Dz 12 ?_
    simp[F,appV,elsV,Int.not_lt.2 hg9,bO]
    refine⟨by omega,fun g12 rM mD=> ?_⟩
    have lZ: ¬ g12=g2:=by grind
    have lU: ¬ g12=g7:=by grind
    have F:=ad (ad F lZ) lU
    have b12:bl g12=none:=by grind
    have z12:0≤g12∨r.d= []:=rM.imp id (fun h=>by simpa [iv] using h)
    refine⟨by intro z b hz;simp only[aA,aF] at hz ⊢;grind,?_⟩
    refine Dz 13 ?_
    simp[F]
    refine⟨by intro z b hz;simp only[aA,aF] at hz ⊢;grind,?_⟩
    refine Dz 14 ?_
    simp[F]
    refine⟨by intro z b hz;simp only[aA,aF] at hz ⊢;grind,?_⟩
    refine Dy ?_
    simp[F]
    refine aK [.agg [.bool r.neg,.lsl g7 1 0 r.m.length,.lsl g12 1 0 r.d.length]] 2 (by simp[F]) (kC z7 z12 b7 b12 ?_ ?_) ?_
    ·simp[F]
    ·simp[F]
    ·intro z b hz;simp only[aA,aF] at hz ⊢;grind
   ·simp[F,appV,elsV,Int.not_lt.2 hg9,bO]
    refine⟨by omega,fun g12 rM mD=> ?_⟩
    have lZ: ¬ g12=g2:=by grind
    have lU: ¬ g12=g7:=by grind
    have F:=ad (ad F lZ) lU
    have b12:bl g12=none:=by grind
    have z12:0≤g12∨r.d= []:=rM.imp id (fun h=>by simpa [iv] using h)
    refine⟨by intro z b hz;simp only[aA,aF] at hz ⊢;grind,?_⟩
    refine Dz 8 ?_
    simp[F]
    refine⟨by intro z b hz;simp only[aA,aF] at hz ⊢;grind,?_⟩
    refine Dz 13 ?_
    simp[F]
    refine⟨by intro z b hz;simp only[aA,aF] at hz ⊢;grind,?_⟩
    refine Dz 14 ?_
    simp[F]
    refine⟨by intro z b hz;simp only[aA,aF] at hz ⊢;grind,?_⟩
    refine Dy ?_
    simp[F]
    refine aK [.agg [.bool r.neg,.lsl g7 1 0 r.m.length,.lsl g12 1 0 r.d.length]] 2 (by simp[F]) (kC z7 z12 b7 b12 ?_ ?_) ?_
    ·simp[F]
    ·simp[F]
    ·intro z b hz;simp only[aA,aF] at hz ⊢;grind
 ·simp[]
  intro g9 hg9
  intros
  have Ai: ¬ g9=g2:=by first | assumption | grind
  have F:=ad F Ai
  have b9:bl g9=none:=by first | assumption | grind
  refine⟨by intro z b hz;simp only[aA,aF] at hz ⊢;grind,?_⟩
  refine Dz 3 ?_
  simp[F]
  intro g3 hg3
  intros
  have Sq: ¬ g3=g2:=by first | assumption | grind
  have aMX: ¬ g3=g9:=by first | assumption | grind
  have F:=ad (ad F Sq) aMX
  have b3:bl g3=none:=by first | assumption | grind
  refine⟨by intro z b hz;simp only[aA,aF] at hz ⊢;grind,?_⟩
  refine Dz 7 ?_
  simp[F,appV,elsV,Int.not_lt.2 hg3,bO]
  refine⟨by omega,fun g7 hg7 hb7=> ?_⟩
  have Lf: ¬ g7=g2:=by grind
  have Tb: ¬ g7=g9:=by grind
  have F:=ad (ad F Lf) Tb
  have b7:bl g7=none:=by grind
  have z7:0≤g7∨r.m= []:=hg7.imp id (fun h=>by simpa [iv] using h)
  refine⟨by intro z b hz;simp only[aA,aF] at hz ⊢;grind,?_⟩
  refine iH (i:=8) (j:=12) (by kernel_rfl) rfl rfl rfl rfl ?_ ?_
  ·simp[F]
   refine⟨by intro z b hz;simp only[aA,aF] at hz ⊢;grind,?_⟩
   refine Dz 12 ?_
   simp[F,appV,elsV,Int.not_lt.2 hg9,bO]
   refine⟨by omega,fun g12 rM mD=> ?_⟩
   have lZ: ¬ g12=g2:=by grind
   have lU: ¬ g12=g7:=by grind
   have F:=ad (ad F lZ) lU
   have b12:bl g12=none:=by grind
   have z12:0≤g12∨r.d= []:=rM.imp id (fun h=>by simpa [iv] using h)
   refine⟨by intro z b hz;simp only[aA,aF] at hz ⊢;grind,?_⟩
   refine Dz 13 ?_
   simp[F]
   refine⟨by intro z b hz;simp only[aA,aF] at hz ⊢;grind,?_⟩
   refine Dz 14 ?_
   simp[F]
   refine⟨by intro z b hz;simp only[aA,aF] at hz ⊢;grind,?_⟩
   refine Dy ?_
   simp[F]
   refine aK [.agg [.bool r.neg,.lsl g7 1 0 r.m.length,.lsl g12 1 0 r.d.length]] 2 (by simp[F]) (kC z7 z12 b7 b12 ?_ ?_) ?_
   ·simp[F]
   ·simp[F]
   ·intro z b hz;simp only[aA,aF] at hz ⊢;grind
  ·simp[F,appV,elsV,Int.not_lt.2 hg9,bO]
   refine⟨by omega,fun g12 rM mD=> ?_⟩
   have lZ: ¬ g12=g2:=by grind
   have lU: ¬ g12=g7:=by grind
   have F:=ad (ad F lZ) lU
   have b12:bl g12=none:=by grind
   have z12:0≤g12∨r.d= []:=rM.imp id (fun h=>by simpa [iv] using h)
   refine⟨by intro z b hz;simp only[aA,aF] at hz ⊢;grind,?_⟩
   refine Dz 8 ?_
   simp[F]
   refine⟨by intro z b hz;simp only[aA,aF] at hz ⊢;grind,?_⟩
   refine Dz 13 ?_
   simp[F]
   refine⟨by intro z b hz;simp only[aA,aF] at hz ⊢;grind,?_⟩
   refine Dz 14 ?_
   simp[F]
   refine⟨by intro z b hz;simp only[aA,aF] at hz ⊢;grind,?_⟩
   refine Dy ?_
   simp[F]
   refine aK [.agg [.bool r.neg,.lsl g7 1 0 r.m.length,.lsl g12 1 0 r.d.length]] 2 (by simp[F]) (kC z7 z12 b7 b12 ?_ ?_) ?_
   ·simp[F]
   ·simp[F]
   ·intro z b hz;simp only[aA,aF] at hz ⊢;grind

def aNY (row:List Int):List (Option Rat):=row.map fun(n:Int)=>some (n:Rat)
def aOS (rows:List (List Int)):List (List (Option Rat)):=rows.map aNY
def Vy (l:List Int):List RT:=l.map fun(n:Int)=>ro (some (n:Rat))
def small (rows:List (List Int)):Prop:= ∀w,w∈rows→ ∀n,n∈w→ -100≤n∧n≤100
def aQP (s:Str):MX:=if sOk s=true then⟨(cA s).length,s.ms.length,Vy (fM s)⟩ else⟨0,0,[]⟩

def r6 (n:Int):Rat:=mkRat n 6
def q6 (n:Int):Option Rat:=some (r6 n)
def dotTo (a u:List Int):Nat→Int
 | 0 => 0
 | n + 1 => dotTo a u n + lN a n * lN u n
def aFH (a b:List (Option Rat)):Nat→Option Rat
 | 0 => some 0
 | n + 1 => op2 (· + ·) (aFH a b n) (op2 (· * ·) (a.getD n none) (b.getD n none))

theorem Ck (p:Pg):(dPg p).dep 2:=by simp[dPg,D.dep,D.depL,mX]
theorem Ip (p:Pg):(dPg p).fz= .agg p.v:=by simp[dPg,D.fz,D.fzL,Pg.v]

def bv (bs:List Int):List (List V):=bs.map fun b=> [.int .u8 b]
def cur (bs:List Int) (i h:Int):Blk:=⟨3,[[.sl (bv bs),.int .i64 i,.int .i64 h]]⟩
def lo8 (a:Int):Int:=IntKind.i64.wrap ((BitVec.ofInt 64 a &&& BitVec.ofInt 64 255).toNat)
@[simp high] theorem aHV (P : Program) (t : TypeId) (a : Int) : binV P .and t (.int .i64 a) (.int .i64 255) = some (.int .i64 (lo8 a)) := rfl
def aIF (a:Int) (n:Nat):Int:=a.fdiv (2^n)
def aLM (a b:Int):Int:=IntKind.i64.wrap ((BitVec.ofInt 64 a^^^BitVec.ofInt 64 b).toNat)
@[simp high] theorem aJ1 (P : Program) (t : TypeId) (a : Int) : binV P .shr t (.int .i64 a) (.int .u64 33) = some (.int .i64 (aIF a 33)) := rfl
@[simp high] theorem aKZ (P : Program) (t : TypeId) (a : Int) : binV P .shr t (.int .i64 a) (.int .u64 45) = some (.int .i64 (aIF a 45)) := rfl
@[simp high] theorem Yw (P : Program) (t : TypeId) (a b : Int) : binV P .xor t (.int .i64 a) (.int .i64 b) = some (.int .i64 (aLM a b)) := rfl
structure aHL (bs : List Int) (i : Int) : Prop where
 n:bs.length≤1048576
 b: ∀x,x∈bs→0≤x∧x<256
 i0:0≤i
 i1:i≤bs.length

def msk (a b:Int):Int:=IntKind.i64.wrap ((BitVec.ofInt 64 a &&& BitVec.ofInt 64 b).toNat)

structure LD where
 k:Nat
 ns:List Int
 i:Int
 h:Int

def aQJ (bl:Int→Option Blk) (K:V→(Int→Option Blk)→Prop) (bs:List Int) (g:Int):Prop:=
 ∀(s:Str) (i' h':Int) bl',sOk s=true→3≤s.js.length→aHL bs i'→bl' g=some (cur bs i' h')→(∀x y,x≠g→bl x=some y→bl' x=some y)→K (.agg s.c) bl'
def nmA :ByteArray:= { data:= #[97] }
def nmB :ByteArray:= { data:= #[98] }
def nmC :ByteArray:= { data:= #[99] }
def nmD :ByteArray:= { data:= #[100] }
def js3 (x1 x2 x3 x4 x5 x6:Int):List J:= [⟨nmA, -1 - x1,x2,true⟩,⟨nmB,3+x3,x4,true⟩,⟨nmC,x5 - 1, -1 - x6,false⟩]
def ms2 (x7:Int):List Mb:= [⟨0,2,1⟩,⟨1,2,x7⟩]
def js4 (x1 x2 x3 x4 x5 x6 x8:Int):List J:=js3 x1 x2 x3 x4 x5 x6++ [⟨nmD,x8 - 1, -7,true⟩]
def ms3 (x7 x9:Int):List Mb:=ms2 x7++ [⟨3,2,x9⟩]

def tj (x1 x2 x3 x4 x5 x6:Int):List J:= [⟨nmA, -2,x1,true⟩,⟨nmB,6,x2,true⟩,⟨nmC,x3, -1 - x4,false⟩,⟨nmD,3+x5, -1 - x6,false⟩]
structure TD where
 n:Nat
 ms:List Mb
 g:Int
 i:Int
 h:Int
def aO4 (m:Mb):Prop:=(m.a=0∨m.a=1∨m.a=2∨m.a=3)∧(m.b=1∨m.b=2∨m.b=3)∧(1≤m.kind∧m.kind≤3)∧((m.a≤1∧2≤m.b)∨(m.a=2∧m.b=3)∨(m.a=3∧m.b=1))

end Go.Proofs.YticmgmemnpcbbaaGreat.Vm

namespace Go.Proofs.YticmgmemnpcbbaaGreat.Vm
open Go Go.Proofs
set_option linter.unusedSimpArgs false
set_option linter.unusedVariables false
structure MD where
 us:List Int
 g:Int
 i:Int
 h:Int
 b:Int→Option Blk
def rq6 (us:List Int):List RT:=us.map fun u=>ro (q6 u)

def MX.fit (m:MX):Prop:=aH6 m.cells 1048576∧aOC m.cells≤100000000
def aQ2 (k:Nat) (m:MX):MX:=⟨m.r,m.c,mkQs k m.cells⟩

def aP7 (cells:List (List (Option Rat))) (v:List (Option Rat)):List (Option Rat):=cells.map fun row=>aFH row v row.length

def aBY (s:Str) (l:List Int) (j x y:Int):Bool:=lOk s l && (decide (0≤j)&& decide (j<s.js.length))&& (decide (-200≤x)&& decide (x≤200))&& (decide (-200≤y)&& decide (y≤200))&&
 G6 (lat l (2*j.toNat)+x)&& G6 (lat l (2*j.toNat+1)+y)
def aN2 (l:List Int) (j x:Int):List Int:=l.set (2*j.toNat) (lat l (2*j.toNat)+x)
def aLX (l:List Int) (j x y:Int):List Int:=(aN2 l j x).set (2*j.toNat+1) (lat l (2*j.toNat+1)+y)
def aQB (s:Str) (l:List Int) (j x y:Int):List Int:=if aBY s l j x y=true then aLX l j x y else []
def aPO (ns:List Int) (b:Bool):D:= .t [fl 1 (iv ns),.c (.bool b)]

end Go.Proofs.YticmgmemnpcbbaaGreat.Vm

namespace Go.Proofs.YticmgmemnpcbbaaGreat.Vm
open Go Go.Proofs
set_option linter.unusedSimpArgs false
set_option linter.unusedVariables false

def szW :List (List Int)→Int→Int
 | [], left => left
 | w :: ws, left => if less left w.length < 0 then -1 else szW ws (less left w.length)
def aQL (ws:List (List Int)) (left:Int):Int:=if less left ws.length<0 then -1 else szW ws (less left ws.length)
def aO5 (ws:List (List Int)) (i:Nat):Nat:=(ws.take i).flatten.length
def aOE (bl:Int→Option Blk) (n:Nat) (v:V) (gs:List Int):Prop:= ∃rows els,rows.length=n∧((rows= []∧v= .nils∧gs= [])∨ ∃g gs',v= .lsl g 1 0 n∧gs=g::gs'∧g∉gs'∧bl g=some ⟨1,els⟩∧(g<0→els= [])∧OwnR bl 1 rows els gs')
structure St2 where
 i:Nat
 b:Int→Option Blk
structure aPG (ws : List (List Int)) : Prop where
 n:ws.length≤140737488351232
 w: ∀w,w∈ws→w.length≤140737488351232

def mixC (ws:List (List Int)) (wt:List Int) (i:Nat):Nat→Int
 | 0 => 0
 | c + 1 => mixC ws wt i c + lat wt c * lat (ws.getD c []) i
def aCX (m:Nat) (ws:List (List Int)) (wt:List Int) (c:Nat):List Int:=(List.range m).map fun i=>mixC ws wt i c
def cOk (s:Str) (ws:List (List Int)) (wt:List Int) (c:Nat):Bool:=A6 s.js (ws.getD c [])&& (decide (0≤lat wt c)&& decide (lat wt c≤100))
def aF6 (s:Str) (ws:List (List Int)) (wt:List Int):Bool:=decide (ws.length=wt.length)&& decide (ws.length≤10)&& sOk s && decide (∀c,c<ws.length→cOk s ws wt c=true)&& A6 s.js (aCX (2*s.js.length) ws wt ws.length)
def aPI (s:Str) (ws:List (List Int)) (wt:List Int):List Int:=if aF6 s ws wt=true then aCX (2*s.js.length) ws wt ws.length else []

end Go.Proofs.YticmgmemnpcbbaaGreat.Vm

namespace Go.Proofs.YticmgmemnpcbbaaGreat.Vm
open Go Go.Proofs
set_option linter.unusedSimpArgs false
set_option linter.unusedVariables false

def aMK (P:Program) (ops:Array Oper) (blK:Int→Option Blk) (last:List Nat) (K:St→Prop):List (List Nat×Nat)→St→Prop
 | [] => HoistF P (ops.toList.map (·.dst)) blK (last.filterMap fun i => ops[i]?) K
 | (is, i) :: r => HoistF P (ops.toList.map (·.dst)) blK (is.filterMap fun i => ops[i]?) (HStep P ops blK i (aMK P ops blK last K r))
def hIdx (last:List Nat):List (List Nat×Nat)→List Nat
 | [] => last
 | (is, i) :: r => is ++ i :: hIdx last r

def aQQ (s:Str) (us:List Int):List Int:=(cA s).map fun w=>dotTo w us s.ms.length

def dMf (m:MX):List D:= [.c (.int .i64 m.r),.c (.int .i64 m.c),fl 3 (rv m.cells)]

structure MOk (m : MX) (r c : Nat) : Prop where
 hr:m.r=r
 hc:m.c=c
 r24:r≤24
 c24:c≤24
 len:m.cells.length=r*c
 ok:N7 m.cells=true
 fq:aH6 m.cells 1048576
def trC (cells:List RT) (r c k:Nat) (i:Nat):List RT:=(List.range i).map fun i=>cells.getD (i*c+k) rz
def aMV (cells:List RT) (r c k i:Nat):List RT:=((List.range k).flatMap fun k=>trC cells r c k r)++trC cells r c k i
def trM (m:MX) (r c:Nat):MX:=⟨c,r,aMV m.cells r c c 0⟩

abbrev MF :=Nat→Nat→Option Rat
def aPS (M:MF) (i j:Nat) (v:Option Rat):MF:=fun a b=>if a=i∧b=j then v else M a b
def aBB (r c:Nat) (M:MF):List RT:=(List.range (r*c)).map fun t=>ro (M (t / c) (t % c))
def M6 (M:MF) (i n:Nat):MF:=fun a b=>if a=i then M n b else if a=n then M i b else M a b
def aMI (M:MF) (n:Nat) (p:Option Rat):MF:=fun a b=>if a=n then op2 (· / ·) (M a b) p else M a b
def aFL (M:MF) (n k:Nat):MF:=fun a b=>if a=n∨nm (M a k)=0 then M a b else op2 (· - ·) (M a b) (op2 (· * ·) (M a k) (M n b))
def Pw (M:MF) (n k i:Nat):MF:=aFL (aMI (M6 M i n) n (M6 M i n n k)) n k
def Bx (M:MF) (r k:Nat) (n:Nat):Nat:=if n<r then if nm (M n k)=0 then Bx M r k (n+1) else n else r
termination_by r - n
def okM (r c:Nat) (M:MF):Bool:=(List.range r).all fun i=>(List.range c).all fun j=>(M i j).isSome
structure RS where
 M:MF
 P:List Nat
def Oq (r c k:Nat) (s:RS):Option RS:=
 if s.P.length<r then
  if Bx s.M r k s.P.length=r then some s
  else if okM r c (Pw s.M s.P.length k (Bx s.M r k s.P.length))=true then some ⟨Pw s.M s.P.length k (Bx s.M r k s.P.length),s.P++ [k]⟩ else none
 else some s
def redTo (r c:Nat) (M:MF):Nat→Option RS
 | 0 => some ⟨M, []⟩
 | k + 1 => (redTo r c M k).bind (Oq r c k)
structure RI (r c k : Nat) (s : RS) : Prop where
 le:s.P.length≤r
 ok:okM r c s.M=true
 fit: ∀i j,okQ (s.M i j)
 zero: ∀i j,s.P.length≤i→i<r→j<k→j<c→s.M i j=some 0
 piv: ∀n (h:n<s.P.length),s.P[n]<k
 inc: ∀m n (hm:m<n) (hn:n<s.P.length),s.P[m]<s.P[n]
def Zs (r c n k:Nat) (M:MF):Prop:= ∀i j,n≤i→i<r→j<k→j<c→M i j=some 0
def aND (M:MF) (n k:Nat) (p:Option Rat):MF:=fun a b=>if a=n∧k≤b then op2 (· / ·) (M a b) p else M a b
def Wq (M:MF) (n k:Nat):MF:=fun a b=>if a=n∨nm (M a k)=0∨b<k∨nm (M n b)=0 then M a b else op2 (· - ·) (M a b) (op2 (· * ·) (M a k) (M n b))
def aOY (M:MF) (n k i:Nat):MF:=Wq (aND (M6 M i n) n k (M6 M i n n k)) n k

def aPL (M:MF) (n k i:Nat):MF:=fun a b=>if a<i then Wq M n k a b else M a b
def aPW (M:MF) (n k i j:Nat):MF:=fun a b=>if a<i∨a=i∧b<j then Wq M n k a b else M a b

def pz (P:List Nat):List Int:=P.map fun(m:Nat)=>(m:Int)
def aPM (M:MF) (i n j:Nat):MF:=fun a b=>if b<j then M6 M i n a b else M a b
def aP6 (M:MF) (n k j:Nat) (p:Option Rat):MF:=fun a b=>if a=n∧k≤b∧b<j then op2 (· / ·) (M a b) p else M a b
inductive Ij (r c : Nat) (M : MF) : MF → List Nat → Prop
 | good (s : RS) (h : redTo r c M c = some s) (P : List Nat) (e : P = s.P) : Ij r c M s.M P
 | bad (X : MF) (P : List Nat) (h : redTo r c M c = none) (ho : okM r c X = false) : Ij r c M X P
structure LR where
 k:Nat
 s:RS
 gp:Int
 gf:Int
 fs:List RT

def aP2 (cells:List RT) (c:Nat):MF:=fun i j=>rd (cells.getD (i*c+j) rz)
def aQF (r c:Nat) (M:MF):V:=match redTo r c M c with
 | some s => .tup [.agg [.int .i64 r, .int .i64 c, .sl (rv (aBB r c s.M))], .sl (iv (pz s.P)), .bool true]
 | none => .tup [.agg [.int .i64 0, .int .i64 0, .sl []], .sl [], .bool false]

def ix :List Nat→Nat→Option Nat
 | [], _ => none
 | p :: ps, j => if p = j then some 0 else (ix ps j).map (· + 1)
def Sr (M:MF) (P:List Nat) (k j:Nat):Option Rat:=match ix P j with
 | some i => (M i k).map (- ·)
 | none => if j = k then some 1 else some 0
def aE4 (M:MF) (P:List Nat) (c k:Nat):List (Option Rat):=(List.range c).map (Sr M P k)
def Tn (P:List Nat) (n:Nat):List Nat:=(List.range n).filter fun k=>(ix P k).isNone
def Nk (M:MF) (P:List Nat) (c n:Nat):List (List (Option Rat)):=(Tn P n).map (aE4 M P c)

def rvv (ls:List (List RT)):List (List V):=ls.map fun w=> [.sl (rv w)]
def aQG (r c:Nat) (M:MF):List (List RT)×Bool:=match redTo r c M c with
 | some s => ((Nk s.M s.P c c).map Cf, true)
 | none => ([], false)
def aPX (x:List (List RT)×Bool):V:= .tup [.sl (rvv x.1),.bool x.2]
structure NG where
 k:Nat
 g:Int
end Go.Proofs.YticmgmemnpcbbaaGreat.Vm

namespace Go.Proofs.YticmgmemnpcbbaaGreat.Vm
open Go Go.RowKit Go.Proofs
set_option linter.unusedSimpArgs false
set_option linter.unusedVariables false
theorem kQ {α:Type} {l:Array α} {i j:Nat} {x:α} (d:α) (h:i≠j):(l.setIfInBounds i x).getD j d=l.getD j d:=by simp[Array.getD_eq_getD_getElem?,Array.getElem?_setIfInBounds_ne h]
def pureOp :Op→Bool
 | .move _ | .nilCheck _ | .fieldAddr .. | .indexAddr .. => true
 | _ => false
theorem SV.pure {P:Program} {blK:Int→Option Blk} {o:Oper} {σ:St} {v:V} (hp:pureOp o.op=true) (h:SV P blK o σ v):SV P (fun _=>none) o σ v:=by
 rcases h with ⟨hq,hT⟩| ⟨c,f,p,n,ys,ho,hc,hp2,hro⟩
 ·refine .inl ⟨hq,?_⟩
  have fin: ∀ {v':V},(σ.fZ blK).put o.dst v'=(σ.fZ blK).put o.dst v→(σ.fZ fun _=>none).put o.dst v'=(σ.fZ fun _=>none).put o.dst v:=by
   intro v' h
   cases hd:o.dst with
   | none => rfl
   | some d =>
     rw[hd] at h
     have h2:upd σ.sl d v'=upd σ.sl d v:=congrArg St.sl h
     show({ n:=σ.n,sl:=upd σ.sl d v',bl:=fun _=>none } :St)= { n:=σ.n,sl:=upd σ.sl d v,bl:=fun _=>none }
     rw[h2]
  unfold Vm.T at hT ⊢
  cases ho:o.op<;>rw[ho] at hT hp<;>simp only[fF] at hT ⊢ <;>try (simp[pureOp] at hp;done)
  case move x=>exact fin hT
  case nilCheck x=>obtain⟨u,h1,h2⟩:=hT;exact⟨u,h1,fin h2⟩
  case fieldAddr=>obtain⟨u,h1,h2⟩:=hT;exact⟨u,h1,fin h2⟩
  case indexAddr=>obtain⟨u,h1,h2⟩:=hT;exact⟨u,h1,fin h2⟩
 ·rw[ho] at hp;simp[pureOp] at hp
theorem DY.pure {P:Program} {ops:Array Oper} {blK:Int→Option Blk} {o:Oper} {σ:St} {v:V} (hp:pureOp o.op=true) (h:DY P ops blK o σ v):DY P ops (fun _=>none) o σ v:=by
 unfold DY at h ⊢
 split
 ·rename_i hg;simp only[hg] at h;exact h.pure hp
 ·rename_i j b hg
  simp only[hg] at h
  split
  ·rename_i d hd
   simp only[hd] at h
   rcases iJ h with ⟨q,hq,h1,h2⟩| ⟨hq,h1⟩
   ·rw[hq];exact⟨fun hh=>(h1 hh).pure hp,h2⟩
   ·rw[hq];exact h1
  ·rename_i hd;simp only[hd] at h
section
variable {P : Program} {ops : Array Oper}
theorem Dj {blK:Int→Option Blk} {tl:Nat→Bool} {K:St→Prop} {i:Nat} {oi:Oper} {v:V} (hi:ops[i]? =some oi) (hti:tl i=false): ∀(fuel:Nat) (l:Array Bool) (σ:St),
  (∀j oj,ops[j]? =some oj→j≠i→l.getD j true=false→(∀e∈oj.after,Region.binds .any e=true→e.on≠i)→oi.apart ops oj=true)→(late tl l i=false→Sub blK σ.bl)→
  i∈Region.ready .any ops l→DY P ops (fun _=>none) oi σ v→DL P ops blK tl K fuel (l.setIfInBounds i true) (σ.put oi.dst v)→DL P ops blK tl K (fuel+1) l σ:=by
 have hbl: ∀(σ:St),(σ.put oi.dst v).bl=σ.bl:=fun σ=>by cases oi.dst<;>rfl
 have C5: ∀(σ:St),Sub (fun _=>none) σ.bl:=fun σ g b h=>by cases h
 intro fuel
 induction fuel with
 | zero =>
   intro l σ _ hS hr hy H
   refine⟨fun h=>(by rw[h] at hr;cases hr),fun j hj=> ?_⟩
   by_cases hji:j=i
   ·subst hji;exact hy.step hi (C5 σ) ⟨fun h=>by rw[hbl];exact hS h,H⟩
   ·have:=ready_mono hj hji
    rw[H.1] at this
    cases this
 | succ fuel ih =>
   intro l σ tN hS hr hy H
   refine⟨fun h=>(by rw[h] at hr;cases hr),fun j hj=> ?_⟩
   by_cases hji:j=i
   ·subst hji;exact hy.step hi (C5 σ) ⟨fun h=>by rw[hbl];exact hS h,H⟩
   ·have h1:=H.2 j (ready_mono hj hji)
    obtain⟨J2,oj,hoj,bO⟩:=mem_ready.1 hj
    have V6: ∀e∈oj.after,Region.binds .any e=true→e.on≠i:=fun e he hb heq=>by
     have h1:=bO e he hb
     have h0:=(mem_ready.1 hr).1
     rw[heq] at h1
     rcases Nat.lt_or_ge i l.size with h' | h'
     ·simp[h'] at h0 h1;rw[h0] at h1;cases h1
     ·simp[Array.getElem?_eq_none h'] at h1
    have h2:=DY.put hoj (tN j oj hoj hji J2 V6) hy h1
    have wM: ∀k ok,ops[k]? =some ok→k≠i→(l.setIfInBounds j true).getD k true=false→
      (∀e∈ok.after,Region.binds .any e=true→e.on≠i)→oi.apart ops ok=true:=fun k ok hk hki hun hno=>by
     refine tN k ok hk hki ?_ hno
     by_cases hjk:j=k
     ·subst hjk;exact J2
     ·rw[kQ true hjk] at hun;exact hun
    refine E7 h2 fun σ' ⟨h3,h4,h5⟩=> ?_
    have Nc:(σ'.put oi.dst v).bl=σ'.bl:=hbl σ'
    have hS':late tl (l.setIfInBounds j true) i=false→Sub blK σ'.bl:=fun hl=>by
     rw[←Nc]
     refine h4 ?_
     unfold late at hl ⊢
     rw[Bool.or_eq_false_iff,List.any_eq_false] at hl ⊢
     have hjs:j<l.size:=by
      rcases Nat.lt_or_ge j l.size with h' | h'
      ·exact h'
      ·simp[Array.getD_eq_getD_getElem?,Array.getElem?_eq_none h'] at J2
     have htj:tl j=false:=by
      have:=hl.2 j (by simp[hjs])
      rw[Array.getD_eq_getD_getElem?,Array.getElem?_setIfInBounds_self_of_lt hjs] at this
      simpa using this
     refine⟨htj,fun k hk hh=> ?_⟩
     simp only[Bool.and_eq_true] at hh
     have hkj:k≠j:=fun e=>by rw[e,htj] at hh;cases hh.1
     have hki:k≠i:=fun e=>by rw[e,hti] at hh;cases hh.1
     refine hl.2 k (by simpa using hk) ?_
     rw[kQ false (Ne.symm hki)] at hh
     rw[kQ false (Ne.symm hkj),hh.1,hh.2];rfl
    refine⟨fun h=>hS' ?_,ih (l.setIfInBounds j true) σ' wM hS' (ready_mono hr (Ne.symm hji)) h3 ?_⟩
    ·unfold late at h ⊢
     rw[Bool.or_eq_false_iff,List.any_eq_false] at h ⊢
     refine⟨hti,fun k hk hh=> ?_⟩
     simp only[Bool.and_eq_true] at hh
     by_cases hkj:k=j
     ·subst hkj;rw[h.1] at hh;cases hh.1
     ·rw[kQ false (Ne.symm hkj)] at hh
      exact h.2 k (by simpa using hk) (by rw[hh.1,hh.2];rfl)
    ·rw[Array.setIfInBounds_comm _ _ hji]
     exact h5
theorem C2 {blK:Int→Option Blk} {tl:Nat→Bool} {K:St→Prop} (fuel:Nat): ∀(is:List Nat) (l:Array Bool) (σ:St),(∀i,i∈is→tl i=false)→(∀k,tl k=true→l.getD k false=false)→(∀i,i∈is→(∃o,ops[i]? =some o∧pureOp o.op=true)∨ ∀j oj,tl j=true→ops[j]? =some oj→ ∃e∈oj.after,Region.binds .any e=true∧e.on=i)→hoistB ops is l=true→Sub blK σ.bl→
  Hoist P ops blK is (DL P ops blK tl K fuel (iW is l)) σ→DL P ops blK tl K (fuel+is.length) l σ
 | [], l, σ, _, _, _, _, _, h => h
 | i :: is, l, σ, hI, hN, hT, hB, hs, h => by
   simp only[hoistB,Bool.and_eq_true] at hB
   obtain⟨⟨hr,hf⟩,hB'⟩:=hB
   unfold Hoist at h
   split at h
   ·rename_i o ho
    obtain⟨v,hy,hK⟩:=h
    have:fuel+(i::is).length=(fuel+is.length)+1:=by simp;omega
    rw[this]
    have hN': ∀k,tl k=true→(l.setIfInBounds i true).getD k false=false:=fun k hk=>by
     by_cases hki:i=k
     ·subst hki;rw[hI i List.mem_cons_self] at hk;cases hk
     ·rw[kQ false hki];exact hN k hk
    have next:=C2 fuel is (l.setIfInBounds i true) (σ.put o.dst v) (fun i hi=>hI i (List.mem_cons_of_mem _ hi)) hN' (fun i hi=>hT i (List.mem_cons_of_mem _ hi)) hB' (by cases o.dst<;>exact hs) hK
    rcases hT i List.mem_cons_self with ⟨o',ho',hp⟩| hT'
    ·rw[ho] at ho';cases ho'
     exact Dj ho (hI i List.mem_cons_self) _ _ _ (Region.free_spec ho hf) (fun _=>hs) (by simpa using hr) (hy.pure hp) next
    ·exact P5 ho (hI i List.mem_cons_self) hT' _ _ _ (Region.free_spec ho hf) hN (by simpa using hr) hs hy next
   ·exact h.elim
def tailP (ops:Array Oper) (tl:Nat→Bool) (is:List Nat):Bool:=is.all fun i=>(match ops[i]? with | some o=>pureOp o.op | none=>false)|| Bt ops tl [i]
theorem cQ {id:Nat} {K:Ex→St→Prop} {σ:St} (hm:P.follows .mixedOrders=true) (blK:Int→Option Blk) (hs:Sub blK σ.bl) (is:List Nat) (fuel n:Nat) (hn:(ops.size==fuel+is.length && is.all (fun i=>decide (i<ops.size))&& hoistB ops is (Array.replicate ops.size false)&& tailP ops (fun j=>decide (n≤j)) is && is.all (fun i=>decide (i<n)))=true)
  (h:HoistF P (ops.toList.map (·.dst)) blK (is.filterMap fun i=>ops[i]?) (DL P ops blK (fun j=>decide (n≤j)) (K .normal) fuel (iW is (Array.replicate ops.size false))) σ):AW P (.region id ops true) K σ:=by
 simp only[Bool.and_eq_true,beq_iff_eq] at hn
 refine L9 hm blK (tl:=fun j=>decide (n≤j)) ?_
 have:=C2 (P:=P) (ops:=ops) (blK:=blK) (tl:=fun j=>decide (n≤j)) (K:=K .normal) fuel is (Array.replicate ops.size false) σ
  (fun i hi=>by have:=List.all_eq_true.1 hn.2 i hi;simp at this ⊢;exact this) (fun k _=>by
    rw[Array.getD_eq_getD_getElem?,Array.getElem?_replicate];split<;>rfl) (fun i hi=>by
    have h5:=List.all_eq_true.1 hn.1.2 i hi
    rw[Bool.or_eq_true] at h5
    rcases h5 with h5 | h5
    ·refine .inl ?_
     split at h5
     ·rename_i o ho;exact⟨o,ho,h5⟩
     ·cases h5
    ·exact .inr (qL h5 i (by simp))) hn.1.1.2 hs (kF _ is σ (filter_some is hn.1.1.1.2) h)
 rw[←hn.1.1.1.1] at this
 exact this
end

theorem uW {P:Program} {c:Code} {K:Ex→St→Prop} {σ:St} {g:Int} {s:Nat} {els:List (List V)} {e:List V} {v:V} {xs:List Int} {gs:List Int} (k j:Nat) (hb:σ.bl g=some ⟨s,els⟩) (he:els[k]? =some e) (hj:e[j]? =some v) (o:OwnD σ.bl (fl 1 (iv xs)) v gs) (hg:g∉gs)
  (h: ∀(g':Int) (b':Int→Option Blk),b' g=some ⟨s,els.set k (e.set j (.lsl g' 1 0 xs.length))⟩→b' g'=some ⟨1,iv xs⟩→g'≠g→(g'<0→xs= [])→(g'∈gs∨σ.bl g'=none)→(∀x,x≠g→x≠g'→b' x=σ.bl x)→AW P c K ⟨σ.n,σ.sl,b'⟩):AW P c K σ:=by
 rcases eJ.1 o with ⟨rfl,rfl,rfl⟩| ⟨g',rfl,rfl,h1,h2⟩
 ·refine cM (g:=g) (s:=s) (els:=els) k j 1 hb he hj fun g' hn hne=> ?_
  refine h g' _ (by rw[aG _ _ _ _ (Ne.symm hne),aU];rfl) (by rw[aU];rfl) hne (fun _=>rfl) (.inr hn) fun x x1 x2=>by rw[aG _ _ _ _ x2,aG _ _ _ _ x1]
 ·have hne:g'≠g:=fun e=>hg (by rw[e];exact List.mem_singleton.2 rfl)
  have e1:e.set j (.lsl g' 1 0 xs.length)=e:=by
   obtain⟨hl,hj2⟩:=List.getElem?_eq_some_iff.1 hj
   rw[←hj2];exact List.set_getElem_self hl
  have e2:els.set k e=els:=by
   obtain⟨hl,he2⟩:=List.getElem?_eq_some_iff.1 he
   rw[←he2];exact List.set_getElem_self hl
  exact h g' σ.bl (by rw[e1,e2];exact hb) h1 hne h2 (.inl (List.mem_singleton.2 rfl)) fun _ _ _=>rfl
structure PJ (bl : Int → Option Blk) (s : Str) (l : List Int) (gp gB gc : Int) (p : PS) : Prop where
 hp:p.b gp=some ⟨5,[[.int .i64 (nR s),.int .i64 (nC s),.lsl p.g 1 0 p.n,.lsl gB 1 0 (nR s),.lsl gc 1 0 (nC s)]]⟩
 hc:p.b gc=some ⟨1,iv (List.replicate (nC s) 0)⟩
 hB:p.b gB=some ⟨1,iv (right s l)⟩
 ha:p.b p.g=some ⟨1,iv (aTo s p.n)⟩
 pp:p.g≠gp
 pc:p.g≠gc
 pB:p.g≠gB
 f:bl p.g=none
 sub:Sub bl p.b
 neg:p.g<0→aTo s p.n= []
theorem dU {bl:Int→Option Blk} {xs:List Int} {v:V} {gs:List Int} (o:OwnD bl (fl 1 (iv xs)) v gs):v.cells= [v]∧v.one=true:=by
 rcases eJ.1 o with ⟨_,rfl,_⟩| ⟨g,rfl,_⟩<;>exact⟨rfl,rfl⟩
structure R4 where
 v:V
 gs:List Int
 gc:Int
 gp:Int
 b:Int→Option Blk
set_option maxHeartbeats 2000000 in
theorem zN (s:Str) (l:List Int) (hL:LOk s l):NW Tryz.prog 117 [.agg s.c,.sl (iv l)] (dPg (cK s l)):=by
 have hs:=hL.sok
 have h6:=hs.nj
 have h8:=hs.nm
 have hfr:=gY s.js s.js.length
 change(aO s.js).length≤s.js.length at hfr
 have hcn:nC s≤2*s.ms.length:=jU s.ms s.ms.length
 have hrn:nR s≤12:=by unfold nR;omega
 have ew:(who s).length=nC s:=by simp[who,nC]
 have w0:IntKind.i64.wrap (2*((aO s.js).length:Int))=(nR s:Int):=by rw[i64_in (by omega) (by omega)];unfold nR;omega
 refine lR Tryz.func117 rfl rfl (by rw[Tryz.ntmps117];simp) fun bl=> ?_
 rw[Tryz.ntmps117,Tryz.results117]
 refine aD ?_
 simp[Str.c]
 intro g1 hg1 hb1 gr hgr hr1 hbr
 obtain⟨b0,hb0⟩: ∃b0,b0=upd bl gr (some ⟨5,[[.int .i64 0,.int .i64 0,.nils,.nils,.nils]]⟩):=⟨_,rfl⟩
 refine cE 1 2 (.ptr s.c) b0 (by rw[hb0];intro z b hz;simp only[aA] at hz ⊢;grind) (by simp[frz,dropB,hb0,hb1,hr1,Ne.symm hr1,V.cl,Str.c]) ?_
 refine dI [(1,.sl (iv l)),(2,.ptr s.c),(4,.loc gr 5 0 0)] 69 b0 ⟨rfl,by simp[Str.c],Sub.refl _⟩ ?_
 have b0r:b0 gr=some ⟨5,[[.int .i64 0,.int .i64 0,.nils,.nils,.nils]]⟩:=by rw[hb0];simp
 have s0:Sub bl b0:=fun x y hx=>by rw[hb0,aG _ _ _ _ (fun e=>by rw[e,hbr] at hx;cases hx)];exact hx
 clear hb0 hb1 hg1 hr1
 refine aD ?_
 simp[Str.c]
 refine aE (pS s (by omega)) ?_
 simp
 refine aD ?_
 simp[Str.c]
 refine aD ?_
 simp[Str.c]
 refine aE (Ab s hs) ?_
 simp
 refine fH (fun a:R4=> [(4,.loc gr 5 0 0),(5,.sl (iv (who s))),(6,.sl (iv (sgn s))),(7,.int .i64 s.ms.length),(8,.sl (iv (fM s))),(9,.loc a.gp 5 0 0)]) (fun a=>a.b) (fun a=>OwnD a.b (fl 1 (iv (right s l))) a.v a.gs∧(∀x,x∈a.gs→b0 x=none)∧b0 a.gc=none∧b0 a.gp=none∧a.gc≠a.gp∧a.gc∉a.gs∧a.gp∉a.gs∧a.b a.gc=some ⟨1,List.replicate (nC s) [.int .i64 0]⟩∧a.b a.gp=some ⟨5,[[.int .i64 (nR s),.int .i64 (nC s),.nils,a.v,.lsl a.gc 1 0 (nC s)]]⟩∧Sub b0 a.b∧0≤a.gc∧0≤a.gp) 69 ?_ ?_
 ·refine cQ aN b0 (Sub.refl _) [0,1,2,3,4,5,6,7,9,10] 5 14 (by kernel_rfl) ?_
  simp[Str.c,ew]
  refine aP (qR s (by omega)) ?_
  simp[w0,ew]
  refine qZ (i:=8) (j:=11) (m:=13) false false false (by kernel_rfl) rfl rfl (by kernel_rfl) rfl rfl (by kernel_rfl) rfl rfl (by kernel_rfl) ?_ ?_ ?_
  ·simp[ew]
   refine fT (jH s l hL) fun vb gb b1 o f fr=> ?_
   have hgb: ∀x,x∈gb→ ∃y,b1 x=some y:=o.has
   have hv:=dU o
   have f0: ∀x,x∈gb→b0 x=none:=fun x hx=>aQ (Sub.refl b0) (f x hx)
   have s8:Sub b0 b1:=fun x y hx=>iP f fr ((Sub.refl b0) x y hx)
   simp
   refine⟨by first | exact s8 | (intro x y hx;have:=s8 x y hx;simp only[aA] at this ⊢;grind),?_⟩
   refine Dw 11 13 false false ?_ ?_
   ·simp[ew,hv]
    refine⟨by omega,by unfold maxLen;omega,fun gc hgc=> ?_⟩
    intros
    have hbc:b1 gc=none:=by first | assumption | (simp only[aA];grind)
    have fc:=aQ s8 hbc
    have s11:Sub b0 (upd (b1) gc (some ⟨1,List.replicate (nC s) [.int .i64 0]⟩)):=fun x y hx=>(by rw[aG _ _ _ _ (fun e=>by rw[e,fc] at hx;cases hx)];exact s8 x y hx)
    refine⟨by first | exact s11 | (intro x y hx;have:=s11 x y hx;simp only[aA] at this ⊢;grind),?_⟩
    refine Dw 12 13 false false ?_ ?_
    ·simp[ew,hv]
     refine⟨by first | exact s11 | (intro x y hx;have:=s11 x y hx;simp only[aA] at this ⊢;grind),?_⟩
     refine Dq 13 false ?_
     simp[ew,hv]
     intro gp hgp
     intros
     have hbp:upd (b1) gc (some ⟨1,List.replicate (nC s) [.int .i64 0]⟩) gp=none:=by first | assumption | (simp only[aA];grind)
     have fp:=aQ s11 hbp
     have s13:Sub b0 (upd (upd (b1) gc (some ⟨1,List.replicate (nC s) [.int .i64 0]⟩)) gp (some ⟨5,[[.int .i64 0,.int .i64 0,.nils,.nils,.nils]]⟩)):=fun x y hx=>(by rw[aG _ _ _ _ (fun e=>by rw[e,fp] at hx;cases hx)];exact s11 x y hx)
     refine⟨by first | exact s13 | (intro x y hx;have:=s13 x y hx;simp only[aA] at this ⊢;grind),?_⟩
     refine Dq 14 true ?_
     have ncp:gp≠gc:=by grind [aA]
     simp[ew,hv,hbp,ncp,Ne.symm ncp]
     have s14:Sub b0 (upd (upd (upd (b1) gc (some ⟨1,List.replicate (nC s) [.int .i64 0]⟩)) gp (some ⟨5,[[.int .i64 0,.int .i64 0,.nils,.nils,.nils]]⟩)) gp (some ⟨5,[[.int .i64 (nR s),.int .i64 (nC s),.nils,vb,.lsl gc 1 0 (nC s)]]⟩)):=fun x y hx=>(by rw[aG _ _ _ _ (fun e=>by rw[e,fp] at hx;cases hx)];exact s13 x y hx)
     refine Dd ?_
     rw[aH]
     exact⟨⟨vb,gb,gc,gp,upd (upd (upd (b1) gc (some ⟨1,List.replicate (nC s) [.int .i64 0]⟩)) gp (some ⟨5,[[.int .i64 0,.int .i64 0,.nils,.nils,.nils]]⟩)) gp (some ⟨5,[[.int .i64 (nR s),.int .i64 (nC s),.nils,vb,.lsl gc 1 0 (nC s)]]⟩)⟩,⟨by first | exact o | exact o.cW fun x hx y hy=>(by grind [aA]),f0,fc,fp,Ne.symm ncp,(by grind [aA]),(by grind [aA]),(by grind [aA]),(by grind [aA]),s14,hgc,hgp⟩,rfl,by simp,by first | exact Sub.refl _ | exact sub_eq (by simp)| (intro x y hx;simp only[aA] at hx ⊢;grind)⟩
    ·simp[ew,hv]
     intro gp hgp
     intros
     have hbp:upd (b1) gc (some ⟨1,List.replicate (nC s) [.int .i64 0]⟩) gp=none:=by first | assumption | (simp only[aA];grind)
     have fp:=aQ s11 hbp
     have s13:Sub b0 (upd (upd (b1) gc (some ⟨1,List.replicate (nC s) [.int .i64 0]⟩)) gp (some ⟨5,[[.int .i64 0,.int .i64 0,.nils,.nils,.nils]]⟩)):=fun x y hx=>(by rw[aG _ _ _ _ (fun e=>by rw[e,fp] at hx;cases hx)];exact s11 x y hx)
     refine⟨by first | exact s13 | (intro x y hx;have:=s13 x y hx;simp only[aA] at this ⊢;grind),?_⟩
     refine Dq 12 false ?_
     simp[ew,hv]
     refine⟨by first | exact s13 | (intro x y hx;have:=s13 x y hx;simp only[aA] at this ⊢;grind),?_⟩
     refine Dq 14 true ?_
     have ncp:gp≠gc:=by grind [aA]
     simp[ew,hv,hbp,ncp,Ne.symm ncp]
     have s14:Sub b0 (upd (upd (upd (b1) gc (some ⟨1,List.replicate (nC s) [.int .i64 0]⟩)) gp (some ⟨5,[[.int .i64 0,.int .i64 0,.nils,.nils,.nils]]⟩)) gp (some ⟨5,[[.int .i64 (nR s),.int .i64 (nC s),.nils,vb,.lsl gc 1 0 (nC s)]]⟩)):=fun x y hx=>(by rw[aG _ _ _ _ (fun e=>by rw[e,fp] at hx;cases hx)];exact s13 x y hx)
     refine Dd ?_
     rw[aH]
     exact⟨⟨vb,gb,gc,gp,upd (upd (upd (b1) gc (some ⟨1,List.replicate (nC s) [.int .i64 0]⟩)) gp (some ⟨5,[[.int .i64 0,.int .i64 0,.nils,.nils,.nils]]⟩)) gp (some ⟨5,[[.int .i64 (nR s),.int .i64 (nC s),.nils,vb,.lsl gc 1 0 (nC s)]]⟩)⟩,⟨by first | exact o | exact o.cW fun x hx y hy=>(by grind [aA]),f0,fc,fp,Ne.symm ncp,(by grind [aA]),(by grind [aA]),(by grind [aA]),(by grind [aA]),s14,hgc,hgp⟩,rfl,by simp,by first | exact Sub.refl _ | exact sub_eq (by simp)| (intro x y hx;simp only[aA] at hx ⊢;grind)⟩
   ·simp[ew,hv]
    intro gp hgp
    intros
    have hbp:b1 gp=none:=by first | assumption | (simp only[aA];grind)
    have fp:=aQ s8 hbp
    have s13:Sub b0 (upd (b1) gp (some ⟨5,[[.int .i64 0,.int .i64 0,.nils,.nils,.nils]]⟩)):=fun x y hx=>(by rw[aG _ _ _ _ (fun e=>by rw[e,fp] at hx;cases hx)];exact s8 x y hx)
    refine⟨by first | exact s13 | (intro x y hx;have:=s13 x y hx;simp only[aA] at this ⊢;grind),?_⟩
    refine Dq 11 false ?_
    simp[ew,hv]
    refine⟨by omega,by unfold maxLen;omega,fun gc hgc=> ?_⟩
    intros
    have hbc:upd (b1) gp (some ⟨5,[[.int .i64 0,.int .i64 0,.nils,.nils,.nils]]⟩) gc=none:=by first | assumption | (simp only[aA];grind)
    have fc:=aQ s13 hbc
    have s11:Sub b0 (upd (upd (b1) gp (some ⟨5,[[.int .i64 0,.int .i64 0,.nils,.nils,.nils]]⟩)) gc (some ⟨1,List.replicate (nC s) [.int .i64 0]⟩)):=fun x y hx=>(by rw[aG _ _ _ _ (fun e=>by rw[e,fc] at hx;cases hx)];exact s13 x y hx)
    refine⟨by first | exact s11 | (intro x y hx;have:=s11 x y hx;simp only[aA] at this ⊢;grind),?_⟩
    refine Dq 12 false ?_
    simp[ew,hv]
    refine⟨by first | exact s11 | (intro x y hx;have:=s11 x y hx;simp only[aA] at this ⊢;grind),?_⟩
    refine Dq 14 true ?_
    have ncp:gp≠gc:=by grind [aA]
    simp[ew,hv,hbp,ncp,Ne.symm ncp]
    have s14:Sub b0 (upd (upd (upd (b1) gp (some ⟨5,[[.int .i64 0,.int .i64 0,.nils,.nils,.nils]]⟩)) gc (some ⟨1,List.replicate (nC s) [.int .i64 0]⟩)) gp (some ⟨5,[[.int .i64 (nR s),.int .i64 (nC s),.nils,vb,.lsl gc 1 0 (nC s)]]⟩)):=fun x y hx=>(by rw[aG _ _ _ _ (fun e=>by rw[e,fp] at hx;cases hx)];exact s11 x y hx)
    refine Dd ?_
    rw[aH]
    exact⟨⟨vb,gb,gc,gp,upd (upd (upd (b1) gp (some ⟨5,[[.int .i64 0,.int .i64 0,.nils,.nils,.nils]]⟩)) gc (some ⟨1,List.replicate (nC s) [.int .i64 0]⟩)) gp (some ⟨5,[[.int .i64 (nR s),.int .i64 (nC s),.nils,vb,.lsl gc 1 0 (nC s)]]⟩)⟩,⟨by first | exact o | exact o.cW fun x hx y hy=>(by grind [aA]),f0,fc,fp,Ne.symm ncp,(by grind [aA]),(by grind [aA]),(by grind [aA]),(by grind [aA]),s14,hgc,hgp⟩,rfl,by simp,by first | exact Sub.refl _ | exact sub_eq (by simp)| (intro x y hx;simp only[aA] at hx ⊢;grind)⟩
  ·simp[ew]
   refine⟨by omega,by unfold maxLen;omega,fun gc hgc=> ?_⟩
   intros
   have hbc:b0 gc=none:=by first | assumption | (simp only[aA];grind)
   have fc:=aQ (Sub.refl b0) hbc
   have s11:Sub b0 (upd (b0) gc (some ⟨1,List.replicate (nC s) [.int .i64 0]⟩)):=fun x y hx=>(by rw[aG _ _ _ _ (fun e=>by rw[e,fc] at hx;cases hx)];exact(Sub.refl b0) x y hx)
   refine⟨by first | exact s11 | (intro x y hx;have:=s11 x y hx;simp only[aA] at this ⊢;grind),?_⟩
   refine Dw 8 13 false false ?_ ?_
   ·simp[ew]
    refine fT (jH s l hL) fun vb gb b1 o f fr=> ?_
    have hgb: ∀x,x∈gb→ ∃y,b1 x=some y:=o.has
    have hv:=dU o
    have f0: ∀x,x∈gb→b0 x=none:=fun x hx=>aQ s11 (f x hx)
    have s8:Sub b0 b1:=fun x y hx=>iP f fr (s11 x y hx)
    simp
    refine⟨by first | exact s8 | (intro x y hx;have:=s8 x y hx;simp only[aA] at this ⊢;grind),?_⟩
    refine Dw 12 13 false false ?_ ?_
    ·simp[ew,hv]
     refine⟨by first | exact s8 | (intro x y hx;have:=s8 x y hx;simp only[aA] at this ⊢;grind),?_⟩
     refine Dq 13 false ?_
     simp[ew,hv]
     intro gp hgp
     intros
     have hbp:b1 gp=none:=by first | assumption | (simp only[aA];grind)
     have fp:=aQ s8 hbp
     have s13:Sub b0 (upd (b1) gp (some ⟨5,[[.int .i64 0,.int .i64 0,.nils,.nils,.nils]]⟩)):=fun x y hx=>(by rw[aG _ _ _ _ (fun e=>by rw[e,fp] at hx;cases hx)];exact s8 x y hx)
     refine⟨by first | exact s13 | (intro x y hx;have:=s13 x y hx;simp only[aA] at this ⊢;grind),?_⟩
     refine Dq 14 true ?_
     have ncp:gp≠gc:=by grind [aA]
     simp[ew,hv,hbp,ncp,Ne.symm ncp]
     have s14:Sub b0 (upd (upd (b1) gp (some ⟨5,[[.int .i64 0,.int .i64 0,.nils,.nils,.nils]]⟩)) gp (some ⟨5,[[.int .i64 (nR s),.int .i64 (nC s),.nils,vb,.lsl gc 1 0 (nC s)]]⟩)):=fun x y hx=>(by rw[aG _ _ _ _ (fun e=>by rw[e,fp] at hx;cases hx)];exact s13 x y hx)
     refine Dd ?_
     rw[aH]
     exact⟨⟨vb,gb,gc,gp,upd (upd (b1) gp (some ⟨5,[[.int .i64 0,.int .i64 0,.nils,.nils,.nils]]⟩)) gp (some ⟨5,[[.int .i64 (nR s),.int .i64 (nC s),.nils,vb,.lsl gc 1 0 (nC s)]]⟩)⟩,⟨by first | exact o | exact o.cW fun x hx y hy=>(by grind [aA]),f0,fc,fp,Ne.symm ncp,(by grind [aA]),(by grind [aA]),(by grind [aA]),(by grind [aA]),s14,hgc,hgp⟩,rfl,by simp,by first | exact Sub.refl _ | exact sub_eq (by simp)| (intro x y hx;simp only[aA] at hx ⊢;grind)⟩
    ·simp[ew,hv]
     intro gp hgp
     intros
     have hbp:b1 gp=none:=by first | assumption | (simp only[aA];grind)
     have fp:=aQ s8 hbp
     have s13:Sub b0 (upd (b1) gp (some ⟨5,[[.int .i64 0,.int .i64 0,.nils,.nils,.nils]]⟩)):=fun x y hx=>(by rw[aG _ _ _ _ (fun e=>by rw[e,fp] at hx;cases hx)];exact s8 x y hx)
     refine⟨by first | exact s13 | (intro x y hx;have:=s13 x y hx;simp only[aA] at this ⊢;grind),?_⟩
     refine Dq 12 false ?_
     simp[ew,hv]
     refine⟨by first | exact s13 | (intro x y hx;have:=s13 x y hx;simp only[aA] at this ⊢;grind),?_⟩
     refine Dq 14 true ?_
     have ncp:gp≠gc:=by grind [aA]
     simp[ew,hv,hbp,ncp,Ne.symm ncp]
     have s14:Sub b0 (upd (upd (b1) gp (some ⟨5,[[.int .i64 0,.int .i64 0,.nils,.nils,.nils]]⟩)) gp (some ⟨5,[[.int .i64 (nR s),.int .i64 (nC s),.nils,vb,.lsl gc 1 0 (nC s)]]⟩)):=fun x y hx=>(by rw[aG _ _ _ _ (fun e=>by rw[e,fp] at hx;cases hx)];exact s13 x y hx)
     refine Dd ?_
     rw[aH]
     exact⟨⟨vb,gb,gc,gp,upd (upd (b1) gp (some ⟨5,[[.int .i64 0,.int .i64 0,.nils,.nils,.nils]]⟩)) gp (some ⟨5,[[.int .i64 (nR s),.int .i64 (nC s),.nils,vb,.lsl gc 1 0 (nC s)]]⟩)⟩,⟨by first | exact o | exact o.cW fun x hx y hy=>(by grind [aA]),f0,fc,fp,Ne.symm ncp,(by grind [aA]),(by grind [aA]),(by grind [aA]),(by grind [aA]),s14,hgc,hgp⟩,rfl,by simp,by first | exact Sub.refl _ | exact sub_eq (by simp)| (intro x y hx;simp only[aA] at hx ⊢;grind)⟩
   ·simp[ew]
    intro gp hgp
    intros
    have hbp:upd (b0) gc (some ⟨1,List.replicate (nC s) [.int .i64 0]⟩) gp=none:=by first | assumption | (simp only[aA];grind)
    have fp:=aQ s11 hbp
    have s13:Sub b0 (upd (upd (b0) gc (some ⟨1,List.replicate (nC s) [.int .i64 0]⟩)) gp (some ⟨5,[[.int .i64 0,.int .i64 0,.nils,.nils,.nils]]⟩)):=fun x y hx=>(by rw[aG _ _ _ _ (fun e=>by rw[e,fp] at hx;cases hx)];exact s11 x y hx)
    refine⟨by first | exact s13 | (intro x y hx;have:=s13 x y hx;simp only[aA] at this ⊢;grind),?_⟩
    refine Dq 8 false ?_
    simp[ew]
    refine fT (jH s l hL) fun vb gb b1 o f fr=> ?_
    have hgb: ∀x,x∈gb→ ∃y,b1 x=some y:=o.has
    have hv:=dU o
    have f0: ∀x,x∈gb→b0 x=none:=fun x hx=>aQ s13 (f x hx)
    have s8:Sub b0 b1:=fun x y hx=>iP f fr (s13 x y hx)
    simp
    refine⟨by first | exact s8 | (intro x y hx;have:=s8 x y hx;simp only[aA] at this ⊢;grind),?_⟩
    refine Dq 12 false ?_
    simp[ew,hv]
    refine⟨by first | exact s8 | (intro x y hx;have:=s8 x y hx;simp only[aA] at this ⊢;grind),?_⟩
    refine Dq 14 true ?_
    have ncp:gp≠gc:=by grind [aA]
    have hq:b1 gp=some ⟨5,[[.int .i64 0,.int .i64 0,.nils,.nils,.nils]]⟩:=by grind [aA]
    simp[ew,hv,hbp,ncp,Ne.symm ncp,hq]
    have s14:Sub b0 (upd (b1) gp (some ⟨5,[[.int .i64 (nR s),.int .i64 (nC s),.nils,vb,.lsl gc 1 0 (nC s)]]⟩)):=fun x y hx=>(by rw[aG _ _ _ _ (fun e=>by rw[e,fp] at hx;cases hx)];exact s8 x y hx)
    refine Dd ?_
    rw[aH]
    exact⟨⟨vb,gb,gc,gp,upd (b1) gp (some ⟨5,[[.int .i64 (nR s),.int .i64 (nC s),.nils,vb,.lsl gc 1 0 (nC s)]]⟩)⟩,⟨by first | exact o | exact o.cW fun x hx y hy=>(by grind [aA]),f0,fc,fp,Ne.symm ncp,(by grind [aA]),(by grind [aA]),(by grind [aA]),(by grind [aA]),s14,hgc,hgp⟩,rfl,by simp,by first | exact Sub.refl _ | exact sub_eq (by simp)| (intro x y hx;simp only[aA] at hx ⊢;grind)⟩
  ·simp[ew]
   intro gp hgp
   intros
   have hbp:b0 gp=none:=by first | assumption | (simp only[aA];grind)
   have fp:=aQ (Sub.refl b0) hbp
   have s13:Sub b0 (upd (b0) gp (some ⟨5,[[.int .i64 0,.int .i64 0,.nils,.nils,.nils]]⟩)):=fun x y hx=>(by rw[aG _ _ _ _ (fun e=>by rw[e,fp] at hx;cases hx)];exact(Sub.refl b0) x y hx)
   refine⟨by first | exact s13 | (intro x y hx;have:=s13 x y hx;simp only[aA] at this ⊢;grind),?_⟩
   refine Dw 8 11 false false ?_ ?_
   ·simp[ew]
    refine fT (jH s l hL) fun vb gb b1 o f fr=> ?_
    have hgb: ∀x,x∈gb→ ∃y,b1 x=some y:=o.has
    have hv:=dU o
    have f0: ∀x,x∈gb→b0 x=none:=fun x hx=>aQ s13 (f x hx)
    have s8:Sub b0 b1:=fun x y hx=>iP f fr (s13 x y hx)
    simp
    refine⟨by first | exact s8 | (intro x y hx;have:=s8 x y hx;simp only[aA] at this ⊢;grind),?_⟩
    refine Dq 11 false ?_
    simp[ew,hv]
    refine⟨by omega,by unfold maxLen;omega,fun gc hgc=> ?_⟩
    intros
    have hbc:b1 gc=none:=by first | assumption | (simp only[aA];grind)
    have fc:=aQ s8 hbc
    have s11:Sub b0 (upd (b1) gc (some ⟨1,List.replicate (nC s) [.int .i64 0]⟩)):=fun x y hx=>(by rw[aG _ _ _ _ (fun e=>by rw[e,fc] at hx;cases hx)];exact s8 x y hx)
    refine⟨by first | exact s11 | (intro x y hx;have:=s11 x y hx;simp only[aA] at this ⊢;grind),?_⟩
    refine Dq 12 false ?_
    simp[ew,hv]
    refine⟨by first | exact s11 | (intro x y hx;have:=s11 x y hx;simp only[aA] at this ⊢;grind),?_⟩
    refine Dq 14 true ?_
    have ncp:gp≠gc:=by grind [aA]
    have hq:b1 gp=some ⟨5,[[.int .i64 0,.int .i64 0,.nils,.nils,.nils]]⟩:=by grind [aA]
    simp[ew,hv,hbp,ncp,Ne.symm ncp,hq]
    have s14:Sub b0 (upd (upd (b1) gc (some ⟨1,List.replicate (nC s) [.int .i64 0]⟩)) gp (some ⟨5,[[.int .i64 (nR s),.int .i64 (nC s),.nils,vb,.lsl gc 1 0 (nC s)]]⟩)):=fun x y hx=>(by rw[aG _ _ _ _ (fun e=>by rw[e,fp] at hx;cases hx)];exact s11 x y hx)
    refine Dd ?_
    rw[aH]
    exact⟨⟨vb,gb,gc,gp,upd (upd (b1) gc (some ⟨1,List.replicate (nC s) [.int .i64 0]⟩)) gp (some ⟨5,[[.int .i64 (nR s),.int .i64 (nC s),.nils,vb,.lsl gc 1 0 (nC s)]]⟩)⟩,⟨by first | exact o | exact o.cW fun x hx y hy=>(by grind [aA]),f0,fc,fp,Ne.symm ncp,(by grind [aA]),(by grind [aA]),(by grind [aA]),(by grind [aA]),s14,hgc,hgp⟩,rfl,by simp,by first | exact Sub.refl _ | exact sub_eq (by simp)| (intro x y hx;simp only[aA] at hx ⊢;grind)⟩
   ·simp[ew]
    refine⟨by omega,by unfold maxLen;omega,fun gc hgc=> ?_⟩
    intros
    have hbc:upd (b0) gp (some ⟨5,[[.int .i64 0,.int .i64 0,.nils,.nils,.nils]]⟩) gc=none:=by first | assumption | (simp only[aA];grind)
    have fc:=aQ s13 hbc
    have s11:Sub b0 (upd (upd (b0) gp (some ⟨5,[[.int .i64 0,.int .i64 0,.nils,.nils,.nils]]⟩)) gc (some ⟨1,List.replicate (nC s) [.int .i64 0]⟩)):=fun x y hx=>(by rw[aG _ _ _ _ (fun e=>by rw[e,fc] at hx;cases hx)];exact s13 x y hx)
    refine⟨by first | exact s11 | (intro x y hx;have:=s11 x y hx;simp only[aA] at this ⊢;grind),?_⟩
    refine Dq 8 false ?_
    simp[ew]
    refine fT (jH s l hL) fun vb gb b1 o f fr=> ?_
    have hgb: ∀x,x∈gb→ ∃y,b1 x=some y:=o.has
    have hv:=dU o
    have f0: ∀x,x∈gb→b0 x=none:=fun x hx=>aQ s11 (f x hx)
    have s8:Sub b0 b1:=fun x y hx=>iP f fr (s11 x y hx)
    simp
    refine⟨by first | exact s8 | (intro x y hx;have:=s8 x y hx;simp only[aA] at this ⊢;grind),?_⟩
    refine Dq 12 false ?_
    simp[ew,hv]
    refine⟨by first | exact s8 | (intro x y hx;have:=s8 x y hx;simp only[aA] at this ⊢;grind),?_⟩
    refine Dq 14 true ?_
    have ncp:gp≠gc:=by grind [aA]
    have hq:b1 gp=some ⟨5,[[.int .i64 0,.int .i64 0,.nils,.nils,.nils]]⟩:=by grind [aA]
    simp[ew,hv,hbp,ncp,Ne.symm ncp,hq]
    have s14:Sub b0 (upd (b1) gp (some ⟨5,[[.int .i64 (nR s),.int .i64 (nC s),.nils,vb,.lsl gc 1 0 (nC s)]]⟩)):=fun x y hx=>(by rw[aG _ _ _ _ (fun e=>by rw[e,fp] at hx;cases hx)];exact s8 x y hx)
    refine Dd ?_
    rw[aH]
    exact⟨⟨vb,gb,gc,gp,upd (b1) gp (some ⟨5,[[.int .i64 (nR s),.int .i64 (nC s),.nils,vb,.lsl gc 1 0 (nC s)]]⟩)⟩,⟨by first | exact o | exact o.cW fun x hx y hy=>(by grind [aA]),f0,fc,fp,Ne.symm ncp,(by grind [aA]),(by grind [aA]),(by grind [aA]),(by grind [aA]),s14,hgc,hgp⟩,rfl,by simp,by first | exact Sub.refl _ | exact sub_eq (by simp)| (intro x y hx;simp only[aA] at hx ⊢;grind)⟩
 rintro⟨vb,gb,gc,gp,b1⟩ ⟨o,f0,fc,fp,ncp,nc,np,bc,bp,hsb,hgc,hgp⟩
 simp only at o f0 fc fp ncp nc np bc bp hsb hgc hgp
 refine uW (g:=gp) (s:=5) (els:= [[.int .i64 (nR s),.int .i64 (nC s),.nils,vb,.lsl gc 1 0 (nC s)]]) 0 3 bp rfl rfl o np fun gB b2 b2p b2B nBp Gi Bor b2x=> ?_
 have nBc:gB≠gc:=fun e=>by
  rcases Bor with h | h
  ·exact nc (e▸h)
  ·have h:b1 gB=none:=h
   rw[e,bc] at h;cases h
 have fB:b0 gB=none:=by
  rcases Bor with h | h
  ·exact f0 gB h
  ·exact aQ hsb h
 have b2c:=(b2x gc ncp (Ne.symm nBc)).trans bc
 have s2:Sub b0 b2:=fun x y hx=>by
  rw[b2x x (fun e=>by rw[e,fp] at hx;cases hx) (fun e=>by rw[e,fB] at hx;cases hx)];exact hsb x y hx
 clear bp bc b2x hsb Bor o f0 nc np
 rw[show(right s l).length=nR s from dH s l] at b2p
 refine cM (g:=gp) 0 2 1 (s:=5) (els:= [[.int .i64 (nR s),.int .i64 (nC s),.nils,.lsl gB 1 0 (nR s),.lsl gc 1 0 (nC s)]]) b2p rfl rfl fun ga hga Ta=> ?_
 have hga:b2 ga=none:=hga
 have fa:b0 ga=none:=aQ s2 hga
 have nac:ga≠gc:=fun e=>by rw[e,b2c] at hga;cases hga
 have naB:ga≠gB:=fun e=>by rw[e,b2B] at hga;cases hga
 refine aM ?_
 refine aC ?_
 simp
 refine aI (fun p:Nat×PS=> [(4,.loc gr 5 0 0),(5,.sl (iv (who s))),(6,.sl (iv (sgn s))),(7,.int .i64 s.ms.length),(8,.sl (iv (fM s))),(9,.loc gp 5 0 0),(10,.int .i64 p.1)]) (fun p=>p.2.b) (fun p=>p.1≤nR s∧p.2.n=p.1*nC s∧PJ b0 s l gp gB gc p.2) (fun p=>nR s - p.1) _ (0,⟨0,ga,_⟩) ⟨Nat.zero_le _,by simp,⟨?_,?_,?_,?_,Ta,nac,naB,fa,?_,fun _=>rfl⟩⟩ ⟨rfl,by simp,sub_eq rfl⟩ ?_
 ·simp[Ne.symm Ta]
 ·simp[Ne.symm nac,Ne.symm ncp,ncp,b2c,iv]
 ·simp[Ne.symm naB,nBp,b2B]
 ·simp[aTo,iv]
 ·intro x y hx
  have h1:x≠gp:=fun e=>by rw[e,fp] at hx;cases hx
  have h2:x≠ga:=fun e=>by rw[e,fa] at hx;cases hx
  simp[h1,h2,s2 x y hx]
 clear hga Ta nac naB fa b2p s2
 rintro⟨i,n,g,b⟩ ⟨hi,hn,P⟩
 simp only at hi hn
 subst hn
 have hP:=P.hp
 simp only at hP
 refine aM ?_
 refine aC ?_
 simp[hP]
 refine⟨fun h=> ?_,fun h=> ?_⟩
 ·refine aM (aR ?_)
  refine aC ?_
  simp[ew]
  refine aI (fun p:Nat×PS=> [(4,.loc gr 5 0 0),(5,.sl (iv (who s))),(6,.sl (iv (sgn s))),(7,.int .i64 s.ms.length),(8,.sl (iv (fM s))),(9,.loc gp 5 0 0),(10,.int .i64 i),(42,.sl (iv (who s))),(43,.int .i64 (nC s)),(44,.int .i64 p.1)]) (fun p=>p.2.b) (fun p=>p.1≤nC s∧p.2.n=i*nC s+p.1∧PJ b0 s l gp gB gc p.2) (fun p=>nC s - p.1) _ (0,⟨i*nC s,g,b⟩) ⟨Nat.zero_le _,rfl,P⟩ ⟨rfl,by simp,sub_eq rfl⟩ ?_
  rintro⟨c,n,g,b⟩ ⟨hc,hn,P⟩
  simp only at hc hn
  subst hn
  obtain⟨hp,hcc,hBB,ha,npp,npc,npB,hf,jN,cL⟩:=P
  simp only at hp hcc hBB ha npp npc npB hf jN cL
  refine aD ?_
  simp
  refine aD ?_
  simp
  refine⟨fun hcl=> ?_,fun hcl=> ?_⟩
  ·refine aM (aR ?_)
   have qw:=Il s c hcl
   have qs:=Rr s c hcl
   obtain⟨⟨k0,k1⟩,k2⟩:=nX s c hcl
   refine aD ?_
   simp[-dC,qw]
   obtain⟨⟨k,sg⟩,hk⟩: ∃k,eK s c=k:=⟨_,rfl⟩
   rw[hk] at qw qs k0 k1 k2 ⊢
   simp only at qw qs k0 k1 k2 ⊢
   have m1:i*s.ms.length≤12*8:=Nat.mul_le_mul (by omega) (by omega)
   have mi:((i*s.ms.length:Nat):Int)=(i:Int)*s.ms.length:=by simp
   have w1:IntKind.i64.wrap ((i:Int)*s.ms.length)=(i:Int)*s.ms.length:=i64_in (by omega) (by omega)
   have w2:IntKind.i64.wrap ((i:Int)*s.ms.length+k)=(i:Int)*s.ms.length+k:=i64_in (by omega) (by omega)
   have e1:((i:Int)*s.ms.length+k).toNat=i*s.ms.length+k.toNat:=by omega
   have ei:i*s.ms.length+k.toNat<(fM s).length:=by
    rw[I1]
    have:(i+1)*s.ms.length≤nR s*s.ms.length:=Nat.mul_le_mul_right _ h
    rw[Nat.add_mul] at this;omega
   have qr:=tW ei
   rw[←e1] at qr
   have bd:=rG hs (i*s.ms.length+k.toNat)
   rw[←e1] at bd
   have en:ent s i c=sg*lat (fM s) ((i:Int)*s.ms.length+k).toNat:=by unfold ent;rw[hk,e1]
   have w3:IntKind.i64.wrap (sg*lat (fM s) ((i:Int)*s.ms.length+k).toNat)=ent s i c:=by
    rw[en];rcases k2 with rfl | rfl<;>exact i64_in (by omega) (by omega)
   have p1:0≤(i:Int)*s.ms.length+k:=by omega
   have mc:(i+1)*nC s≤12*16:=Nat.mul_le_mul (by omega) (by omega)
   rw[Nat.add_mul] at mc
   obtain⟨m,hm⟩: ∃m,i*nC s+c=m:=⟨_,rfl⟩
   rw[hm] at hp ha cL
   have tka:(iv (aTo s m)).take m=iv (aTo s m):=List.take_of_length_le (by simp)
   refine cQ aN (rem b g) (dF b g) [0,1,2,3,4,5,6,7,8,9,10,11,12,13,14] 4 18 (by kernel_rfl) ?_
   simp[-dC,Ne.symm npp,hp,w1,w2,w3,qs,qr,p1]
   refine Dq 15 false ?_
   simp
   intro g4 hg4 hb4
   have n4g:g4≠g:=fun e=>by rw[e,ha] at hb4;cases hb4
   have n4p:g4≠gp:=fun e=>by rw[e,hp] at hb4;cases hb4
   have pK: ∀X,Sub (rem b g) (upd b g4 X):=fun X z y hz=>by
    rw[aF] at hz
    rw[aA]
    grind
   refine⟨pK _,Dq 16 false ?_⟩
   simp[n4g,Ne.symm n4g,appV,elsV,Int.not_lt.2 hg4,ha,tka]
   have hsn:iv (aTo s m)++ [[.int .i64 (ent s i c)]]=iv (aTo s (m+1)):=by rw[←hm,Kj s i c hcl,aT,jA]
   rw[hsn]
   refine⟨by omega,fun gN hgN hbN=> ?_⟩
   have nN:gN≠gp∧gN≠gc∧gN≠gB∧gN≠g4∧b0 gN=none:=by
    by_cases e:gN=g
    ·subst e
     exact⟨npp,npc,npB,Ne.symm n4g,hf⟩
    ·obtain⟨q1,q2⟩:=hbN e
     exact⟨fun e=>(by rw[e,hp] at q2;cases q2),fun e=>(by rw[e,hcc] at q2;cases q2),fun e=>(by rw[e,hBB] at q2;cases q2),q1,aQ jN q2⟩
   obtain⟨nNp,nNc,nNB,nN4,fN⟩:=nN
   have fW: ∀X Y,Sub (rem b g) (upd (rem (upd b g4 X) g) gN Y):=fun X Y z y hz=>by
    rw[aF] at hz
    rw[aA,aF,aA]
    grind
   have jP: ∀X Y Z,Sub (upd (upd (rem b g) gN Y) gp Z) (upd (upd (rem (upd b g4 X) g) gN Y) gp Z):=fun X Y Z z y hz=>by
    simp only[aA,aF] at hz ⊢
    grind
   refine⟨fW _ _,Dq 17 false ?_⟩
   simp
   refine⟨fW _ _,Dq 18 true ?_⟩
   simp[Ne.symm nNp,Ne.symm npp,n4p,Ne.symm n4p,hp]
   refine Dd ?_
   have w4:IntKind.i64.wrap ((c:Int)+1)=c+1:=i64_in (by omega) (by omega)
   simp
   refine aC ?_
   simp[w4,aB]
   obtain⟨b4,gV⟩: ∃b4,b4=upd (upd (rem b g) gN (some ⟨1,iv (aTo s (m+1))⟩)) gp (some ⟨5,[[.int .i64 (nR s),.int .i64 (nC s),.lsl gN 1 0 (m+1),.lsl gB 1 0 (nR s),.lsl gc 1 0 (nC s)]]⟩):=⟨_,rfl⟩
   refine⟨c+1,⟨m+1,gN,b4⟩,⟨by omega,by simp only;omega,⟨by rw[gV];simp,by rw[gV];simp[Ne.symm nNc,Ne.symm npc,ncp,hcc],by rw[gV];simp[Ne.symm nNB,Ne.symm npB,nBp,hBB],by rw[gV];simp[nNp],nNp,nNc,nNB,fN,fun x y hx=> ?_,fun e=>by simp only at e;omega⟩⟩,by omega,rfl,by simp,by rw[gV];exact jP _ _ _⟩
   have h1:x≠gp:=fun e=>by rw[e,fp] at hx;cases hx
   have h2:x≠gN:=fun e=>by rw[e,fN] at hx;cases hx
   have h3:x≠g:=fun e=>by rw[e,hf] at hx;cases hx
   simp only
   rw[gV];simp[h1,h2,h3];exact jN x y hx
  ·have:c=nC s:=by omega
   subst this
   have w5:IntKind.i64.wrap ((i:Int)+1)=i+1:=i64_in (by omega) (by omega)
   refine aC ?_
   simp[w5,aB]
   refine⟨i+1,⟨i*nC s+nC s,g,b⟩,⟨by omega,by rw[Nat.add_mul];simp,⟨hp,hcc,hBB,ha,npp,npc,npB,hf,jN,cL⟩⟩,by omega,rfl,by simp,sub_eq rfl⟩
 ·have:i=nR s:=by omega
  subst this
  obtain⟨hp,hcc,hBB,ha,npp,npc,npB,hf,jN,cL⟩:=P
  simp only at hp hcc hBB ha npp npc npB hf jN cL
  have nrp:gr≠gp:=fun e=>by rw[e,fp] at b0r;cases b0r
  have nrg:gr≠g:=fun e=>by rw[e,hf] at b0r;cases b0r
  have nrB:gr≠gB:=fun e=>by rw[e,fB] at b0r;cases b0r
  have nrc:gr≠gc:=fun e=>by rw[e,fc] at b0r;cases b0r
  have bgr:=jN _ _ b0r
  refine aC ?_
  simp[hp,bgr]
  have fl: ∀x,b0 x=none→bl x=none:=fun x hx=>aQ s0 hx
  refine kJ [.agg [.int .i64 (nR s),.int .i64 (nC s),.lsl g 1 0 (nR s*nC s),.lsl gB 1 0 (nR s),.lsl gc 1 0 (nC s)]] ([g]++([gB]++ [gc])) (by simp) (qH.2 ⟨_,_,_,[g],[gB],[gc],rfl,rfl,by simp[npB,npc],by simp[nBc],eJ.2 (.inr ⟨g,by simp[cK],rfl,?_,cL⟩),eJ.2 (.inr ⟨gB,by simp[cK,dH],rfl,?_,Gi⟩),eJ.2 (.inr ⟨gc,by simp[cK],rfl,?_,by omega⟩)⟩) (by simp[fl _ hf,fl _ fB,fl _ fc]) fun x y hx=> ?_
  ·show upd b gr _ g=_
   rw[aG _ _ _ _ (Ne.symm nrg)];exact ha
  ·show upd b gr _ gB=_
   rw[aG _ _ _ _ (Ne.symm nrB)];exact hBB
  ·show upd b gr _ gc=_
   rw[aG _ _ _ _ (Ne.symm nrc)];exact hcc
  ·show upd b gr _ x=_
   rw[aG _ _ _ _ (fun e=>by rw[e,hbr] at hx;cases hx)]
   exact jN x y (s0 x y hx)
end Go.Proofs.YticmgmemnpcbbaaGreat.Vm

namespace Go.Proofs.YticmgmemnpcbbaaGreat.Vm
open Go Go.Proofs
set_option linter.unusedSimpArgs false
set_option linter.unusedVariables false
structure lQ (b : Int → Option Blk) (g0 : Int) (ids : List Int) (r c : Nat) (M : MF) : Prop where
 len:ids.length=r
 top:b g0=some ⟨1,ids.map fun g=> [.lsl g 1 0 c]⟩
 row: ∀(i:Nat) (g:Int),ids[i]? =some g→b g=some ⟨1,fvs (rowOf c M i)⟩
 pos: ∀g,g∈ids→0≤g
 inj: ∀(i j:Nat) (g:Int),ids[i]? =some g→ids[j]? =some g→i=j
 no0:g0∉ids
theorem tQ {c:Nat} {M M':MF} {i:Nat} (h: ∀j,j<c→M i j=M' i j):rowOf c M i=rowOf c M' i:=by
 unfold rowOf
 exact List.map_congr_left fun j hj=>h j (by simpa using hj)
theorem lQ.congr {b:Int→Option Blk} {g0:Int} {ids:List Int} {r c:Nat} {M M':MF} (h:lQ b g0 ids r c M) (hM: ∀i j,i<r→j<c→M i j=M' i j):lQ b g0 ids r c M':=
 ⟨h.len,h.top,fun i g hi=>by
   rw[h.row i g hi,tQ fun j hj=>hM i j (by rw[←h.len];exact(List.getElem?_eq_some_iff.1 hi).1) hj],h.pos,h.inj,h.no0⟩
theorem lQ.put {b:Int→Option Blk} {g0 g:Int} {ids:List Int} {r c i:Nat} {M M':MF} (h:lQ b g0 ids r c M) (hi:ids[i]? =some g) (hM: ∀a j,a≠i→j<c→M a j=M' a j):lQ (upd b g (some ⟨1,fvs (rowOf c M' i)⟩)) g0 ids r c M':=by
 have hm:=List.mem_of_getElem? hi
 refine⟨h.len,?_,fun k g' hk=> ?_,h.pos,h.inj,h.no0⟩
 ·rw[aG _ _ _ _ (fun e=>h.no0 (by rw[e];exact hm))];exact h.top
 ·by_cases e:k=i
  ·subst e
   rw[hi] at hk;cases hk
   rw[aU]
  ·have hne:g'≠g:=fun e2=>e (h.inj k i g (by rw[hk,e2]) hi)
   rw[aG _ _ _ _ hne,h.row k g' hk,tQ fun j hj=>hM k j e hj]
theorem lQ.cW {b b':Int→Option Blk} {g0:Int} {ids:List Int} {r c:Nat} {M:MF} (h:lQ b g0 ids r c M) (hk: ∀x y,x=g0∨x∈ids→b x=some y→b' x=some y):lQ b' g0 ids r c M:=
 ⟨h.len,hk _ _ (.inl rfl) h.top,fun i g hi=>hk _ _ (.inr (List.mem_of_getElem? hi)) (h.row i g hi),h.pos,h.inj,h.no0⟩
def aOO (ids:List Int) (i n:Nat) (gi gn:Int):List Int:=(ids.set i gn).set n gi
structure aO7 (b : Int → Option Blk) (gr g0 gp : Int) (ids : List Int) (r c : Nat) (s : RS) (d : Option Rat) : Prop where
 fJ:lQ b g0 ids r c s.M
 hd:b gr=some ⟨5,[[.int .i64 r,.int .i64 c,.lsl g0 1 0 r,.lsl gp 1 0 s.P.length,fv d]]⟩
 pv:b gp=some ⟨1,iv (pz s.P)⟩
 pn:gp<0→s.P= []
 dq:okQ d
 g00:0≤g0
 d1:gr≠g0
 d2:gr∉ids
 d3:gp≠gr
 d4:gp≠g0
 d5:gp∉ids
def Fr (bl b:Int→Option Blk) (gr g0:Int) (ids:List Int):Prop:= ∀x y,bl x=some y→x≠gr→x≠g0→x∉ids→b x=some y
def aP3 (M:MF) (n k i j:Nat):MF:=fun a b=>if a<i∨a=i∧b<j then aFL M n k a b else M a b
end Go.Proofs.YticmgmemnpcbbaaGreat.Vm

namespace Go.Proofs.YticmgmemnpcbbaaGreat.Lp
set_option linter.unusedSimpArgs false
set_option linter.unusedVariables false
def S :Nat→(Nat→Rat)→Rat
 | 0, _ => 0
 | n + 1, f => S n f + f n
theorem bE {f g:Nat→Rat} : ∀ {n:Nat},(∀i,i<n→f i=g i)→S n f=S n g
 | 0, _ => rfl
 | n + 1, h => by rw [S, S, bE (n := n) fun i hi => h i (by omega), h n (by omega)]
theorem iD {f:Nat→Rat} : ∀ {n:Nat},(∀i,i<n→f i=0)→S n f=0
 | 0, _ => rfl
 | n + 1, h => by rw [S, iD (n := n) fun i hi => h i (by omega), h n (by omega)]; grind
theorem Q8 (f g:Nat→Rat): ∀n,S n (fun i=>f i+g i)=S n f+S n g
 | 0 => by simp [S]; grind
 | n + 1 => by rw [S, S, S, Q8 f g n]; grind
theorem C0 (f g:Nat→Rat): ∀n,S n (fun i=>f i - g i)=S n f - S n g
 | 0 => by simp [S]; grind
 | n + 1 => by rw [S, S, S, C0 f g n]; grind
theorem iM (a:Rat) (f:Nat→Rat): ∀n,S n (fun i=>a*f i)=a*S n f
 | 0 => by simp [S]
 | n + 1 => by rw [S, S, iM a f n]; grind
theorem mY (a:Rat) (f:Nat→Rat) (n:Nat):S n (fun i=>f i*a)=S n f*a:=by
 rw[show(fun i=>f i*a)=fun i=>a*f i from funext fun i=>Rat.mul_comm _ _,iM,Rat.mul_comm]
theorem qE (f:Nat→Nat→Rat) (m:Nat): ∀n,S n (fun i=>S m fun j=>f i j)=S m fun j=>S n fun i=>f i j
 | 0 => by
   rw[S];symm;exact iD fun i _=>rfl
 | n + 1 => by
   rw[S,qE f m n,←Q8]
   rfl
theorem dE {f:Nat→Rat} {k:Nat} : ∀ {n:Nat},k<n→(∀i,i<n→i≠k→f i=0)→S n f=f k
 | n + 1, hk, h => by
   rw[S]
   by_cases e:k=n
   ·subst e
    rw[iD fun i hi=>h i (by omega) (by omega)]
    grind
   ·rw[dE (n:=n) (by omega) fun i hi hik=>h i (by omega) hik,h n (by omega) (by omega)]
    grind
theorem iL {f:Nat→Rat} : ∀ {n:Nat},(∀i,i<n→0≤f i)→0≤S n f
 | 0, _ => Rat.le_refl
 | n + 1, h => by
   have h1:=iL (n:=n) fun i hi=>h i (by omega)
   have h2:=h n (by omega)
   rw[S];grind
theorem Iy {f:Nat→Rat} {k:Nat} : ∀ {n:Nat},(∀i,i<n→0≤f i)→k<n→0<f k→0<S n f
 | n + 1, h, hk, hp => by
   have h1:=iL (n:=n) fun i hi=>h i (by omega)
   have h2:=h n (by omega)
   rw[S]
   by_cases e:k=n
   ·subst e;grind
   ·have:=Iy (n:=n) (fun i hi=>h i (by omega)) (by omega) hp
    grind
def skip (v:Nat→Nat→Rat) (j:Nat):Nat→Nat→Rat:=fun c i=>v (if c<j then c else c+1) (i+1)
def sg (j:Nat):Rat:=if j % 2=0 then 1 else -1
theorem Om (j:Nat):sg (j+1)= - sg j:=by
 unfold sg
 by_cases h:j % 2=0
 ·rw[if_pos h,if_neg (by omega)]
 ·rw[if_neg h,if_pos (by omega)];grind
def det :Nat→(Nat→Nat→Rat)→Rat
 | 0, _ => 1
 | m + 1, v => S (m + 1) fun j => sg j * v j 0 * det m (skip v j)
theorem oZ : ∀ {m:Nat} {v w:Nat→Nat→Rat},(∀j i,j<m→i<m→v j i=w j i)→det m v=det m w
 | 0, _, _, _ => rfl
 | m + 1, v, w, h => by
   rw[det,det]
   refine bE fun j hj=> ?_
   rw[h j 0 hj (by omega),oZ (m:=m) (v:=skip v j) (w:=skip w j) fun c i hc hi=> ?_]
   unfold skip
   split
   ·exact h c (i+1) (by omega) (by omega)
   ·exact h (c+1) (i+1) (by omega) (by omega)
def put (v:Nat→Nat→Rat) (p:Nat) (x:Nat→Rat):Nat→Nat→Rat:=fun j=>if j=p then x else v j
theorem P8 (v:Nat→Nat→Rat) (p:Nat) (x:Nat→Rat):skip (put v p x) p=skip v p:=by
 funext c i
 unfold skip put
 split<;>(rw[if_neg (by omega)])
theorem oC (v:Nat→Nat→Rat) (p j:Nat) (x:Nat→Rat) (h:p≠j):skip (put v p x) j=put (skip v j) (if p<j then p else p - 1) fun i=>x (i+1):=by
 funext c i
 unfold skip put
 by_cases h1:c<j
 ·by_cases h2:p<j
  ·simp only[h1,h2,if_true]
   split<;>rfl
  ·simp only[h1,h2,if_true,if_false]
   rw[if_neg (by omega),if_neg (by omega)]
 ·by_cases h2:p<j
  ·simp only[h1,h2,if_true,if_false]
   rw[if_neg (by omega),if_neg (by omega)]
  ·simp only[h1,h2,if_false]
   by_cases h3:c+1=p
   ·rw[if_pos h3,if_pos (by omega)]
   ·rw[if_neg h3,if_neg (by omega)]
theorem oN (a b:Rat) (x y:Nat→Rat): ∀ {m:Nat} {p:Nat} (v:Nat→Nat→Rat),p<m→det m (put v p fun i=>a*x i+b*y i)=a*det m (put v p x)+b*det m (put v p y)
 | 0, p, v, hp => by omega
 | m + 1, p, v, hp => by
   rw[det,det,det,←iM,←iM,←Q8]
   refine bE fun j hj=> ?_
   by_cases h:p=j
   ·subst h
    simp only[P8]
    simp only[put,if_true]
    grind
   ·rw[oC _ _ _ _ h,oC _ _ _ _ h,oC _ _ _ _ h]
    have ih:=oN a b (fun i=>x (i+1)) (fun i=>y (i+1)) (m:=m) (p:=if p<j then p else p - 1) (skip v j) (by split<;>omega)
    rw[ih]
    have e: ∀z:Nat→Rat,put v p z j 0=v j 0:=fun z=>by simp[put,Ne.symm h]
    simp only[e]
    grind
theorem oP : ∀ {m:Nat} {p:Nat} (v:Nat→Nat→Rat),p+1<m→(∀i,i<m→v p i=v (p+1) i)→det m v=0
 | 0, p, v, hp, h => by omega
 | m + 1, p, v, hp, h => by
   rw[det]
   have hz: ∀j,j<m+1→j≠p→j≠p+1→sg j*v j 0*det m (skip v j)=0:=fun j hj h1 h2=>by
    have:det m (skip v j)=0:=by
     by_cases h3:j<p
     ·refine oP (p:=p - 1) _ (by omega) fun i hi=> ?_
      unfold skip
      rw[if_neg (by omega),if_neg (by omega),show p - 1+1=p by omega]
      exact h (i+1) (by omega)
     ·refine oP (p:=p) _ (by omega) fun i hi=> ?_
      unfold skip
      rw[if_pos (by omega),if_pos (by omega)]
      exact h (i+1) (by omega)
    rw[this];grind
   have he:det m (skip v p)=det m (skip v (p+1)):=oZ fun c i hc hi=>by
    unfold skip
    by_cases h1:c<p
    ·rw[if_pos h1,if_pos (by omega)]
    ·by_cases h2:c=p
     ·subst h2
      rw[if_neg (by omega),if_pos (by omega)]
      exact(h (i+1) (by omega)).symm
     ·rw[if_neg (by omega),if_neg (by omega)]
   have h0:=h 0 (by omega)
   have key: ∀n,n≤m+1→S n (fun j=>sg j*v j 0*det m (skip v j))=if n=p+1 then sg p*v p 0*det m (skip v p) else 0:=by
    intro n
    induction n with
    | zero => intro _; rw [if_neg (by omega)]; rfl
    | succ n ih =>
      intro hn
      rw[S,ih (by omega)]
      by_cases e1:n=p
      ·subst e1
       rw[if_neg (by omega),if_pos rfl];grind
      ·by_cases e2:n=p+1
       ·subst e2
        rw[if_pos rfl,if_neg (by omega),Om,he,h0];grind
       ·rw[if_neg (by omega),if_neg (by omega),hz n (by omega) e1 e2];grind
   rw[key (m+1) (Nat.le_refl _),if_neg (by omega)]
theorem wV (v:Nat→Nat→Rat) (p:Nat):put v p (v p)=v:=by
 funext j;unfold put;split
 ·rename_i h;rw[h]
 ·rfl
theorem put_comm (v:Nat→Nat→Rat) {p q:Nat} (h:p≠q) (x y:Nat→Rat):put (put v p x) q y=put (put v q y) p x:=by
 funext j;unfold put
 by_cases h1:j=q
 ·rw[if_pos h1,if_neg (by omega),if_pos h1]
 ·rw[if_neg h1]
  by_cases h2:j=p
  ·rw[if_pos h2];rw[if_pos h2]
  ·rw[if_neg h2,if_neg h2];rw[if_neg h1]
theorem Hk {m p:Nat} (v:Nat→Nat→Rat) (hp:p+1<m) (x y:Nat→Rat):det m (put (put v p x) (p+1) y)= - det m (put (put v p y) (p+1) x):=by
 have hz:det m (put (put v p fun i=>1*x i+1*y i) (p+1) fun i=>1*x i+1*y i)=0:=oP (p:=p) _ hp fun i hi=>by
  simp[put]
 rw[oN 1 1 x y (p:=p+1) _ hp,put_comm v (show p≠p+1 by omega) _ x,put_comm v (show p≠p+1 by omega) _ y,oN 1 1 x y (p:=p) _ (by omega),oN 1 1 x y (p:=p) _ (by omega)] at hz
 have z1:det m (put (put v (p+1) x) p x)=0:=oP (p:=p) _ hp fun i hi=>by simp[put]
 have z2:det m (put (put v (p+1) y) p y)=0:=oP (p:=p) _ hp fun i hi=>by simp[put]
 rw[put_comm v (show p≠p+1 by omega) x y,put_comm v (show p≠p+1 by omega) y x]
 rw[z1,z2] at hz
 grind
theorem G0 {m:Nat} : ∀(d p:Nat) (v:Nat→Nat→Rat),p+1+d<m→(∀i,i<m→v p i=v (p+1+d) i)→det m v=0
 | 0, p, v, hp, h => oP v hp h
 | d + 1, p, v, hp, h => by
   have e:v=put (put v (p+1+d) (v (p+1+d))) (p+1+d+1) (v (p+1+d+1)):=by rw[wV,wV]
   rw[e,Hk v (by omega)]
   have:det m (put (put v (p+1+d) (v (p+1+d+1))) (p+1+d+1) (v (p+1+d)))=0:=by
    refine G0 d p _ (by omega) fun i hi=> ?_
    unfold put
    rw[if_neg (show ¬ p=p+1+d+1 by omega),if_neg (show ¬ p=p+1+d by omega),if_neg (show ¬ p+1+d=p+1+d+1 by omega),if_pos rfl]
    exact h i hi
   rw[this];grind
theorem It {m p q:Nat} (v:Nat→Nat→Rat) (hp:p<m) (hq:q<m) (hn:p≠q) (h: ∀i,i<m→v p i=v q i):det m v=0:=by
 rcases Nat.lt_or_gt_of_ne hn with h1 | h1
 ·exact G0 (q - p - 1) p v (by omega) (by rw[show p+1+(q - p - 1)=q by omega];exact h)
 ·exact G0 (p - q - 1) q v (by omega) (by rw[show q+1+(p - q - 1)=p by omega];exact fun i hi=>(h i hi).symm)
theorem Gl {m p:Nat} (v:Nat→Nat→Rat) (hp:p<m):det m (put v p fun _=>0)=0:=by
 have:=oN 0 0 (fun _=>0) (fun _=>0) v hp
 simp only[Rat.zero_mul,Rat.zero_add] at this
 exact this
theorem By {m p:Nat} (v:Nat→Nat→Rat) (hp:p<m) (x:Nat→Rat) (u:Nat→Nat→Rat): ∀n,det m (put v p fun i=>S n fun j=>x j*u j i)=S n fun j=>x j*det m (put v p (u j))
 | 0 => by simp only [S]; exact Gl v hp
 | n + 1 => by
   have:=oN 1 (x n) (fun i=>S n fun j=>x j*u j i) (u n) v hp
   simp only[S]
   rw[←By v hp x u n]
   simp only[Rat.one_mul] at this
   exact this
theorem Wd {m p:Nat} (v:Nat→Nat→Rat) (hp:p<m) (x y:Nat→Rat) (h: ∀i,i<m→y i=S m fun j=>x j*v j i):det m (put v p y)=x p*det m v:=by
 have e:det m (put v p y)=det m (put v p fun i=>S m fun j=>x j*v j i):=oZ fun j i hj hi=>by
  unfold put;split
  ·exact h i hi
  ·rfl
 rw[e,By v hp,dE hp,wV]
 intro j hj hjp
 rw[It (p:=p) (q:=j) _ hp hj (Ne.symm hjp) (fun i hi=>by simp[put,hjp])]
 grind
def isInt (q:Rat):Prop:= ∃z:Int,q=z
theorem B3 {a b:Rat} :isInt a→isInt b→isInt (a+b):=fun⟨x,hx⟩ ⟨y,hy⟩=>⟨x+y,by rw[hx,hy,Rat.intCast_add]⟩
theorem jW {a b:Rat} :isInt a→isInt b→isInt (a*b):=fun⟨x,hx⟩ ⟨y,hy⟩=>⟨x*y,by rw[hx,hy,Rat.intCast_mul]⟩
theorem uV {f:Nat→Rat} : ∀ {n:Nat},(∀i,i<n→isInt (f i))→isInt (S n f)
 | 0, _ => ⟨0, rfl⟩
 | n + 1, h => B3 (uV fun i hi => h i (by omega)) (h n (by omega))
theorem Lk (j:Nat):isInt (sg j):=by
 unfold sg;split
 ·exact⟨1,rfl⟩
 ·exact⟨-1,rfl⟩
theorem E8 : ∀ {m:Nat} {v:Nat→Nat→Rat},(∀j i,j<m→i<m→isInt (v j i))→isInt (det m v)
 | 0, _, _ => ⟨1, rfl⟩
 | m + 1, v, h => by
   rw[det]
   refine uV fun j hj=>jW (jW (Lk j) (h j 0 hj (by omega))) (E8 fun c i hc hi=> ?_)
   unfold skip
   split
   ·exact h c (i+1) (by omega) (by omega)
   ·exact h (c+1) (i+1) (by omega) (by omega)
def lid (K:Nat):Nat→Nat
 | 0 => 1
 | m + 1 => (m + 1) * (K * lid K m)
theorem Br {f:Nat→Rat} {B:Rat} : ∀ {n:Nat},(∀i,i<n→ -B≤f i∧f i≤B)→ -((n:Rat)*B)≤S n f∧S n f≤(n:Rat)*B
 | 0, _ => by simp [S]
 | n + 1, h => by
   have h1:=Br (n:=n) fun i hi=>h i (by omega)
   have h2:=h n (by omega)
   rw[S,show((n+1:Nat):Rat)=(n:Rat)+1 by simp[Rat.natCast_add]]
   grind
theorem rP {a b A B:Rat} (ha: -A≤a∧a≤A) (hb: -B≤b∧b≤B): -(A*B)≤a*b∧a*b≤A*B:=by
 have h1:0≤(A - a)*(B+b):=Rat.mul_nonneg (by grind) (by grind)
 have h2:0≤(A+a)*(B - b):=Rat.mul_nonneg (by grind) (by grind)
 have h3:0≤(A - a)*(B - b):=Rat.mul_nonneg (by grind) (by grind)
 have h4:0≤(A+a)*(B+b):=Rat.mul_nonneg (by grind) (by grind)
 constructor<;>grind
theorem Ad {K:Nat} : ∀ {m:Nat} {v:Nat→Nat→Rat},(∀j i,j<m→i<m→ -(K:Rat)≤v j i∧v j i≤K)→ -(lid K m:Rat)≤det m v∧det m v≤lid K m
 | 0, _, _ => by simp [det, lid]; decide
 | m + 1, v, h => by
   rw[det,lid,Rat.natCast_mul,Rat.natCast_mul]
   refine Br fun j hj=> ?_
   have h1:=h j 0 hj (by omega)
   have h2: -(lid K m:Rat)≤det m (skip v j)∧det m (skip v j)≤lid K m:=Ad fun c i hc hi=>by
    unfold skip
    split
    ·exact h c (i+1) (by omega) (by omega)
    ·exact h (c+1) (i+1) (by omega) (by omega)
   refine rP ?_ h2
   unfold sg
   split<;>grind
theorem X4 : ∀(m:Nat) (v:Nat→Nat→Rat),(∀j i,j<m→i<m→v j i=if j=i then 1 else 0)→det m v=1
 | 0, _, _ => rfl
 | m + 1, v, h => by
   rw[det,dE (k:=0) (by omega)]
   ·rw[h 0 0 (by omega) (by omega),if_pos rfl,X4 m (skip v 0) fun c i hc hi=> ?_]
    ·simp[sg]
    ·unfold skip
     rw[if_neg (by omega),h (c+1) (i+1) (by omega) (by omega)]
     by_cases e:c=i
     ·rw[if_pos e,if_pos (by omega)]
     ·rw[if_neg e,if_neg (by omega)]
   ·intro j hj h0
    rw[h j 0 hj (by omega),if_neg h0]
    grind

structure Tab where
 X:Nat→Nat→Rat
 bs:Nat→Nat
def piv (t:Tab) (r k:Nat):Tab:=⟨fun i c=>if i=r then t.X r c / t.X r k else t.X i c - t.X i k*(t.X r c / t.X r k),fun i=>if i=r then k else t.bs i⟩
structure TI (m : Nat) (E : Nat → Nat → Rat) (t : Tab) : Prop where
 row: ∀i,i<m→ ∃U:Nat→Rat,∀c,t.X i c=S m fun l=>U l*E l c
 col: ∀l,l<m→ ∀c,E l c=S m fun i=>t.X i c*E l (t.bs i)
 unit: ∀i j,i<m→j<m→t.X i (t.bs j)=if i=j then 1 else 0
theorem pU (t:Tab) (r k c:Nat):(piv t r k).X r c=t.X r c / t.X r k:=by simp[piv]
theorem mB (t:Tab) {r i:Nat} (k c:Nat) (h:i≠r):(piv t r k).X i c=t.X i c - t.X i k*(t.X r c / t.X r k):=by simp[piv,h]
theorem dD (t:Tab) (r k:Nat):(piv t r k).bs r=k:=by simp[piv]
theorem cI (t:Tab) {r i:Nat} (k:Nat) (h:i≠r):(piv t r k).bs i=t.bs i:=by simp[piv,h]
theorem Cm {m:Nat} (t:Tab) {r k:Nat} (hr:r<m) (hp:t.X r k≠0) (g:Nat→Rat) (c:Nat):
  S m (fun i=>(piv t r k).X i c*g ((piv t r k).bs i))=S m (fun i=>t.X i c*g (t.bs i)) - (t.X r c / t.X r k)*(S m (fun i=>t.X i k*g (t.bs i)) - g k):=by
 have e:S m (fun i=>(piv t r k).X i c*g ((piv t r k).bs i))=S m (fun i=>(t.X i c*g (t.bs i) - (t.X r c / t.X r k)*(t.X i k*g (t.bs i)))+if i=r then(t.X r c / t.X r k)*g k else 0):=bE fun i hi=>by
  by_cases h:i=r
  ·subst h
   rw[pU,dD,if_pos rfl]
   grind
  ·rw[mB t k c h,cI t k h,if_neg h]
   grind
 rw[e,Q8,C0,iM,dE (f:=fun i=>if i=r then(t.X r c / t.X r k)*g k else 0) hr (fun i _ h=>if_neg h),if_pos rfl]
 grind
theorem TI.piv {m:Nat} {E:Nat→Nat→Rat} {t:Tab} (h:TI m E t) {r k:Nat} (hr:r<m) (hp:t.X r k≠0):TI m E (piv t r k):=by
 refine⟨fun i hi=> ?_,fun l hl c=> ?_,fun i j hi hj=> ?_⟩
 ·obtain⟨V,hV⟩:=h.row r hr
  by_cases e:i=r
  ·subst e
   refine⟨fun l=>V l / t.X i k,fun c=> ?_⟩
   rw[pU,hV c]
   rw[show(fun l=>V l / t.X i k*E l c)=fun l=>(t.X i k)⁻¹*(V l*E l c) from funext fun l=>by grind,iM]
   grind
  ·obtain⟨U,hU⟩:=h.row i hi
   refine⟨fun l=>U l - t.X i k / t.X r k*V l,fun c=> ?_⟩
   rw[mB t k c e,hU c,hV c]
   rw[show(fun l=>(U l - t.X i k / t.X r k*V l)*E l c)=fun l=>U l*E l c - (t.X i k / t.X r k)*(V l*E l c) from funext fun l=>by grind,C0,iM]
   grind
 ·rw[Cm t hr hp (fun x=>E l x) c,←h.col l hl c,←h.col l hl k]
  grind
 ·by_cases ej:j=r
  ·subst ej
   rw[dD]
   by_cases ei:i=j
   ·subst ei;rw[pU,if_pos rfl];grind
   ·rw[mB t k k ei,if_neg ei];grind
  ·rw[cI t k ej]
   have hrj:=h.unit r j hr hj
   rw[if_neg (Ne.symm ej)] at hrj
   by_cases ei:i=r
   ·subst ei;rw[pU,if_neg (Ne.symm ej),hrj];grind
   ·rw[mB t k _ ei,h.unit i j hi hj,hrj];grind
theorem TI.Qb {m:Nat} {E:Nat→Nat→Rat} {t t':Tab} (h:TI m E t) (h':TI m E t') {i:Nat} (hi:i<m) (c:Nat):t'.X i c=S m fun j=>t.X j c*t'.X i (t.bs j):=by
 obtain⟨U,hU⟩:=h'.row i hi
 rw[hU c]
 have e1:S m (fun l=>U l*E l c)=S m fun l=>S m fun j=>t.X j c*(U l*E l (t.bs j)):=bE fun l hl=>by
  rw[h.col l hl c,←iM]
  exact bE fun j _=>by grind
 rw[e1,qE]
 refine bE fun j hj=> ?_
 rw[iM,hU (t.bs j)]
theorem TI.uniq {m:Nat} {E:Nat→Nat→Rat} {t t':Tab} (h:TI m E t) (h':TI m E t') (hb: ∀i,i<m→t.bs i=t'.bs i) {i:Nat} (hi:i<m) (c:Nat):t'.X i c=t.X i c:=by
 rw[h.Qb h' hi c,dE hi]
 ·rw[hb i hi,h'.unit i i hi hi,if_pos rfl];grind
 ·intro j hj hne
  rw[hb j hj,h'.unit i j hi hj,if_neg (Ne.symm hne)];grind
theorem TI.inj {m:Nat} {E:Nat→Nat→Rat} {t:Tab} (h:TI m E t) {i j:Nat} (hi:i<m) (hj:j<m) (e:t.bs i=t.bs j):i=j:=by
 have h1:=h.unit i i hi hi
 have h2:=h.unit i j hi hj
 rw[←e,h1] at h2
 by_cases hij:i=j
 ·exact hij
 ·rw[if_pos rfl,if_neg hij] at h2;exact absurd h2 (by decide)
def rc (m:Nat) (w:Nat→Rat) (t:Tab) (c:Nat):Rat:=w c - S m fun i=>t.X i c*w (t.bs i)
theorem kP {m:Nat} {E:Nat→Nat→Rat} {t:Tab} (h:TI m E t) (w:Nat→Rat) {j:Nat} (hj:j<m):rc m w t (t.bs j)=0:=by
 unfold rc
 rw[dE hj,h.unit j j hj hj,if_pos rfl]
 ·grind
 ·intro i hi hne
  rw[h.unit i j hi hj,if_neg hne];grind
theorem Hb {m:Nat} (w:Nat→Rat) (t:Tab) {r k:Nat} (hr:r<m) (hp:t.X r k≠0) (c:Nat):rc m w (piv t r k) c=rc m w t c - rc m w t k*(t.X r c / t.X r k):=by
 unfold rc
 rw[Cm t hr hp w c]
 grind
theorem Ks {m:Nat} {E:Nat→Nat→Rat} {t t':Tab} (h:TI m E t) (h':TI m E t') (w:Nat→Rat) (c:Nat):rc m w t' c=rc m w t c+S m fun i=>t.X i c*rc m w t' (t.bs i):=by
 unfold rc
 have e1:S m (fun i=>t.X i c*(w (t.bs i) - S m fun j=>t'.X j (t.bs i)*w (t'.bs j)))=S m (fun i=>t.X i c*w (t.bs i)) - S m fun j=>t'.X j c*w (t'.bs j):=by
  rw[show(fun i=>t.X i c*(w (t.bs i) - S m fun j=>t'.X j (t.bs i)*w (t'.bs j)))=fun i=>t.X i c*w (t.bs i) - S m fun j=>t.X i c*t'.X j (t.bs i)*w (t'.bs j) from funext fun i=>by
   rw[←show t.X i c*(S m fun j=>t'.X j (t.bs i)*w (t'.bs j))=S m fun j=>t.X i c*t'.X j (t.bs i)*w (t'.bs j) from by
    rw[←iM];exact bE fun j _=>by grind]
   grind,C0,qE]
  congr 1
  refine bE fun j hj=> ?_
  rw[h.Qb h' hj c,←mY]
 rw[e1]
 grind
def Sol (m N:Nat) (X:Nat→Nat→Rat) (b:Nat) (x:Nat→Rat):Prop:= ∀i,i<m→S N (fun c=>X i c*x c)=X i b
theorem mL {m:Nat} {E:Nat→Nat→Rat} {t:Tab} (h:TI m E t) (N b:Nat) (x:Nat→Rat):Sol m N E b x ↔ Sol m N t.X b x:=by
 constructor
 ·intro hE i hi
  obtain⟨U,hU⟩:=h.row i hi
  have e:S N (fun c=>t.X i c*x c)=S m fun l=>U l*S N fun c=>E l c*x c:=by
   rw[show(fun c=>t.X i c*x c)=fun c=>S m fun l=>U l*E l c*x c from funext fun c=>by rw[hU c,←mY],qE]
   refine bE fun l _=> ?_
   rw[←iM]
   exact bE fun c _=>by grind
  rw[e,hU b]
  exact bE fun l hl=>by rw[hE l hl]
 ·intro hX l hl
  have e:S N (fun c=>E l c*x c)=S m fun i=>(S N fun c=>t.X i c*x c)*E l (t.bs i):=by
   rw[show(fun c=>E l c*x c)=fun c=>S m fun i=>t.X i c*E l (t.bs i)*x c from funext fun c=>by rw[h.col l hl c,←mY],qE]
   refine bE fun i _=> ?_
   rw[←mY]
   exact bE fun c _=>by grind
  rw[e,h.col l hl b]
  exact bE fun i hi=>by rw[hX i hi]
def gE (Q:Nat) (v:Nat→Rat):Prop:= ∃q,q<Q∧0<v q∧ ∀j,j<q→v j=0
def xX (Q:Nat) (v:Nat→Rat):Prop:= ∀q,q<Q→v q=0
theorem Ok : ∀(Q:Nat) (v:Nat→Rat),gE Q v∨xX Q v∨gE Q fun q=> - v q
 | 0, v => .inr (.inl fun q hq => by omega)
 | Q + 1, v => by
   rcases Ok Q v with ⟨q,h1,h2,h3⟩| h | ⟨q,h1,h2,h3⟩
   ·exact .inl ⟨q,by omega,h2,h3⟩
   ·by_cases h0:0<v Q
    ·exact .inl ⟨Q,by omega,h0,fun j hj=>h j hj⟩
    ·by_cases h1:v Q=0
     ·refine .inr (.inl fun q hq=> ?_)
      by_cases e:q=Q
      ·rw[e];exact h1
      ·exact h q (by omega)
     ·exact .inr (.inr ⟨Q,by omega,by grind,fun j hj=>by have:=h j hj;grind⟩)
   ·exact .inr (.inr ⟨q,by omega,h2,h3⟩)
theorem gS {Q:Nat} {v:Nat→Rat} (h:gE Q v) (h0:xX Q v):False:=by
 obtain⟨q,h1,h2,_⟩:=h
 rw[h0 q h1] at h2
 exact absurd h2 (by decide)
theorem J0 {Q:Nat} {v:Nat→Rat} (h:gE Q v) (h':gE Q fun q=> - v q):False:=by
 obtain⟨q,h1,h2,h3⟩:=h
 obtain⟨q',h1',h2',h3'⟩:=h'
 rcases Nat.lt_trichotomy q q' with h | h | h
 ·have:=h3' q h;grind
 ·subst h;grind
 ·have:=h3 q' h;grind
theorem M5 {Q:Nat} {u v:Nat→Rat} (h:gE Q u) (h':gE Q v):gE Q fun q=>u q+v q:=by
 obtain⟨q,h1,h2,h3⟩:=h
 obtain⟨q',h1',h2',h3'⟩:=h'
 rcases Nat.lt_trichotomy q q' with h | h | h
 ·exact⟨q,h1,by have:=h3' q h;grind,fun j hj=>by have:=h3 j hj;have:=h3' j (by omega);grind⟩
 ·subst h;exact⟨q,h1,by grind,fun j hj=>by have:=h3 j hj;have:=h3' j hj;grind⟩
 ·exact⟨q',h1',by have:=h3 q' h;grind,fun j hj=>by have:=h3 j (by omega);have:=h3' j hj;grind⟩
theorem C7 {Q:Nat} {u v:Nat→Rat} (h:gE Q u) (h':xX Q v):gE Q fun q=>u q+v q:=by
 obtain⟨q,h1,h2,h3⟩:=h
 exact⟨q,h1,by have:=h' q h1;grind,fun j hj=>by have:=h3 j hj;have:=h' j (by omega);grind⟩
theorem rC {Q:Nat} {v:Nat→Rat} {a:Rat} (ha:0<a) (h:gE Q v):gE Q fun q=>a*v q:=by
 obtain⟨q,h1,h2,h3⟩:=h
 exact⟨q,h1,Rat.mul_pos ha h2,fun j hj=>by have:=h3 j hj;grind⟩
theorem dP {Q:Nat} {u v:Nat→Rat} (h:gE Q u) (e: ∀q,q<Q→u q=v q):gE Q v:=by
 obtain⟨q,h1,h2,h3⟩:=h
 exact⟨q,h1,by rw[←e q h1];exact h2,fun j hj=>by rw[←e j (by omega)];exact h3 j hj⟩
theorem xZ {Q:Nat} {f:Nat→Nat→Rat} : ∀ {n:Nat} {u:Nat→Rat},gE Q u→(∀i,i<n→gE Q (f i)∨xX Q (f i))→gE Q fun q=>u q+S n fun i=>f i q
 | 0, u, h, _ => dP h fun q _ => by rw [S]; grind
 | n + 1, u, h, hf => by
   have ih:=xZ (n:=n) h fun i hi=>hf i (by omega)
   rcases hf n (by omega) with h1 | h1
   ·exact dP (M5 ih h1) fun q _=>by rw[S];grind
   ·exact dP (C7 ih h1) fun q _=>by rw[S];grind
end Go.Proofs.YticmgmemnpcbbaaGreat.Lp
